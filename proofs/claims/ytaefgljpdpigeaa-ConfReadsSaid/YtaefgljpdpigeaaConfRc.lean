/- The walk of the reference's reader (layer 14): Code. -/
import Derived.Test.YtaefgljpdpigeaaConfZ
import Derived.Test.YtaefgljpdpigeaaConfV
import Derived.Test.YtaefgljpdpigeaaReader
namespace Go.Proofs.Ytaefgljpdpigeaa.Conf
open Go.RowKit Go.Fb Go.CodeP Go.BytesP Go.ReaderP
set_option linter.unusedVariables false
/-- How a program stands while the reference reads it. -/
structure RcSt (w wr : World) (r : Nat) (A : Option Addr) (n c : Nat) (s : St) (rl : Option Nat) (Ac : Option Addr) (cc : Nat) (acc : List Ins) : Prop where
  at_ : Reader.At wr r A n c s
  row : Row wr 5 rl Ac acc.length cc (acc.flatMap Code.cellsI)
  wf : ∀ x ∈ acc, Code.Wf x
  own : ∀ g, rl = some g → w.heap.size ≤ g
  keep : Kept (fun k => k = r) w wr
/-- What a program's reading leaves. -/
def RcEnd (w w' : World) (y : Ending) (r : Nat) (A : Option Addr) (n c : Nat) (bs : List UInt8) (many : Nat) (locks : Int) (s : St) : Prop :=
  ∃ (l : List Ins) (s' : St) (rl : Option Nat) (Ac : Option Addr) (cc : Nat), y = .returned (.slice Ac l.length cc) ∧ RcSt w w' r A n c s' rl Ac cc l ∧ Run (codeD bs many locks many []) s s' l
theorem insD_short {b : List UInt8} {n locks : Int} {p : Nat} (h : b.length < p + 12) : insD b n locks p = .error (5, b.length) := by unfold insD; rw [if_pos h]
theorem insD_ok {b : List UInt8} {n locks : Int} {p : Nat} (h : ¬ b.length < p + 12) (h2 : (wrong (get ((b.drop p).take 12)) n locks).1 = 0) : insD b n locks p = .ok (get ((b.drop p).take 12), p + 12) := by unfold insD; rw [if_neg h, if_pos h2]
theorem insD_bad {b : List UInt8} {n locks : Int} {p : Nat} (h : ¬ b.length < p + 12) (h2 : (wrong (get ((b.drop p).take 12)) n locks).1 ≠ 0) : insD b n locks p = .error ((wrong (get ((b.drop p).take 12)) n locks).1, p + (wrong (get ((b.drop p).take 12)) n locks).2) := by unfold insD; rw [if_neg h, if_neg h2]
theorem wrong_at (x : Ins) (n locks : Int) : 0 ≤ (wrong x n locks).2 ∧ (wrong x n locks).2 ≤ 4 := by
  unfold wrong
  (repeat' split) <;> simp
theorem RcSt.push {w wr w7 w8 : World} {r : Nat} {A Ac A8 : Option Addr} {n c p cc c8 : Nat} {rl r8 : Option Nat} {acc : List Ins} {x : Ins} (h : RcSt w wr r A n c (.ok p) rl Ac cc acc) (hrl : r < w.heap.size) (hk7 : New wr w7) (hx : Code.Wf x) (hrd8 : Reader.Rd w8 r A n c p 0 0) (hr8 : Row w8 5 r8 A8 (acc.length + 1) c8 (acc.flatMap Code.cellsI ++ Code.cellsI x)) (hk8 : Kept (fun k => rl = some k) w7 w8)
    (hn8 : ∀ k, r8 = some k → rl = some k ∨ w7.heap.size ≤ k) (hp : p + 12 ≤ n) : RcSt w (w8.setCell ⟨r, 1, none⟩ (.int .i64 ((p : Int) + 12))) r A n c (.ok (p + 12)) r8 A8 c8 (acc ++ [x]) := by
  have hl : (acc ++ [x]).length = acc.length + 1 := by rw [List.length_append]; rfl
  have h1 := h.keep.size
  have h7 := hk7.size
  have hks : Kept (fun k => k = r) w8 (w8.setCell ⟨r, 1, none⟩ (.int .i64 ((p : Int) + 12))) := Kept.set1 _ _ _ _
  have ho : ∀ g, r8 = some g → w.heap.size ≤ g := fun g hg => by
    rcases hn8 g hg with e | e
    · exact h.own g e
    · omega
  refine ⟨⟨?_, hp⟩, ?_, ?_, ho, ?_⟩
  · have := Blk.set (i := 1) hrd8 (.int .i64 ((p : Int) + 12))
    rw [show ((p + 12 : Nat) : Int) = (p : Int) + 12 from rfl]
    exact this
  · rw [hl, List.flatMap_append, List.flatMap_singleton]
    exact hr8.of_kept (by decide) hks (fun g hg e => by have := ho g hg; omega)
  · intro y hy
    rcases List.mem_append.1 hy with hy | hy
    · exact h.wf y hy
    · rw [List.mem_singleton.1 hy]; exact hx
  · refine Kept.setCell (Kept.step (h.keep.trans (hk7.mono fun _ _ h => h.elim)) hk8 fun i hi e => ?_) (.inr rfl) _
    have := h.own i e
    omega
section
variable {w : World} {r : Nat} {A : Option Addr} {n c : Nat} {s : St} {B : Nat} {bs : List UInt8}
set_option maxRecDepth 100000 in
set_option maxHeartbeats 2000000 in
theorem rcode_any {many : Nat} {locks : Int} (hr : Reader.At w r A n c s) (hb : SliceOf Rep.byte w B A n c bs) (hB : B ≤ r) (hm : many ≤ 65535) :
    Calls Try.prog 72 #[.pointer (some ⟨r, 0, none⟩), .int .i64 many, .int .i64 locks] w fun y w' => RcEnd w w' y r A n c bs many locks s := by
  unfold RcEnd
  have hrl := hr.lt
  have hn := hb.len
  have hbd := hb.bound
  have HR := Lib.hid hr
  have HB := Lib.hid hb
  have HN := Lib.hid hn
  clear hr hb hn
  go_enter Try.func72, Try.ntmps72
  go_wp2_with fail
  have hka : New w (w.alloc (.cells #[] 62)) := (Kept.refl _ _).alloc _
  obtain ⟨r0, hrow0, hr0⟩ := Row.of_make (T := 62) (size := 5) w [] 0 rfl (by decide)
  rw [show ([] : List Value).toArray = #[] from rfl] at hrow0
  have HKA := Lib.hid hka
  have HROW0 := Lib.hid hrow0
  clear hka hrow0
  go_loopw [7, 8] (fun v i wr => ∃ (k : Nat) (s1 : St) (rl : Option Nat) (Ac : Option Addr) (cc : Nat) (l : List Ins), i = .int .i64 k ∧ k ≤ many ∧ l.length = k ∧ v = .slice Ac l.length cc ∧ RcSt w wr r A n c s1 rl Ac cc l ∧ Hid (∀ s' ls, Run (codeD bs many locks (many - k) l) s1 s' ls → Run (codeD bs many locks many []) s s' ls)) (fun _ i _ => (many - intOf i).toNat)
  case atStart => exact ⟨0, s, r0, _, 0, [], rfl, Nat.zero_le _, rfl, rfl, ⟨HR.out.kept HKA.out id, HROW0.out, by simp, fun g hg => by rw [hr0 g hg]; exact Nat.le_refl _, HKA.out.mono fun _ _ h => h.elim⟩, Lib.hid fun s' ls h => h⟩
  case round =>
    obtain ⟨k, s1, rl, Ac, cc, l, rfl, hk, hll, rfl, hst, hrest⟩ := hrel
    subst hll
    clear HKA HROW0 hr0 r0
    by_cases hlt : l.length < many
    · cases s1 with
      | error e =>
        have hfin := hrest.out (.error e) l rfl
        obtain ⟨a, hrd, he⟩ := hst.at_
        have y2 := Blk.cell hrd 2
        simp only [List.getElem?_toArray, List.getElem?_cons_zero, List.getElem?_cons_succ] at y2
        have he' : (e.1 == 0) = false := by simpa using he
        have HST := Lib.hid hst
        have HFIN := Lib.hid hfin
        clear hst hfin
        clear hrest hrd he
        go_wp2_with fail
        go_ret
        exact ⟨l, _, rl, Ac, cc, rfl, HST.out, HFIN.out⟩
      | ok p =>
        obtain ⟨hrd, hp⟩ := hst.at_
        have y0 := Blk.cell hrd 0
        have y1 := Blk.cell hrd 1
        have y2 := Blk.cell hrd 2
        have f1 := Blk.free hrd 1
        simp only [List.getElem?_toArray, List.getElem?_cons_zero, List.getElem?_cons_succ] at y0 y1 y2
        have w1 : IntKind.i64.wrap ((n : Int) - (p : Int)) = (n : Int) - (p : Int) := IntWalk.i64_in _ (by omega)
        by_cases hs : n < p + 12
        · have hfail := fun q => Reader.fail_ok r A n c p 5 n (wr.drewN q) (Reader.Rd.drewN hrd q) (by decide)
          have hI : Run (insD bs many locks) (.ok p) (.error (5, (n : Int))) ⟨0, 0, 0, 0, 0⟩ := by
            unfold Run
            simp only
            rw [insD_short (by have := HN.out; omega)]
            have := HN.out
            simp only [Agr, this]
          have hfin := hrest.out (.error (5, (n : Int))) l (by
            rw [show many - l.length = (many - (l.length + 1)) + 1 by omega]
            exact Run.bind (D1 := insD bs many locks) (D2 := fun x => codeD bs many locks (many - (l.length + 1)) (l ++ [x])) hI rfl (fun p e h => by rw [codeD, h]) (fun p a p' h => by rw [codeD, h]))
          have g1 : (n : Int) - (p : Int) < 12 := by omega
          have HST := Lib.hid hst
          have HFIN := Lib.hid hfin
          have HFAIL := Lib.hid hfail
          clear hst hfin hfail
          clear hrest hrd hI
          go_wp2_with fail
          go_quiet (fail)
          go_wp2_with (go_at_call 51; refine (HFAIL.out _).mono ?_; rintro e w2 ⟨rfl, hr2, hk2⟩; have HR2 := Lib.hid hr2; have HK2 := Lib.hid hk2; clear hr2 hk2)
          go_ret
          have hk3 : Kept (fun k => k = r) wr w2 := ((Kept.refl _ _).drewN _).trans HK2.out
          exact ⟨l, .error (5, (n : Int)), rl, Ac, cc, rfl, ⟨⟨p, HR2.out, show (5 : Int) ≠ 0 by decide⟩, HST.out.row.of_kept (by decide) hk3 (fun g hg e => by have := HST.out.own g hg; omega), HST.out.wf, HST.out.own, HST.out.keep.trans hk3⟩, HFIN.out⟩
        · have hbr : SliceOf Rep.byte wr B A n c bs := HB.out.kept hst.keep (by omega) fun k h1 h2 => by omega
          obtain ⟨b, o, rfl, -, -⟩ := hbr.bytes (by omega)
          have hdr : SliceOf Rep.byte wr B (some ⟨b, o + p, none⟩) (n - p) (c - p) (bs.drop p) := by
            have := hbr.drop (k := p) (by omega)
            rwa [show p * Rep.byte.size = p from Nat.mul_one p] at this
          have hcp : ¬ c = p := by omega
          have hsz := hst.keep.size
          have hget := fun W (hW : New wr W) => Code.ref_get B _ (n - p) (c - p) (bs.drop p) W (hdr.kept hW (by omega) (fun _ _ h => h)) (by have := hW.size; omega) (by omega)
          have g1 : decide ((n : Int) - (p : Int) < 12) = false := by simp; omega
          have hI := fun h2 => insD_ok (b := bs) (n := many) (locks := locks) (p := p) (by have := HN.out; omega) h2
          have hJ := fun h2 => insD_bad (b := bs) (n := many) (locks := locks) (p := p) (by have := HN.out; omega) h2
          have hwf := Code.wf_get ((bs.drop p).take 12) (by have := HN.out; rw [List.length_take, List.length_drop]; omega)
          generalize get ((bs.drop p).take 12) = gx at *
          have hwr := fun W => Code.ref_wrong gx many locks W
          have hat := wrong_at gx many locks
          obtain ⟨o5, a5, b5, d5, i5⟩ := gx
          unfold Code.agg at hget hwr
          have HRD := Lib.hid hrd
          have HST := Lib.hid hst
          have HGET := Lib.hid hget
          have HI := Lib.hid hI
          have HJ := Lib.hid hJ
          have HWF := Lib.hid hwf
          have HWR := Lib.hid hwr
          have HAT := Lib.hid hat
          clear hst hget hI hJ hwf hwr hat
          clear hrd hbr hdr
          go_wp2_with fail
          go_quiet (fail)
          go_upto_region 8 with (fail)
          have HD := Lib.hid (fun q => (Kept.refl (fun _ => False) wr).drewN q)
          generalize hW1 : wr.drewN _ = W1
          have hk1 : New wr W1 := hW1 ▸ HD.out _
          have hrd1 : Reader.Rd W1 r (some ⟨b, o, none⟩) n c p 0 0 := Blk.kept HRD.out hk1 id
          clear hW1 y0 y1 y2 f1 HD
          have y0 := Blk.cell hrd1 0
          have y1 := Blk.cell hrd1 1
          simp only [List.getElem?_toArray, List.getElem?_cons_zero, List.getElem?_cons_succ] at y0 y1
          have ka : New W1 (W1.alloc (.cells #[.int .i64 0, .int .i64 0, .int .i64 0, .int .i64 0, .int .i64 0] 62)) := (Kept.refl _ _).alloc _
          have ba : Blk (W1.alloc (.cells #[.int .i64 0, .int .i64 0, .int .i64 0, .int .i64 0, .int .i64 0] 62)).drew W1.heap.size 62 #[.int .i64 0, .int .i64 0, .int .i64 0, .int .i64 0, .int .i64 0] := Blk.made W1 _ _
          have hra := Blk.kept hrd1 ka id
          have v0 := Blk.cell hra 0
          have v1 := Blk.cell hra 1
          simp only [List.getElem?_toArray, List.getElem?_cons_zero, List.getElem?_cons_succ] at v0 v1
          have hk1d : New wr W1.drew := hk1.drew
          have hk1a : New wr (W1.alloc (.cells #[.int .i64 0, .int .i64 0, .int .i64 0, .int .i64 0, .int .i64 0] 62)).drew := (hk1.trans ka).drew
          have HK1D := Lib.hid hk1d
          have HK1A := Lib.hid hk1a
          have HRD1 := Lib.hid hrd1
          have KA := Lib.hid ka
          have BA := Lib.hid ba
          clear hk1d hk1a hrd1 ka ba
          clear hk1 hra
          go_region_law (first
            | (refine step_call (f := 79) (enters Try.func79 rfl rfl) #[.tmp 52] #[27] (by rfl) (by rfl) (by rfl) (HGET.out W1.drew HK1D.out) ?_
               rintro e w5 ⟨rfl, hk5⟩
               have HBX := Lib.hid (Blk.made w5 62 #[.int .i64 o5, .int .i64 a5, .int .i64 b5, .int .i64 d5, .int .i64 i5])
               have HK6 := Lib.hid ((HK1D.out.trans hk5).alloc (.cells #[.int .i64 o5, .int .i64 a5, .int .i64 b5, .int .i64 d5, .int .i64 i5] 62))
               clear hk5
               refine ⟨_, rfl, ?_⟩)
            | (refine step_call (f := 79) (enters Try.func79 rfl rfl) #[.tmp 52] #[27] (by rfl) (by rfl) (by rfl) (HGET.out (W1.alloc (.cells #[.int .i64 0, .int .i64 0, .int .i64 0, .int .i64 0, .int .i64 0] 62)).drew HK1A.out) ?_
               rintro e w5 ⟨rfl, hk5⟩
               have hb5 := BA.out.kept hk5 id
               have z0 := hb5.cell 0
               have z1 := hb5.cell 1
               have z2 := hb5.cell 2
               have z3 := hb5.cell 3
               have z4 := hb5.cell 4
               simp only [List.getElem?_toArray, List.getElem?_cons_zero, List.getElem?_cons_succ] at z0 z1 z2 z3 z4
               have q0 := hb5.free 0
               have q1 := hb5.free 1
               have q2 := hb5.free 2
               have q3 := hb5.free 3
               have q4 := hb5.free 4
               have hbx := set5_blk hb5 (.int .i64 o5) (.int .i64 a5) (.int .i64 b5) (.int .i64 d5) (.int .i64 i5)
               have hk6 : New wr (set5 w5 W1.heap.size (.int .i64 o5) (.int .i64 a5) (.int .i64 b5) (.int .i64 d5) (.int .i64 i5)) := (HK1A.out.trans hk5).step (set5_kept w5 W1.heap.size (.int .i64 o5) (.int .i64 a5) (.int .i64 b5) (.int .i64 d5) (.int .i64 i5)) (fun i hi e => by have := HK1D.out.size; have : W1.drew.heap.size = W1.heap.size := rfl; omega)
               unfold set5 at hbx hk6
               have HBX := Lib.hid hbx
               have HK6 := Lib.hid hk6
               clear hbx hk6
               clear hk5 hb5
               refine ⟨_, rfl, ?_⟩)
            | fail)
          all_goals
            clear HGET HK1A HK1D KA BA HRD1 v0 v1 y0 y1
            have hbx := HBX.out
            have hk6 := HK6.out
            have hxl := hbx.lt
            clear HBX HK6
            first | clear z0 z1 z2 z3 z4 q0 q1 q2 q3 q4 | skip
            first | generalize World.setCell _ ⟨W1.heap.size, 4, none⟩ _ = W6 at * | generalize World.alloc w5 _ = W6 at *
            first | generalize W1.heap.size = xb at * | generalize w5.heap.size = xb at *
            have hrd6 := Blk.kept HRD.out hk6 id
            have hs6 := hk6.size
            have x0 := hbx.cell 0
            have x1 := hbx.cell 1
            have x2 := hbx.cell 2
            have x3 := hbx.cell 3
            have x4 := hbx.cell 4
            simp only [List.getElem?_toArray, List.getElem?_cons_zero, List.getElem?_cons_succ] at x0 x1 x2 x3 x4
            have HBX := Lib.hid hbx
            have HK6 := Lib.hid hk6
            have HRD6 := Lib.hid hrd6
            clear hbx hk6 hrd6
            by_cases h0 : (wrong ⟨o5, a5, b5, d5, i5⟩ (many : Int) locks).1 = 0
            · have hw := fun W => HWR.out W
              rw [show Code.rwrong ⟨o5, a5, b5, d5, i5⟩ (many : Int) locks = (0, 0) by unfold Code.rwrong; rw [if_pos h0]] at hw
              have hfin := fun (s' : St) (ls : List Ins) (h2 : Run (codeD bs many locks (many - (l.length + 1)) (l ++ [⟨o5, a5, b5, d5, i5⟩])) (.ok (p + 12)) s' ls) => hrest.out s' ls (by
                rw [show many - l.length = (many - (l.length + 1)) + 1 by omega]
                exact Run.bind (D1 := insD bs many locks) (D2 := fun x => codeD bs many locks (many - (l.length + 1)) (l ++ [x])) (s := .ok p) (s1 := .ok (p + 12)) (s' := s') (a := ⟨o5, a5, b5, d5, i5⟩) (by unfold Run; simp only; rw [HI.out h0]; exact ⟨rfl, rfl⟩) h2 (fun p e h => by rw [codeD, h]) (fun p a p' h => by rw [codeD, h]))
              have w12 : IntKind.i64.wrap ((p : Int) + 12) = (p : Int) + 12 := IntWalk.i64_in _ (by omega)
              have hrow6 := HST.out.row.new (by decide) HK6.out
              have hne : ∀ g, rl = some g → g ≠ r := fun g hg => by have := HST.out.own g hg; omega
              have HW := Lib.hid hw
              have HFIN := Lib.hid hfin
              have HROW6 := Lib.hid hrow6
              have HNE := Lib.hid hne
              clear hw hfin hrow6 hne
              clear h0 HWR HI HJ HAT hrest
              go_wp2_with (first
                | (go_at_call 80
                   refine (HW.out _).mono ?_
                   rintro e w7 ⟨rfl, hk7⟩
                   have hbx7 := HBX.out.kept hk7 id
                   have hrd7 := Blk.kept HRD6.out hk7 id
                   have y0 := hbx7.cell 0
                   have y1 := hbx7.cell 1
                   have y2 := hbx7.cell 2
                   have y3 := hbx7.cell 3
                   have y4 := hbx7.cell 4
                   simp only [List.getElem?_toArray, List.getElem?_cons_zero, List.getElem?_cons_succ] at y0 y1 y2 y3 y4
                   have HROW7 := Lib.hid (HROW6.out.new (by decide) hk7)
                   have HRD7 := Lib.hid hrd7
                   have HK7 := Lib.hid (HK6.out.trans hk7)
                   clear hrd7 hbx7 hk7)
                | (at_builtin
                   refine wpList_append_one (cs := [.int .i64 o5, .int .i64 a5, .int .i64 b5, .int .i64 d5, .int .i64 i5]) Code.tyIns rfl _ _ rfl rfl HROW7.out rfl rfl rfl (by simp [Value.oneCell']) (by unfold maxLen; omega) (by omega) ?_
                   intro r8 A8 c8 w8 hr8 hk8 hn8
                   have hrd8 := Blk.kept HRD7.out hk8 (fun e => HNE.out _ e rfl)
                   have t1 := Blk.cell hrd8 1
                   have g1 := Blk.free hrd8 1
                   simp only [List.getElem?_toArray, List.getElem?_cons_zero, List.getElem?_cons_succ] at t1
                   have HR8 := Lib.hid hr8
                   have HK8 := Lib.hid hk8
                   have HN8 := Lib.hid hn8
                   have HRD8 := Lib.hid hrd8
                   clear hr8 hk8 hn8 hrd8))
              exact ⟨⟨l.length + 1, .ok (p + 12), r8, A8, c8, l ++ [⟨o5, a5, b5, d5, i5⟩], by go_num, by omega, by rw [List.length_append]; rfl, by rw [List.length_append]; rfl, HST.out.push (x := ⟨o5, a5, b5, d5, i5⟩) hrl HK7.out HWF.out HRD8.out HR8.out HK8.out HN8.out (by omega), Lib.hid fun s' ls h2 => HFIN.out s' ls h2⟩, by simp [intOf]; omega⟩
            · have hw := fun W => HWR.out W
              rw [show Code.rwrong ⟨o5, a5, b5, d5, i5⟩ (many : Int) locks = wrong ⟨o5, a5, b5, d5, i5⟩ many locks by unfold Code.rwrong; rw [if_neg h0]] at hw
              have hJ := HJ.out h0
              have hat := HAT.out
              generalize wrong ⟨o5, a5, b5, d5, i5⟩ (many : Int) locks = q at *
              obtain ⟨e1, f1⟩ := q
              simp only at h0 hw hJ hat
              have hfin := hrest.out (.error (e1, (p : Int) + f1)) l (by
                rw [show many - l.length = (many - (l.length + 1)) + 1 by omega]
                exact Run.bind (D1 := insD bs many locks) (D2 := fun x => codeD bs many locks (many - (l.length + 1)) (l ++ [x])) (s := .ok p) (s1 := .error (e1, (p : Int) + f1)) (a := ⟨o5, a5, b5, d5, i5⟩) (by unfold Run; simp only; rw [hJ]; rfl) rfl (fun p e h => by rw [codeD, h]) (fun p a p' h => by rw [codeD, h]))
              have w12 : IntKind.i64.wrap ((p : Int) + f1) = (p : Int) + f1 := IntWalk.i64_in _ (by omega)
              have g9 : (e1 != 0) = true := by simpa using h0
              have hfail := fun W h => Reader.fail_ok r (some ⟨b, o, none⟩) n c p e1 ((p : Int) + f1) W h h0
              have HW := Lib.hid hw
              have HFIN := Lib.hid hfin
              have HFAIL := Lib.hid hfail
              clear hw hfin hfail
              clear HWR HI HJ HAT hrest hJ hat HWF
              go_wp2_with (first
                | (go_at_call 80
                   refine (HW.out _).mono ?_
                   rintro e w7 ⟨rfl, hk7⟩
                   have hrd7 := Blk.kept HRD6.out hk7 id
                   have y1 := Blk.cell hrd7 1
                   simp only [List.getElem?_toArray, List.getElem?_cons_zero, List.getElem?_cons_succ] at y1
                   have HRD7 := Lib.hid hrd7
                   have HK7 := Lib.hid (HK6.out.trans hk7)
                   clear hrd7 hk7)
                | (go_at_call 51
                   refine (HFAIL.out _ HRD7.out).mono ?_
                   rintro e w2 ⟨rfl, hr2, hk2⟩
                   have HR2 := Lib.hid hr2
                   have HK2 := Lib.hid hk2
                   clear hr2 hk2))
              go_ret
              have hk3 : Kept (fun k => k = r) wr w2 := (HK7.out.mono fun _ _ h => h.elim).trans HK2.out
              exact ⟨l, .error (e1, (p : Int) + f1), rl, Ac, cc, rfl, ⟨⟨p, HR2.out, h0⟩, HST.out.row.of_kept (by decide) hk3 (fun g hg e => by have := HST.out.own g hg; omega), HST.out.wf, HST.out.own, HST.out.keep.trans hk3⟩, HFIN.out⟩
    · have hfin := hrest.out s1 l (by rw [show many - l.length = 0 by omega]; exact Run.pure)
      have HST := Lib.hid hst
      have HFIN := Lib.hid hfin
      clear hst hfin
      clear hrest
      go_wp2_with fail
      go_ret
      exact ⟨l, _, rl, Ac, cc, rfl, HST.out, HFIN.out⟩
end
end Go.Proofs.Ytaefgljpdpigeaa.Conf
