/- The reference's readings against the plain decoder's (layer 14). No program in sight. -/
import Derived.Test.YtaefgljpdpigeaaConfD
import Derived.Test.YtaefgljpdpigeaaConfV
import Derived.Test.YtaefgljpdpigeaaReader
import Derived.Test.YtaefgljpdpigeaaConfAw
namespace Go.Proofs.Ytaefgljpdpigeaa.Conf
open Go.RowKit Go.Fb Go.CodeP Go.BytesP Go.ReaderP
set_option linter.unusedVariables false
/-- A number with bounds, by the reference, is the plain one. -/
theorem run_int {b : List UInt8} {m : Nat} {least most low high : Int} {f : Nat → Int} (hl : low ≠ 0) (hh : high ≠ 0) (hf : ∀ v : Nat, f v = if (v : Int) < least then low else if most < (v : Int) then high else 0) (s : St) :
    Run (numD b m f) s (rInt b s m least most low high).2 (rInt b s m least most low high).1.toNat := by
  cases s with
  | error e => rfl
  | ok p =>
    unfold Run numD rInt Agr
    simp only
    by_cases h1 : b.length < p + m
    · rw [if_pos h1, if_pos h1]
    · rw [if_neg h1, if_neg h1, hf]
      by_cases h2 : (numV b p m : Int) < least
      · rw [if_pos h2, if_neg hl]; simp only [if_pos h2]
      · by_cases h3 : most < (numV b p m : Int)
        · rw [if_neg h2, if_pos h3, if_neg hh]; simp only [if_neg h2, if_pos h3]
        · rw [if_neg h2, if_neg h3, if_pos rfl]; simp only [if_neg h2, if_neg h3, Int.toNat_natCast]; exact ⟨trivial, trivial⟩
/-- The bytes that must come, by the reference, are the plain ones. -/
theorem mark_run (b : List UInt8) : ∀ (l : List UInt8) (p : Nat), rMark b (.ok p) l = markD b l p
  | [], p => rfl
  | c :: l, p => by
    unfold rMark markD numD
    by_cases h1 : b.length < p + 1
    · rw [if_pos h1, if_pos h1]; simp only [rMark_error]
    · rw [if_neg h1, if_neg h1]
      by_cases h2 : numV b p 1 = c.toNat
      · have e : (fun v => if v = c.toNat then (0 : Int) else 4) (numV b p 1) = 0 := if_pos h2
        rw [if_pos h2, if_pos e]; exact mark_run b l (p + 1)
      · have e : (fun v => if v = c.toNat then (0 : Int) else 4) (numV b p 1) = 4 := if_neg h2
        rw [if_neg h2, if_neg (show ¬ (fun v => if v = c.toNat then (0 : Int) else 4) (numV b p 1) = 0 by rw [e]; decide), e]; exact rMark_error b _ l
end Go.Proofs.Ytaefgljpdpigeaa.Conf

/- The walk of the reference's reader (layer 14): Code. -/
namespace Go.Proofs.Ytaefgljpdpigeaa.Conf
open Go.RowKit Go.Fb Go.CodeP Go.BytesP Go.ReaderP
set_option linter.unusedVariables false
/-- How a program stands while the reference reads it. -/
structure RcSt (w wr : World) (r : Nat) (A : Option Addr) (n c : Nat) (s : St) (rl : Option Nat) (Ac : Option Addr) (cc : Nat) (acc : List Ins) : Prop where
  at_ : Reader.At wr r A n c s
  row : Row wr 5 rl Ac acc.length cc (acc.flatMap Code.cellsI)
  wf : ∀ x ∈ acc, Code.Wf x
  own : ∀ g, rl = some g → w.heap.size ≤ g
  keep : Kept (fun k => k = r) w wr
/-- What a program's reading leaves. -/
def RcEnd (w w' : World) (y : Ending) (r : Nat) (A : Option Addr) (n c : Nat) (bs : List UInt8) (many : Nat) (locks : Int) (s : St) : Prop :=
  ∃ (l : List Ins) (s' : St) (rl : Option Nat) (Ac : Option Addr) (cc : Nat), y = .returned (.slice Ac l.length cc) ∧ RcSt w w' r A n c s' rl Ac cc l ∧ Run (codeD bs many locks many []) s s' l
theorem insD_short {b : List UInt8} {n locks : Int} {p : Nat} (h : b.length < p + 12) : insD b n locks p = .error (5, b.length) := by unfold insD; rw [if_pos h]
theorem insD_ok {b : List UInt8} {n locks : Int} {p : Nat} (h : ¬ b.length < p + 12) (h2 : (wrong (get ((b.drop p).take 12)) n locks).1 = 0) : insD b n locks p = .ok (get ((b.drop p).take 12), p + 12) := by unfold insD; rw [if_neg h, if_pos h2]
theorem insD_bad {b : List UInt8} {n locks : Int} {p : Nat} (h : ¬ b.length < p + 12) (h2 : (wrong (get ((b.drop p).take 12)) n locks).1 ≠ 0) : insD b n locks p = .error ((wrong (get ((b.drop p).take 12)) n locks).1, p + (wrong (get ((b.drop p).take 12)) n locks).2) := by unfold insD; rw [if_neg h, if_neg h2]
theorem wrong_at (x : Ins) (n locks : Int) : 0 ≤ (wrong x n locks).2 ∧ (wrong x n locks).2 ≤ 4 := by
  unfold wrong
  (repeat' split) <;> simp
theorem RcSt.push {w wr w7 w8 : World} {r : Nat} {A Ac A8 : Option Addr} {n c p cc c8 : Nat} {rl r8 : Option Nat} {acc : List Ins} {x : Ins} (h : RcSt w wr r A n c (.ok p) rl Ac cc acc) (hrl : r < w.heap.size) (hk7 : New wr w7) (hx : Code.Wf x) (hrd8 : Reader.Rd w8 r A n c p 0 0) (hr8 : Row w8 5 r8 A8 (acc.length + 1) c8 (acc.flatMap Code.cellsI ++ Code.cellsI x)) (hk8 : Kept (fun k => rl = some k) w7 w8)
    (hn8 : ∀ k, r8 = some k → rl = some k ∨ w7.heap.size ≤ k) (hp : p + 12 ≤ n) : RcSt w (w8.setCell ⟨r, 1, none⟩ (.int .i64 ((p : Int) + 12))) r A n c (.ok (p + 12)) r8 A8 c8 (acc ++ [x]) := by
  have hl : (acc ++ [x]).length = acc.length + 1 := by rw [List.length_append]; rfl
  have h1 := h.keep.size
  have h7 := hk7.size
  have hks : Kept (fun k => k = r) w8 (w8.setCell ⟨r, 1, none⟩ (.int .i64 ((p : Int) + 12))) := Kept.set1 _ _ _ _
  have ho : ∀ g, r8 = some g → w.heap.size ≤ g := fun g hg => by
    rcases hn8 g hg with e | e
    · exact h.own g e
    · omega
  refine ⟨⟨?_, hp⟩, ?_, ?_, ho, ?_⟩
  · have := Blk.set (i := 1) hrd8 (.int .i64 ((p : Int) + 12))
    rw [show ((p + 12 : Nat) : Int) = (p : Int) + 12 from rfl]
    exact this
  · rw [hl, List.flatMap_append, List.flatMap_singleton]
    exact hr8.of_kept (by decide) hks (fun g hg e => by have := ho g hg; omega)
  · intro y hy
    rcases List.mem_append.1 hy with hy | hy
    · exact h.wf y hy
    · rw [List.mem_singleton.1 hy]; exact hx
  · refine Kept.setCell (Kept.step (h.keep.trans (hk7.mono fun _ _ h => h.elim)) hk8 fun i hi e => ?_) (.inr rfl) _
    have := h.own i e
    omega
section
variable {w : World} {r : Nat} {A : Option Addr} {n c : Nat} {s : St} {B : Nat} {bs : List UInt8}
set_option maxRecDepth 100000 in
set_option maxHeartbeats 2000000 in
theorem rcode_any {many : Nat} {locks : Int} (hr : Reader.At w r A n c s) (hb : SliceOf Rep.byte w B A n c bs) (hB : B ≤ r) (hm : many ≤ 65535) :
    Calls Try.prog 72 #[.pointer (some ⟨r, 0, none⟩), .int .i64 many, .int .i64 locks] w fun y w' => RcEnd w w' y r A n c bs many locks s := by
  unfold RcEnd
  have hrl := hr.lt
  have hn := hb.len
  have hbd := hb.bound
  have HR := Lib.hid hr
  have HB := Lib.hid hb
  have HN := Lib.hid hn
  clear hr hb hn
  go_enter Try.func72, Try.ntmps72
  go_wp2_with fail
  have hka : New w (w.alloc (.cells #[] 62)) := (Kept.refl _ _).alloc _
  obtain ⟨r0, hrow0, hr0⟩ := Row.of_make (T := 62) (size := 5) w [] 0 rfl (by decide)
  rw [show ([] : List Value).toArray = #[] from rfl] at hrow0
  have HKA := Lib.hid hka
  have HROW0 := Lib.hid hrow0
  clear hka hrow0
  go_loopw [7, 8] (fun v i wr => ∃ (k : Nat) (s1 : St) (rl : Option Nat) (Ac : Option Addr) (cc : Nat) (l : List Ins), i = .int .i64 k ∧ k ≤ many ∧ l.length = k ∧ v = .slice Ac l.length cc ∧ RcSt w wr r A n c s1 rl Ac cc l ∧ Hid (∀ s' ls, Run (codeD bs many locks (many - k) l) s1 s' ls → Run (codeD bs many locks many []) s s' ls)) (fun _ i _ => (many - intOf i).toNat)
  case atStart => exact ⟨0, s, r0, _, 0, [], rfl, Nat.zero_le _, rfl, rfl, ⟨HR.out.kept HKA.out id, HROW0.out, by simp, fun g hg => by rw [hr0 g hg]; exact Nat.le_refl _, HKA.out.mono fun _ _ h => h.elim⟩, Lib.hid fun s' ls h => h⟩
  case round =>
    obtain ⟨k, s1, rl, Ac, cc, l, rfl, hk, hll, rfl, hst, hrest⟩ := hrel
    subst hll
    clear HKA HROW0 hr0 r0
    by_cases hlt : l.length < many
    · cases s1 with
      | error e =>
        have hfin := hrest.out (.error e) l rfl
        obtain ⟨a, hrd, he⟩ := hst.at_
        have y2 := Blk.cell hrd 2
        simp only [List.getElem?_toArray, List.getElem?_cons_zero, List.getElem?_cons_succ] at y2
        have he' : (e.1 == 0) = false := by simpa using he
        have HST := Lib.hid hst
        have HFIN := Lib.hid hfin
        clear hst hfin
        clear hrest hrd he
        go_wp2_with fail
        go_ret
        exact ⟨l, _, rl, Ac, cc, rfl, HST.out, HFIN.out⟩
      | ok p =>
        obtain ⟨hrd, hp⟩ := hst.at_
        have y0 := Blk.cell hrd 0
        have y1 := Blk.cell hrd 1
        have y2 := Blk.cell hrd 2
        have f1 := Blk.free hrd 1
        simp only [List.getElem?_toArray, List.getElem?_cons_zero, List.getElem?_cons_succ] at y0 y1 y2
        have w1 : IntKind.i64.wrap ((n : Int) - (p : Int)) = (n : Int) - (p : Int) := IntWalk.i64_in _ (by omega)
        by_cases hs : n < p + 12
        · have hfail := fun q => Reader.fail_ok r A n c p 5 n (wr.drewN q) (Reader.Rd.drewN hrd q) (by decide)
          have hI : Run (insD bs many locks) (.ok p) (.error (5, (n : Int))) ⟨0, 0, 0, 0, 0⟩ := by
            unfold Run
            simp only
            rw [insD_short (by have := HN.out; omega)]
            have := HN.out
            simp only [Agr, this]
          have hfin := hrest.out (.error (5, (n : Int))) l (by
            rw [show many - l.length = (many - (l.length + 1)) + 1 by omega]
            exact Run.bind (D1 := insD bs many locks) (D2 := fun x => codeD bs many locks (many - (l.length + 1)) (l ++ [x])) hI rfl (fun p e h => by rw [codeD, h]) (fun p a p' h => by rw [codeD, h]))
          have g1 : (n : Int) - (p : Int) < 12 := by omega
          have HST := Lib.hid hst
          have HFIN := Lib.hid hfin
          have HFAIL := Lib.hid hfail
          clear hst hfin hfail
          clear hrest hrd hI
          go_wp2_with fail
          go_quiet (fail)
          go_wp2_with (go_at_call 51; refine (HFAIL.out _).mono ?_; rintro e w2 ⟨rfl, hr2, hk2⟩; have HR2 := Lib.hid hr2; have HK2 := Lib.hid hk2; clear hr2 hk2)
          go_ret
          have hk3 : Kept (fun k => k = r) wr w2 := ((Kept.refl _ _).drewN _).trans HK2.out
          exact ⟨l, .error (5, (n : Int)), rl, Ac, cc, rfl, ⟨⟨p, HR2.out, show (5 : Int) ≠ 0 by decide⟩, HST.out.row.of_kept (by decide) hk3 (fun g hg e => by have := HST.out.own g hg; omega), HST.out.wf, HST.out.own, HST.out.keep.trans hk3⟩, HFIN.out⟩
        · have hbr : SliceOf Rep.byte wr B A n c bs := HB.out.kept hst.keep (by omega) fun k h1 h2 => by omega
          obtain ⟨b, o, rfl, -, -⟩ := hbr.bytes (by omega)
          have hdr : SliceOf Rep.byte wr B (some ⟨b, o + p, none⟩) (n - p) (c - p) (bs.drop p) := by
            have := hbr.drop (k := p) (by omega)
            rwa [show p * Rep.byte.size = p from Nat.mul_one p] at this
          have hcp : ¬ c = p := by omega
          have hsz := hst.keep.size
          have hget := fun W (hW : New wr W) => Code.ref_get B _ (n - p) (c - p) (bs.drop p) W (hdr.kept hW (by omega) (fun _ _ h => h)) (by have := hW.size; omega) (by omega)
          have g1 : decide ((n : Int) - (p : Int) < 12) = false := by simp; omega
          have hI := fun h2 => insD_ok (b := bs) (n := many) (locks := locks) (p := p) (by have := HN.out; omega) h2
          have hJ := fun h2 => insD_bad (b := bs) (n := many) (locks := locks) (p := p) (by have := HN.out; omega) h2
          have hwf := Code.wf_get ((bs.drop p).take 12) (by have := HN.out; rw [List.length_take, List.length_drop]; omega)
          generalize get ((bs.drop p).take 12) = gx at *
          have hwr := fun W => Code.ref_wrong gx many locks W
          have hat := wrong_at gx many locks
          obtain ⟨o5, a5, b5, d5, i5⟩ := gx
          unfold Code.agg at hget hwr
          have HRD := Lib.hid hrd
          have HST := Lib.hid hst
          have HGET := Lib.hid hget
          have HI := Lib.hid hI
          have HJ := Lib.hid hJ
          have HWF := Lib.hid hwf
          have HWR := Lib.hid hwr
          have HAT := Lib.hid hat
          clear hst hget hI hJ hwf hwr hat
          clear hrd hbr hdr
          go_wp2_with fail
          go_quiet (fail)
          go_upto_region 8 with (fail)
          have HD := Lib.hid (fun q => (Kept.refl (fun _ => False) wr).drewN q)
          generalize hW1 : wr.drewN _ = W1
          have hk1 : New wr W1 := hW1 ▸ HD.out _
          have hrd1 : Reader.Rd W1 r (some ⟨b, o, none⟩) n c p 0 0 := Blk.kept HRD.out hk1 id
          clear hW1 y0 y1 y2 f1 HD
          have y0 := Blk.cell hrd1 0
          have y1 := Blk.cell hrd1 1
          simp only [List.getElem?_toArray, List.getElem?_cons_zero, List.getElem?_cons_succ] at y0 y1
          have ka : New W1 (W1.alloc (.cells #[.int .i64 0, .int .i64 0, .int .i64 0, .int .i64 0, .int .i64 0] 62)) := (Kept.refl _ _).alloc _
          have ba : Blk (W1.alloc (.cells #[.int .i64 0, .int .i64 0, .int .i64 0, .int .i64 0, .int .i64 0] 62)).drew W1.heap.size 62 #[.int .i64 0, .int .i64 0, .int .i64 0, .int .i64 0, .int .i64 0] := Blk.made W1 _ _
          have hra := Blk.kept hrd1 ka id
          have v0 := Blk.cell hra 0
          have v1 := Blk.cell hra 1
          simp only [List.getElem?_toArray, List.getElem?_cons_zero, List.getElem?_cons_succ] at v0 v1
          have hk1d : New wr W1.drew := hk1.drew
          have hk1a : New wr (W1.alloc (.cells #[.int .i64 0, .int .i64 0, .int .i64 0, .int .i64 0, .int .i64 0] 62)).drew := (hk1.trans ka).drew
          have HK1D := Lib.hid hk1d
          have HK1A := Lib.hid hk1a
          have HRD1 := Lib.hid hrd1
          have KA := Lib.hid ka
          have BA := Lib.hid ba
          clear hk1d hk1a hrd1 ka ba
          clear hk1 hra
          go_region_law (first
            | (refine step_call (f := 79) (enters Try.func79 rfl rfl) #[.tmp 52] #[27] (by rfl) (by rfl) (by rfl) (HGET.out W1.drew HK1D.out) ?_
               rintro e w5 ⟨rfl, hk5⟩
               have HBX := Lib.hid (Blk.made w5 62 #[.int .i64 o5, .int .i64 a5, .int .i64 b5, .int .i64 d5, .int .i64 i5])
               have HK6 := Lib.hid ((HK1D.out.trans hk5).alloc (.cells #[.int .i64 o5, .int .i64 a5, .int .i64 b5, .int .i64 d5, .int .i64 i5] 62))
               clear hk5
               refine ⟨_, rfl, ?_⟩)
            | (refine step_call (f := 79) (enters Try.func79 rfl rfl) #[.tmp 52] #[27] (by rfl) (by rfl) (by rfl) (HGET.out (W1.alloc (.cells #[.int .i64 0, .int .i64 0, .int .i64 0, .int .i64 0, .int .i64 0] 62)).drew HK1A.out) ?_
               rintro e w5 ⟨rfl, hk5⟩
               have hb5 := BA.out.kept hk5 id
               have z0 := hb5.cell 0
               have z1 := hb5.cell 1
               have z2 := hb5.cell 2
               have z3 := hb5.cell 3
               have z4 := hb5.cell 4
               simp only [List.getElem?_toArray, List.getElem?_cons_zero, List.getElem?_cons_succ] at z0 z1 z2 z3 z4
               have q0 := hb5.free 0
               have q1 := hb5.free 1
               have q2 := hb5.free 2
               have q3 := hb5.free 3
               have q4 := hb5.free 4
               have hbx := set5_blk hb5 (.int .i64 o5) (.int .i64 a5) (.int .i64 b5) (.int .i64 d5) (.int .i64 i5)
               have hk6 : New wr (set5 w5 W1.heap.size (.int .i64 o5) (.int .i64 a5) (.int .i64 b5) (.int .i64 d5) (.int .i64 i5)) := (HK1A.out.trans hk5).step (set5_kept w5 W1.heap.size (.int .i64 o5) (.int .i64 a5) (.int .i64 b5) (.int .i64 d5) (.int .i64 i5)) (fun i hi e => by have := HK1D.out.size; have : W1.drew.heap.size = W1.heap.size := rfl; omega)
               unfold set5 at hbx hk6
               have HBX := Lib.hid hbx
               have HK6 := Lib.hid hk6
               clear hbx hk6
               clear hk5 hb5
               refine ⟨_, rfl, ?_⟩)
            | fail)
          all_goals
            clear HGET HK1A HK1D KA BA HRD1 v0 v1 y0 y1
            have hbx := HBX.out
            have hk6 := HK6.out
            have hxl := hbx.lt
            clear HBX HK6
            first | clear z0 z1 z2 z3 z4 q0 q1 q2 q3 q4 | skip
            first | generalize World.setCell _ ⟨W1.heap.size, 4, none⟩ _ = W6 at * | generalize World.alloc w5 _ = W6 at *
            first | generalize W1.heap.size = xb at * | generalize w5.heap.size = xb at *
            have hrd6 := Blk.kept HRD.out hk6 id
            have hs6 := hk6.size
            have x0 := hbx.cell 0
            have x1 := hbx.cell 1
            have x2 := hbx.cell 2
            have x3 := hbx.cell 3
            have x4 := hbx.cell 4
            simp only [List.getElem?_toArray, List.getElem?_cons_zero, List.getElem?_cons_succ] at x0 x1 x2 x3 x4
            have HBX := Lib.hid hbx
            have HK6 := Lib.hid hk6
            have HRD6 := Lib.hid hrd6
            clear hbx hk6 hrd6
            by_cases h0 : (wrong ⟨o5, a5, b5, d5, i5⟩ (many : Int) locks).1 = 0
            · have hw := fun W => HWR.out W
              rw [show Code.rwrong ⟨o5, a5, b5, d5, i5⟩ (many : Int) locks = (0, 0) by unfold Code.rwrong; rw [if_pos h0]] at hw
              have hfin := fun (s' : St) (ls : List Ins) (h2 : Run (codeD bs many locks (many - (l.length + 1)) (l ++ [⟨o5, a5, b5, d5, i5⟩])) (.ok (p + 12)) s' ls) => hrest.out s' ls (by
                rw [show many - l.length = (many - (l.length + 1)) + 1 by omega]
                exact Run.bind (D1 := insD bs many locks) (D2 := fun x => codeD bs many locks (many - (l.length + 1)) (l ++ [x])) (s := .ok p) (s1 := .ok (p + 12)) (s' := s') (a := ⟨o5, a5, b5, d5, i5⟩) (by unfold Run; simp only; rw [HI.out h0]; exact ⟨rfl, rfl⟩) h2 (fun p e h => by rw [codeD, h]) (fun p a p' h => by rw [codeD, h]))
              have w12 : IntKind.i64.wrap ((p : Int) + 12) = (p : Int) + 12 := IntWalk.i64_in _ (by omega)
              have hrow6 := HST.out.row.new (by decide) HK6.out
              have hne : ∀ g, rl = some g → g ≠ r := fun g hg => by have := HST.out.own g hg; omega
              have HW := Lib.hid hw
              have HFIN := Lib.hid hfin
              have HROW6 := Lib.hid hrow6
              have HNE := Lib.hid hne
              clear hw hfin hrow6 hne
              clear h0 HWR HI HJ HAT hrest
              go_wp2_with (first
                | (go_at_call 80
                   refine (HW.out _).mono ?_
                   rintro e w7 ⟨rfl, hk7⟩
                   have hbx7 := HBX.out.kept hk7 id
                   have hrd7 := Blk.kept HRD6.out hk7 id
                   have y0 := hbx7.cell 0
                   have y1 := hbx7.cell 1
                   have y2 := hbx7.cell 2
                   have y3 := hbx7.cell 3
                   have y4 := hbx7.cell 4
                   simp only [List.getElem?_toArray, List.getElem?_cons_zero, List.getElem?_cons_succ] at y0 y1 y2 y3 y4
                   have HROW7 := Lib.hid (HROW6.out.new (by decide) hk7)
                   have HRD7 := Lib.hid hrd7
                   have HK7 := Lib.hid (HK6.out.trans hk7)
                   clear hrd7 hbx7 hk7)
                | (at_builtin
                   refine wpList_append_one (cs := [.int .i64 o5, .int .i64 a5, .int .i64 b5, .int .i64 d5, .int .i64 i5]) Code.tyIns rfl _ _ rfl rfl HROW7.out rfl rfl rfl (by simp [Value.oneCell']) (by unfold maxLen; omega) (by omega) ?_
                   intro r8 A8 c8 w8 hr8 hk8 hn8
                   have hrd8 := Blk.kept HRD7.out hk8 (fun e => HNE.out _ e rfl)
                   have t1 := Blk.cell hrd8 1
                   have g1 := Blk.free hrd8 1
                   simp only [List.getElem?_toArray, List.getElem?_cons_zero, List.getElem?_cons_succ] at t1
                   have HR8 := Lib.hid hr8
                   have HK8 := Lib.hid hk8
                   have HN8 := Lib.hid hn8
                   have HRD8 := Lib.hid hrd8
                   clear hr8 hk8 hn8 hrd8))
              exact ⟨⟨l.length + 1, .ok (p + 12), r8, A8, c8, l ++ [⟨o5, a5, b5, d5, i5⟩], by go_num, by omega, by rw [List.length_append]; rfl, by rw [List.length_append]; rfl, HST.out.push (x := ⟨o5, a5, b5, d5, i5⟩) hrl HK7.out HWF.out HRD8.out HR8.out HK8.out HN8.out (by omega), Lib.hid fun s' ls h2 => HFIN.out s' ls h2⟩, by simp [intOf]; omega⟩
            · have hw := fun W => HWR.out W
              rw [show Code.rwrong ⟨o5, a5, b5, d5, i5⟩ (many : Int) locks = wrong ⟨o5, a5, b5, d5, i5⟩ many locks by unfold Code.rwrong; rw [if_neg h0]] at hw
              have hJ := HJ.out h0
              have hat := HAT.out
              generalize wrong ⟨o5, a5, b5, d5, i5⟩ (many : Int) locks = q at *
              obtain ⟨e1, f1⟩ := q
              simp only at h0 hw hJ hat
              have hfin := hrest.out (.error (e1, (p : Int) + f1)) l (by
                rw [show many - l.length = (many - (l.length + 1)) + 1 by omega]
                exact Run.bind (D1 := insD bs many locks) (D2 := fun x => codeD bs many locks (many - (l.length + 1)) (l ++ [x])) (s := .ok p) (s1 := .error (e1, (p : Int) + f1)) (a := ⟨o5, a5, b5, d5, i5⟩) (by unfold Run; simp only; rw [hJ]; rfl) rfl (fun p e h => by rw [codeD, h]) (fun p a p' h => by rw [codeD, h]))
              have w12 : IntKind.i64.wrap ((p : Int) + f1) = (p : Int) + f1 := IntWalk.i64_in _ (by omega)
              have g9 : (e1 != 0) = true := by simpa using h0
              have hfail := fun W h => Reader.fail_ok r (some ⟨b, o, none⟩) n c p e1 ((p : Int) + f1) W h h0
              have HW := Lib.hid hw
              have HFIN := Lib.hid hfin
              have HFAIL := Lib.hid hfail
              clear hw hfin hfail
              clear HWR HI HJ HAT hrest hJ hat HWF
              go_wp2_with (first
                | (go_at_call 80
                   refine (HW.out _).mono ?_
                   rintro e w7 ⟨rfl, hk7⟩
                   have hrd7 := Blk.kept HRD6.out hk7 id
                   have y1 := Blk.cell hrd7 1
                   simp only [List.getElem?_toArray, List.getElem?_cons_zero, List.getElem?_cons_succ] at y1
                   have HRD7 := Lib.hid hrd7
                   have HK7 := Lib.hid (HK6.out.trans hk7)
                   clear hrd7 hk7)
                | (go_at_call 51
                   refine (HFAIL.out _ HRD7.out).mono ?_
                   rintro e w2 ⟨rfl, hr2, hk2⟩
                   have HR2 := Lib.hid hr2
                   have HK2 := Lib.hid hk2
                   clear hr2 hk2))
              go_ret
              have hk3 : Kept (fun k => k = r) wr w2 := (HK7.out.mono fun _ _ h => h.elim).trans HK2.out
              exact ⟨l, .error (e1, (p : Int) + f1), rl, Ac, cc, rfl, ⟨⟨p, HR2.out, h0⟩, HST.out.row.of_kept (by decide) hk3 (fun g hg e => by have := HST.out.own g hg; omega), HST.out.wf, HST.out.own, HST.out.keep.trans hk3⟩, HFIN.out⟩
    · have hfin := hrest.out s1 l (by rw [show many - l.length = 0 by omega]; exact Run.pure)
      have HST := Lib.hid hst
      have HFIN := Lib.hid hfin
      clear hst hfin
      clear hrest
      go_wp2_with fail
      go_ret
      exact ⟨l, _, rl, Ac, cc, rfl, HST.out, HFIN.out⟩
end
end Go.Proofs.Ytaefgljpdpigeaa.Conf

/- How a config stands while the reference reads it (layer 14). Printed by wip/tools/mkRg14.py. -/
namespace Go.Proofs.Ytaefgljpdpigeaa.Conf
open Go.RowKit Go.Fb Go.CodeP Go.BytesP Go.ReaderP
set_option linter.unusedVariables false
/-- The reader lies in block r, the config in cb, the result in res. -/
structure RefSt (w wr : World) (r cb res : Nat) (A : Option Addr) (n c : Nat) (s : St) (Fl Ft F : Nat → Prop) (Al : Option Addr) (cl : Nat) (At : Option Addr) (ct : Nat) (Ap : Option Addr) (cp : Nat) (ls t : List Int) (x2 x3 x4 x5 : Int) (acc : List (Int × List Ins)) : Prop where
  at_ : Reader.At wr r A n c s
  blk : Blk wr cb 26 #[.slice Al ls.length cl, .slice At t.length ct, .int .i64 x2, .int .i64 x3, .int .i64 x4, .int .i64 x5, .slice Ap acc.length cp]
  resB : Blk wr res 26 zeroC
  labs : OSl u64O wr Fl Al ls.length cl ls
  tab : OSl i64O wr Ft At t.length ct t
  prs : OSl procO wr F Ap acc.length cp acc
  own : ∀ k, Fl k ∨ Ft k ∨ F k → w.heap.size ≤ k ∧ k ≠ cb ∧ k ≠ res ∧ k < wr.heap.size
  dis : ∀ k, (Fl k → ¬ Ft k ∧ ¬ F k) ∧ (Ft k → ¬ F k)
  keep : Kept (fun k => k = r) w wr
/-- A number, by the reference, as the plain reading has it. -/
theorem rint_num {w : World} {r m B : Nat} {A : Option Addr} {n c : Nat} {bs : List UInt8} {s : St} {least most low high : Int} {f : Nat → Int} (hf : ∀ v : Nat, f v = if (v : Int) < least then low else if most < (v : Int) then high else 0) (hr : Reader.At w r A n c s) (hb : SliceOf Rep.byte w B A n c bs) (hB : B ≤ r) (hm0 : 0 < m) (hm : m ≤ 2) (hl : low ≠ 0) (hh : high ≠ 0) (hlm : least ≤ most) :
    Calls Try.prog 70 #[.pointer (some ⟨r, 0, none⟩), .int .i64 m, .int .i64 least, .int .i64 most, .int .i64 low, .int .i64 high] w fun x w' =>
      ∃ (v : Nat) (s' : St), x = .returned (.int .i64 v) ∧ v < 256 ^ m ∧ Reader.At w' r A n c s' ∧ Run (numD bs m f) s s' v ∧ Kept (fun k => k = r) w w' := by
  refine (Reader.int_any r m B A n c bs s w least most low high hr hb hB hm0 hm hl hh hlm).mono fun x w' ⟨h1, h2, h3⟩ => ?_
  have h4 := run_int (b := bs) (m := m) (f := f) hl hh hf s
  have h5 : ∃ v : Nat, (rInt bs s m least most low high).1 = v ∧ v < 256 ^ m := by
    cases s with
    | error e => exact ⟨0, rfl, Nat.pow_pos (by decide)⟩
    | ok p =>
      unfold rInt
      simp only
      by_cases h : bs.length < p + m
      · rw [if_pos h]; exact ⟨0, rfl, Nat.pow_pos (by decide)⟩
      · rw [if_neg h]; exact ⟨_, rfl, numV_lt _ _ _⟩
  obtain ⟨v, e, hv⟩ := h5
  rw [e] at h1 h4
  exact ⟨v, _, h1, hv, h2, h4, h3⟩
/-- .. and where something was wrong. -/
theorem rint_err {w : World} {r m B : Nat} {A : Option Addr} {n c : Nat} {bs : List UInt8} {e : Int × Int} {least most low high : Int} (hr : Reader.At w r A n c (.error e)) (hb : SliceOf Rep.byte w B A n c bs) (hB : B ≤ r) (hm0 : 0 < m) (hm : m ≤ 2) (hl : low ≠ 0) (hh : high ≠ 0) (hlm : least ≤ most) :
    Calls Try.prog 70 #[.pointer (some ⟨r, 0, none⟩), .int .i64 m, .int .i64 least, .int .i64 most, .int .i64 low, .int .i64 high] w fun x w' =>
      x = .returned (.int .i64 0) ∧ Reader.At w' r A n c (.error e) ∧ Kept (fun k => k = r) w w' :=
  Reader.int_any r m B A n c bs (.error e) w least most low high hr hb hB hm0 hm hl hh hlm
theorem Run.ok_of {α : Type} {D : Nat → Except (Int × Int) (α × Nat)} {s : St} {p : Nat} {a : α} (h : Run D s (.ok p) a) : ∃ q, s = .ok q := by
  cases s with
  | ok q => exact ⟨q, rfl⟩
  | error e => cases h
theorem Run.num_ok {b : List UInt8} {m : Nat} {f : Nat → Int} {s : St} {p v : Nat} (h : Run (numD b m f) s (.ok p) v) : f v = 0 := by
  obtain ⟨q, rfl⟩ := Run.ok_of h
  unfold Run numD at h
  simp only at h
  by_cases h1 : b.length < q + m
  · rw [if_pos h1] at h; cases h
  · rw [if_neg h1] at h
    by_cases h2 : f (numV b q m) = 0
    · rw [if_pos h2] at h
      obtain ⟨-, rfl⟩ := h
      exact h2
    · rw [if_neg h2] at h; cases h
theorem count_num (most : Int) (h0 : 1 ≤ most) (v : Nat) : countF most v = if (v : Int) < 1 then 1 else if most < (v : Int) then 3 else 0 := by
  unfold countF manyE
  by_cases h : (v : Int) = 0
  · rw [if_pos h, if_pos (by omega)]
  · rw [if_neg h, if_neg (show ¬ (v : Int) < 1 by omega)]
theorem part_num (parts : Int) (v : Nat) : partF parts v = if (v : Int) < 0 then 2 else if parts - 1 < (v : Int) then 2 else 0 := by
  unfold partF
  rw [if_neg (show ¬ (v : Int) < 0 by omega)]
  by_cases h : parts ≤ v
  · rw [if_pos h, if_pos (by omega)]
  · rw [if_neg h, if_neg (by omega)]
theorem code_num (v : Nat) : codeF v = if (v : Int) < 0 then 3 else if 256 < (v : Int) then 3 else 0 := by
  unfold codeF
  rw [if_neg (show ¬ (v : Int) < 0 by omega)]
  by_cases h : 256 < v
  · rw [if_pos h, if_pos (by omega)]
  · rw [if_neg h, if_neg (by omega)]
theorem within_num (a b : Int) (v : Nat) : (if withinB v a b then (0 : Int) else 2) = if (v : Int) < a then 2 else if b < (v : Int) then 2 else 0 := by
  unfold withinB
  by_cases h1 : (v : Int) < a
  · rw [if_pos h1, decide_eq_false (by omega)]; rfl
  · by_cases h2 : b < (v : Int)
    · rw [if_neg h1, if_pos h2, decide_eq_false (by omega)]; rfl
    · rw [if_neg h1, if_neg h2, decide_eq_true (by omega)]; rfl
theorem range2_num (v : Nat) : rangeF 2 v = if (v : Int) < 1 then 2 else if 256 < (v : Int) then 2 else 0 := within_num 1 256 v
theorem range3_num (v : Nat) : rangeF 3 v = if (v : Int) < 1 then 2 else if 64 < (v : Int) then 2 else 0 := within_num 1 64 v
theorem range4_num (v : Nat) : rangeF 4 v = if (v : Int) < 0 then 2 else if 8 < (v : Int) then 2 else 0 := within_num 0 8 v
theorem range5_num (v : Nat) : rangeF 5 v = if (v : Int) < 0 then 2 else if 4096 < (v : Int) then 2 else 0 := within_num 0 4096 v
section
variable {w wr w2 : World} {r cb res : Nat} {A : Option Addr} {n c : Nat} {s s2 : St} {Fl Ft F : Nat → Prop} {Al : Option Addr} {cl : Nat} {At : Option Addr} {ct : Nat} {Ap : Option Addr} {cp : Nat} {ls t : List Int} {x2 x3 x4 x5 : Int} {acc : List (Int × List Ins)}
theorem RefSt.bytes (h : RefSt w wr r cb res A n c s Fl Ft F Al cl At ct Ap cp ls t x2 x3 x4 x5 acc) {B : Nat} {bs : List UInt8} (hb : SliceOf Rep.byte w B A n c bs) (hB : B ≤ r) (hrl : r < w.heap.size) : SliceOf Rep.byte wr B A n c bs := hb.kept h.keep (by omega) fun k h1 h2 => by omega
/-- The reader alone has gone on. -/
theorem RefSt.went (h : RefSt w wr r cb res A n c s Fl Ft F Al cl At ct Ap cp ls t x2 x3 x4 x5 acc) (hr : Reader.At w2 r A n c s2) (hk : Kept (fun k => k = r) wr w2) (hrl : r < w.heap.size) (hcw : w.heap.size ≤ cb) (hrw : w.heap.size ≤ res) : RefSt w w2 r cb res A n c s2 Fl Ft F Al cl At ct Ap cp ls t x2 x3 x4 x5 acc :=
  ⟨hr, h.blk.kept hk (by omega), h.resB.kept hk (by omega), h.labs.kept hk (fun k e => by have := (h.own k (.inl e)).1; omega), h.tab.kept hk (fun k e => by have := (h.own k (.inr (.inl e))).1; omega), h.prs.kept hk (fun k e => by have := (h.own k (.inr (.inr e))).1; omega),
    fun k e => by have := h.own k e; have := hk.size; exact ⟨by omega, by omega, by omega, by omega⟩, h.dis, h.keep.trans hk⟩
theorem RefSt.put (h : RefSt w wr r cb res A n c s Fl Ft F Al cl At ct Ap cp ls t x2 x3 x4 x5 acc) (hrl : r < w.heap.size) (hcw : w.heap.size ≤ cb) (hre : res ≠ cb) (j : Nat) (v : Value) :
    Reader.At (wr.setCell ⟨cb, j, none⟩ v) r A n c s ∧ Blk (wr.setCell ⟨cb, j, none⟩ v) res 26 zeroC ∧ OSl u64O (wr.setCell ⟨cb, j, none⟩ v) Fl Al ls.length cl ls ∧ OSl i64O (wr.setCell ⟨cb, j, none⟩ v) Ft At t.length ct t ∧ OSl procO (wr.setCell ⟨cb, j, none⟩ v) F Ap acc.length cp acc ∧
      (∀ k, Fl k ∨ Ft k ∨ F k → w.heap.size ≤ k ∧ k ≠ cb ∧ k ≠ res ∧ k < (wr.setCell ⟨cb, j, none⟩ v).heap.size) ∧ Kept (fun k => k = r) w (wr.setCell ⟨cb, j, none⟩ v) := by
  have hk := Kept.set1 wr cb j v
  refine ⟨h.at_.kept hk (fun e => by omega), h.resB.kept hk hre, h.labs.kept hk (fun k e => (h.own k (.inl e)).2.1), h.tab.kept hk (fun k e => (h.own k (.inr (.inl e))).2.1), h.prs.kept hk (fun k e => (h.own k (.inr (.inr e))).2.1), fun k e => ?_, h.keep.step hk fun i hi e => by omega⟩
  have := h.own k e
  have := hk.size
  exact ⟨by omega, by omega, by omega, by omega⟩
theorem RefSt.set2 (h : RefSt w wr r cb res A n c s Fl Ft F Al cl At ct Ap cp ls t x2 x3 x4 x5 acc) (hrl : r < w.heap.size) (hcw : w.heap.size ≤ cb) (hre : res ≠ cb) (v : Int) : RefSt w (wr.setCell ⟨cb, 2, none⟩ (.int .i64 v)) r cb res A n c s Fl Ft F Al cl At ct Ap cp ls t v x3 x4 x5 acc := by
  have hb := h.blk.set (i := 2) (.int .i64 v)
  obtain ⟨h1, h2, h3, h4, h5, h6, h7⟩ := h.put hrl hcw hre 2 (.int .i64 v)
  exact ⟨h1, by simpa using hb, h2, h3, h4, h5, h6, h.dis, h7⟩
theorem RefSt.set3 (h : RefSt w wr r cb res A n c s Fl Ft F Al cl At ct Ap cp ls t x2 x3 x4 x5 acc) (hrl : r < w.heap.size) (hcw : w.heap.size ≤ cb) (hre : res ≠ cb) (v : Int) : RefSt w (wr.setCell ⟨cb, 3, none⟩ (.int .i64 v)) r cb res A n c s Fl Ft F Al cl At ct Ap cp ls t x2 v x4 x5 acc := by
  have hb := h.blk.set (i := 3) (.int .i64 v)
  obtain ⟨h1, h2, h3, h4, h5, h6, h7⟩ := h.put hrl hcw hre 3 (.int .i64 v)
  exact ⟨h1, by simpa using hb, h2, h3, h4, h5, h6, h.dis, h7⟩
theorem RefSt.set4 (h : RefSt w wr r cb res A n c s Fl Ft F Al cl At ct Ap cp ls t x2 x3 x4 x5 acc) (hrl : r < w.heap.size) (hcw : w.heap.size ≤ cb) (hre : res ≠ cb) (v : Int) : RefSt w (wr.setCell ⟨cb, 4, none⟩ (.int .i64 v)) r cb res A n c s Fl Ft F Al cl At ct Ap cp ls t x2 x3 v x5 acc := by
  have hb := h.blk.set (i := 4) (.int .i64 v)
  obtain ⟨h1, h2, h3, h4, h5, h6, h7⟩ := h.put hrl hcw hre 4 (.int .i64 v)
  exact ⟨h1, by simpa using hb, h2, h3, h4, h5, h6, h.dis, h7⟩
theorem RefSt.set5 (h : RefSt w wr r cb res A n c s Fl Ft F Al cl At ct Ap cp ls t x2 x3 x4 x5 acc) (hrl : r < w.heap.size) (hcw : w.heap.size ≤ cb) (hre : res ≠ cb) (v : Int) : RefSt w (wr.setCell ⟨cb, 5, none⟩ (.int .i64 v)) r cb res A n c s Fl Ft F Al cl At ct Ap cp ls t x2 x3 x4 v acc := by
  have hb := h.blk.set (i := 5) (.int .i64 v)
  obtain ⟨h1, h2, h3, h4, h5, h6, h7⟩ := h.put hrl hcw hre 5 (.int .i64 v)
  exact ⟨h1, by simpa using hb, h2, h3, h4, h5, h6, h.dis, h7⟩
/-- One thing more: labs. -/
theorem RefSt.rowL (h : RefSt w wr r cb res A n c s Fl Ft F Al cl At ct Ap cp ls t x2 x3 x4 x5 acc) (hrl : r < w.heap.size) (hcw : w.heap.size ≤ cb) (hrw : w.heap.size ≤ res) (hre : res ≠ cb) :
    ∃ r0 xs, Row wr 1 r0 Al ls.length cl xs ∧ (∀ g, r0 = some g → g ≠ cb) ∧ ∀ (w6 : World) (r6 rx : Option Nat) (A6 : Option Addr) (c6 : Nat) (x : Int) (cs : List Value), u64O.own wr (fun k => rx = some k) x cs → (∀ k, rx = some k → ¬ Fl k ∧ ¬ Ft k ∧ ¬ F k ∧ w.heap.size ≤ k ∧ k ≠ cb ∧ k ≠ res ∧ k < wr.heap.size) → Row w6 1 r6 A6 (ls.length + 1) c6 (xs ++ cs) → Kept (fun k => r0 = some k) wr w6 → (∀ k, r6 = some k → r0 = some k ∨ wr.heap.size ≤ k) →
      ∃ F6, RefSt w (w6.setCell ⟨cb, 0, none⟩ (.slice A6 (ls.length + 1) c6)) r cb res A n c s F6 Ft F A6 c6 At ct Ap cp (ls ++ [x]) t x2 x3 x4 x5 acc := by
  obtain ⟨r0, xs, h1, h2, h3⟩ := h.labs.rows
  have ho := h.own
  have hwr := h.keep.size
  have hbl := h.blk.lt
  have hrb := h.resB.lt
  refine ⟨r0, xs, h1, fun g e => (ho g (.inl (h2 g e))).2.1, fun w6 r6 rx A6 c6 x cs hx hrx hr6 hk6 hn6 => ⟨fun k => Fl k ∨ rx = some k ∨ r6 = some k, ?_⟩⟩
  have hs6 := hk6.size
  have hcb := h.blk.kept hk6 (fun e => (ho cb (.inl (h2 cb e))).2.1 rfl)
  have hlab := h3 (F' := fun k => Fl k ∨ rx = some k ∨ r6 = some k) hr6 hk6 hn6 (fun k e => (ho k (.inl e)).2.2.2) hx (fun k e => ⟨(hrx k e).1, (hrx k e).2.2.2.2.2.2⟩) (fun k e => .inl e) (fun k e => .inr (.inl e)) (fun k e => .inr (.inr e))
  have hks : Kept (fun k => k = cb) w6 (w6.setCell ⟨cb, 0, none⟩ (.slice A6 (ls.length + 1) c6)) := Kept.set1 _ _ _ _
  have hsS : (w6.setCell ⟨cb, 0, none⟩ (.slice A6 (ls.length + 1) c6)).heap.size = w6.heap.size := (size_set _ _ _).symm
  have hl : (ls ++ [x]).length = ls.length + 1 := by rw [List.length_append]; rfl
  have hF : ∀ k, Fl k ∨ rx = some k ∨ r6 = some k → w.heap.size ≤ k ∧ k ≠ cb ∧ k ≠ res ∧ k < w6.heap.size := by
    rintro k (e | e | e)
    · have := ho k (.inl e); exact ⟨this.1, this.2.1, this.2.2.1, by omega⟩
    · have := hrx k e; exact ⟨this.2.2.2.1, this.2.2.2.2.1, this.2.2.2.2.2.1, by omega⟩
    · have hlt := hr6.lt (by decide) k e
      rcases hn6 k e with e' | e'
      · have := ho k (.inl (h2 k e')); exact ⟨this.1, this.2.1, this.2.2.1, hlt⟩
      · exact ⟨by omega, by omega, by omega, hlt⟩
  refine ⟨(h.at_.kept hk6 (fun e => by have := (ho r (.inl (h2 r e))).1; omega)).kept hks (fun e => by omega), ?_, (h.resB.kept hk6 (fun e => (ho res (.inl (h2 res e))).2.2.1 rfl)).kept hks hre,
    by rw [hl]; exact hlab.kept hks (fun k e => (hF k e).2.1), (h.tab.kept hk6 (fun k e e' => ((h.dis k).1 (h2 k e')).1 e)).kept hks (fun k e => (ho k (.inr (.inl e))).2.1), (h.prs.kept hk6 (fun k e e' => ((h.dis k).1 (h2 k e')).2 e)).kept hks (fun k e => (ho k (.inr (.inr e))).2.1), ?_, ?_, ?_⟩
  · have := hcb.set (i := 0) (.slice A6 (ls.length + 1) c6)
    rw [hl]
    simpa using this
  · rw [hsS]
    rintro k (e | e | e)
    · exact hF k e
    · have := ho k (.inr (.inl e)); exact ⟨this.1, this.2.1, this.2.2.1, by omega⟩
    · have := ho k (.inr (.inr e)); exact ⟨this.1, this.2.1, this.2.2.1, by omega⟩
  · intro k
    have d1 : (Fl k ∨ rx = some k ∨ r6 = some k) → ¬ Ft k := fun e' e => (by rcases e' with e' | e' | e'; exact ((h.dis k).1 e').1 e; exact (hrx k e').2.1 e; rcases hn6 k e' with e2 | e2; exact ((h.dis k).1 (h2 k e2)).1 e; have := (ho k (.inr (.inl e))).2.2.2; omega)
    have d2 : (Fl k ∨ rx = some k ∨ r6 = some k) → ¬ F k := fun e' e => (by rcases e' with e' | e' | e'; exact ((h.dis k).1 e').2 e; exact (hrx k e').2.2.1 e; rcases hn6 k e' with e2 | e2; exact ((h.dis k).1 (h2 k e2)).2 e; have := (ho k (.inr (.inr e))).2.2.2; omega)
    have d3 : Ft k → ¬ F k := fun e e' => (h.dis k).2 e e'
    exact ⟨fun e => ⟨d1 e, d2 e⟩, d3⟩
  · exact Kept.setCell (h.keep.step hk6 fun i hi e => by have := (ho i (.inl (h2 i e))).1; omega) (.inl hcw) _
/-- One thing more: tab. -/
theorem RefSt.rowT (h : RefSt w wr r cb res A n c s Fl Ft F Al cl At ct Ap cp ls t x2 x3 x4 x5 acc) (hrl : r < w.heap.size) (hcw : w.heap.size ≤ cb) (hrw : w.heap.size ≤ res) (hre : res ≠ cb) :
    ∃ r0 xs, Row wr 1 r0 At t.length ct xs ∧ (∀ g, r0 = some g → g ≠ cb) ∧ ∀ (w6 : World) (r6 rx : Option Nat) (A6 : Option Addr) (c6 : Nat) (x : Int) (cs : List Value), i64O.own wr (fun k => rx = some k) x cs → (∀ k, rx = some k → ¬ Fl k ∧ ¬ Ft k ∧ ¬ F k ∧ w.heap.size ≤ k ∧ k ≠ cb ∧ k ≠ res ∧ k < wr.heap.size) → Row w6 1 r6 A6 (t.length + 1) c6 (xs ++ cs) → Kept (fun k => r0 = some k) wr w6 → (∀ k, r6 = some k → r0 = some k ∨ wr.heap.size ≤ k) →
      ∃ F6, RefSt w (w6.setCell ⟨cb, 1, none⟩ (.slice A6 (t.length + 1) c6)) r cb res A n c s Fl F6 F Al cl A6 c6 Ap cp ls (t ++ [x]) x2 x3 x4 x5 acc := by
  obtain ⟨r0, xs, h1, h2, h3⟩ := h.tab.rows
  have ho := h.own
  have hwr := h.keep.size
  have hbl := h.blk.lt
  have hrb := h.resB.lt
  refine ⟨r0, xs, h1, fun g e => (ho g (.inr (.inl (h2 g e)))).2.1, fun w6 r6 rx A6 c6 x cs hx hrx hr6 hk6 hn6 => ⟨fun k => Ft k ∨ rx = some k ∨ r6 = some k, ?_⟩⟩
  have hs6 := hk6.size
  have hcb := h.blk.kept hk6 (fun e => (ho cb (.inr (.inl (h2 cb e)))).2.1 rfl)
  have hlab := h3 (F' := fun k => Ft k ∨ rx = some k ∨ r6 = some k) hr6 hk6 hn6 (fun k e => (ho k (.inr (.inl e))).2.2.2) hx (fun k e => ⟨(hrx k e).2.1, (hrx k e).2.2.2.2.2.2⟩) (fun k e => .inl e) (fun k e => .inr (.inl e)) (fun k e => .inr (.inr e))
  have hks : Kept (fun k => k = cb) w6 (w6.setCell ⟨cb, 1, none⟩ (.slice A6 (t.length + 1) c6)) := Kept.set1 _ _ _ _
  have hsS : (w6.setCell ⟨cb, 1, none⟩ (.slice A6 (t.length + 1) c6)).heap.size = w6.heap.size := (size_set _ _ _).symm
  have hl : (t ++ [x]).length = t.length + 1 := by rw [List.length_append]; rfl
  have hF : ∀ k, Ft k ∨ rx = some k ∨ r6 = some k → w.heap.size ≤ k ∧ k ≠ cb ∧ k ≠ res ∧ k < w6.heap.size := by
    rintro k (e | e | e)
    · have := ho k (.inr (.inl e)); exact ⟨this.1, this.2.1, this.2.2.1, by omega⟩
    · have := hrx k e; exact ⟨this.2.2.2.1, this.2.2.2.2.1, this.2.2.2.2.2.1, by omega⟩
    · have hlt := hr6.lt (by decide) k e
      rcases hn6 k e with e' | e'
      · have := ho k (.inr (.inl (h2 k e'))); exact ⟨this.1, this.2.1, this.2.2.1, hlt⟩
      · exact ⟨by omega, by omega, by omega, hlt⟩
  refine ⟨(h.at_.kept hk6 (fun e => by have := (ho r (.inr (.inl (h2 r e)))).1; omega)).kept hks (fun e => by omega), ?_, (h.resB.kept hk6 (fun e => (ho res (.inr (.inl (h2 res e)))).2.2.1 rfl)).kept hks hre,
    (h.labs.kept hk6 (fun k e e' => ((h.dis k).1 e).1 (h2 k e'))).kept hks (fun k e => (ho k (.inl e)).2.1), by rw [hl]; exact hlab.kept hks (fun k e => (hF k e).2.1), (h.prs.kept hk6 (fun k e e' => (h.dis k).2 (h2 k e') e)).kept hks (fun k e => (ho k (.inr (.inr e))).2.1), ?_, ?_, ?_⟩
  · have := hcb.set (i := 1) (.slice A6 (t.length + 1) c6)
    rw [hl]
    simpa using this
  · rw [hsS]
    rintro k (e | e | e)
    · have := ho k (.inl e); exact ⟨this.1, this.2.1, this.2.2.1, by omega⟩
    · exact hF k e
    · have := ho k (.inr (.inr e)); exact ⟨this.1, this.2.1, this.2.2.1, by omega⟩
  · intro k
    have d1 : Fl k → ¬ (Ft k ∨ rx = some k ∨ r6 = some k) := fun e e' => (by rcases e' with e' | e' | e'; exact ((h.dis k).1 e).1 e'; exact (hrx k e').1 e; rcases hn6 k e' with e2 | e2; exact ((h.dis k).1 e).1 (h2 k e2); have := (ho k (.inl e)).2.2.2; omega)
    have d2 : Fl k → ¬ F k := fun e e' => ((h.dis k).1 e).2 e'
    have d3 : (Ft k ∨ rx = some k ∨ r6 = some k) → ¬ F k := fun e' e => (by rcases e' with e' | e' | e'; exact (h.dis k).2 e' e; exact (hrx k e').2.2.1 e; rcases hn6 k e' with e2 | e2; exact (h.dis k).2 (h2 k e2) e; have := (ho k (.inr (.inr e))).2.2.2; omega)
    exact ⟨fun e => ⟨d1 e, d2 e⟩, d3⟩
  · exact Kept.setCell (h.keep.step hk6 fun i hi e => by have := (ho i (.inr (.inl (h2 i e)))).1; omega) (.inl hcw) _
/-- One thing more: prs. -/
theorem RefSt.rowP (h : RefSt w wr r cb res A n c s Fl Ft F Al cl At ct Ap cp ls t x2 x3 x4 x5 acc) (hrl : r < w.heap.size) (hcw : w.heap.size ≤ cb) (hrw : w.heap.size ≤ res) (hre : res ≠ cb) :
    ∃ r0 xs, Row wr 2 r0 Ap acc.length cp xs ∧ (∀ g, r0 = some g → g ≠ cb) ∧ ∀ (w6 : World) (r6 rx : Option Nat) (A6 : Option Addr) (c6 : Nat) (x : Int × List Ins) (cs : List Value), procO.own wr (fun k => rx = some k) x cs → (∀ k, rx = some k → ¬ Fl k ∧ ¬ Ft k ∧ ¬ F k ∧ w.heap.size ≤ k ∧ k ≠ cb ∧ k ≠ res ∧ k < wr.heap.size) → Row w6 2 r6 A6 (acc.length + 1) c6 (xs ++ cs) → Kept (fun k => r0 = some k) wr w6 → (∀ k, r6 = some k → r0 = some k ∨ wr.heap.size ≤ k) →
      ∃ F6, RefSt w (w6.setCell ⟨cb, 6, none⟩ (.slice A6 (acc.length + 1) c6)) r cb res A n c s Fl Ft F6 Al cl At ct A6 c6 ls t x2 x3 x4 x5 (acc ++ [x]) := by
  obtain ⟨r0, xs, h1, h2, h3⟩ := h.prs.rows
  have ho := h.own
  have hwr := h.keep.size
  have hbl := h.blk.lt
  have hrb := h.resB.lt
  refine ⟨r0, xs, h1, fun g e => (ho g (.inr (.inr (h2 g e)))).2.1, fun w6 r6 rx A6 c6 x cs hx hrx hr6 hk6 hn6 => ⟨fun k => F k ∨ rx = some k ∨ r6 = some k, ?_⟩⟩
  have hs6 := hk6.size
  have hcb := h.blk.kept hk6 (fun e => (ho cb (.inr (.inr (h2 cb e)))).2.1 rfl)
  have hlab := h3 (F' := fun k => F k ∨ rx = some k ∨ r6 = some k) hr6 hk6 hn6 (fun k e => (ho k (.inr (.inr e))).2.2.2) hx (fun k e => ⟨(hrx k e).2.2.1, (hrx k e).2.2.2.2.2.2⟩) (fun k e => .inl e) (fun k e => .inr (.inl e)) (fun k e => .inr (.inr e))
  have hks : Kept (fun k => k = cb) w6 (w6.setCell ⟨cb, 6, none⟩ (.slice A6 (acc.length + 1) c6)) := Kept.set1 _ _ _ _
  have hsS : (w6.setCell ⟨cb, 6, none⟩ (.slice A6 (acc.length + 1) c6)).heap.size = w6.heap.size := (size_set _ _ _).symm
  have hl : (acc ++ [x]).length = acc.length + 1 := by rw [List.length_append]; rfl
  have hF : ∀ k, F k ∨ rx = some k ∨ r6 = some k → w.heap.size ≤ k ∧ k ≠ cb ∧ k ≠ res ∧ k < w6.heap.size := by
    rintro k (e | e | e)
    · have := ho k (.inr (.inr e)); exact ⟨this.1, this.2.1, this.2.2.1, by omega⟩
    · have := hrx k e; exact ⟨this.2.2.2.1, this.2.2.2.2.1, this.2.2.2.2.2.1, by omega⟩
    · have hlt := hr6.lt (by decide) k e
      rcases hn6 k e with e' | e'
      · have := ho k (.inr (.inr (h2 k e'))); exact ⟨this.1, this.2.1, this.2.2.1, hlt⟩
      · exact ⟨by omega, by omega, by omega, hlt⟩
  refine ⟨(h.at_.kept hk6 (fun e => by have := (ho r (.inr (.inr (h2 r e)))).1; omega)).kept hks (fun e => by omega), ?_, (h.resB.kept hk6 (fun e => (ho res (.inr (.inr (h2 res e)))).2.2.1 rfl)).kept hks hre,
    (h.labs.kept hk6 (fun k e e' => ((h.dis k).1 e).2 (h2 k e'))).kept hks (fun k e => (ho k (.inl e)).2.1), (h.tab.kept hk6 (fun k e e' => (h.dis k).2 e (h2 k e'))).kept hks (fun k e => (ho k (.inr (.inl e))).2.1), by rw [hl]; exact hlab.kept hks (fun k e => (hF k e).2.1), ?_, ?_, ?_⟩
  · have := hcb.set (i := 6) (.slice A6 (acc.length + 1) c6)
    rw [hl]
    simpa using this
  · rw [hsS]
    rintro k (e | e | e)
    · have := ho k (.inl e); exact ⟨this.1, this.2.1, this.2.2.1, by omega⟩
    · have := ho k (.inr (.inl e)); exact ⟨this.1, this.2.1, this.2.2.1, by omega⟩
    · exact hF k e
  · intro k
    have d1 : Fl k → ¬ Ft k := fun e e' => ((h.dis k).1 e).1 e'
    have d2 : Fl k → ¬ (F k ∨ rx = some k ∨ r6 = some k) := fun e e' => (by rcases e' with e' | e' | e'; exact ((h.dis k).1 e).2 e'; exact (hrx k e').1 e; rcases hn6 k e' with e2 | e2; exact ((h.dis k).1 e).2 (h2 k e2); have := (ho k (.inl e)).2.2.2; omega)
    have d3 : Ft k → ¬ (F k ∨ rx = some k ∨ r6 = some k) := fun e e' => (by rcases e' with e' | e' | e'; exact (h.dis k).2 e e'; exact (hrx k e').2.1 e; rcases hn6 k e' with e2 | e2; exact (h.dis k).2 e (h2 k e2); have := (ho k (.inr (.inl e))).2.2.2; omega)
    exact ⟨fun e => ⟨d1 e, d2 e⟩, d3⟩
  · exact Kept.setCell (h.keep.step hk6 fun i hi e => by have := (ho i (.inr (.inr (h2 i e)))).1; omega) (.inl hcw) _
theorem RefSt.fresh (h : RefSt w wr r cb res A n c s Fl Ft F Al cl At ct Ap cp ls t x2 x3 x4 x5 acc) {k : Nat} (hk : wr.heap.size ≤ k) : ¬ Fl k ∧ ¬ Ft k ∧ ¬ F k ∧ w.heap.size ≤ k ∧ k ≠ cb ∧ k ≠ res := by
  have h1 := h.blk.lt
  have h2 := h.resB.lt
  have h3 := h.keep.size
  exact ⟨fun e => by have := (h.own k (.inl e)).2.2.2; omega, fun e => by have := (h.own k (.inr (.inl e))).2.2.2; omega, fun e => by have := (h.own k (.inr (.inr e))).2.2.2; omega, by omega, by omega, by omega⟩
/-- The last of the labels. -/
theorem RefSt.last (h : RefSt w wr r cb res A n c s Fl Ft F Al cl At ct Ap cp ls t x2 x3 x4 x5 acc) {m : Nat} (hm : ls.length = m + 1) : ∃ g o, Al = some ⟨g, o, none⟩ ∧ wr.cell? ⟨g, o + m, none⟩ = some (.int .u64 (ls.getD (ls.length - 1) 0)) := by
  obtain ⟨g, o, e, -, hcs⟩ := (h.labs.read reads_u64).ints (by omega)
  have hc := hcs m (by omega)
  refine ⟨g, o, e, ?_⟩
  rw [show ls.length - 1 = m by omega, List.getD_eq_getElem?_getD, List.getElem?_eq_getElem (by omega)]
  exact hc
end
end Go.Proofs.Ytaefgljpdpigeaa.Conf

/- The walk of the reference's reader (layer 14): Config. Printed by wip/tools/mkRh14.py. -/
namespace Go.Proofs.Ytaefgljpdpigeaa.Conf
open Go.RowKit Go.Fb Go.CodeP Go.BytesP Go.ReaderP
set_option linter.unusedVariables false
theorem Run.body2 {bs : List UInt8} {ls tb : List Int} {s1 s2 s3 s5 s' : St} {v2 v3 v4 v5 : Nat} {l : List (Int × List Ins)} (h1 : Run (labD bs) s1 s2 ls) (h2 : Run (tabD bs ls.length) s2 s3 tb) (h3 : Run (fourD bs) s3 s5 (v2, v3, v4, v5)) (h4 : Run (prsD bs ls.length v4) s5 s' l) :
    Run (bodyD bs) s1 s' ⟨ls, tb, v2, v3, v4, v5, l⟩ := by
  refine Run.bind (D1 := labD bs) (D2 := fun ls p => match tabD bs ls.length p with
    | .error e => .error e
    | .ok (t, p) => match fourD bs p with
      | .error e => .error e
      | .ok ((n1, n2, n3, n4), p) => match prsD bs ls.length n3 p with
        | .error e => .error e
        | .ok (ps, p) => .ok (⟨ls, t, n1, n2, n3, n4, ps⟩, p)) h1 ?_ (fun p e h => by unfold bodyD; rw [h]) (fun p a p' h => by unfold bodyD; rw [h]; rfl)
  refine Run.bind (D1 := tabD bs ls.length) (D2 := fun t p => match fourD bs p with
      | .error e => .error e
      | .ok ((n1, n2, n3, n4), p) => match prsD bs ls.length n3 p with
        | .error e => .error e
        | .ok (ps, p) => .ok (⟨ls, t, n1, n2, n3, n4, ps⟩, p)) h2 ?_ (fun p e h => by simp only [h]) (fun p a p' h => by simp only [h])
  refine Run.bind (D1 := fourD bs) (D2 := fun (q : Nat × Nat × Nat × Nat) p => match prsD bs ls.length q.2.2.1 p with
      | .error e => .error e
      | .ok (ps, p) => .ok ((⟨ls, tb, q.1, q.2.1, q.2.2.1, q.2.2.2, ps⟩ : Cf), p)) h3 ?_ (fun p e h => by simp only [h]) (fun p a p' h => by simp only [h])
  exact Run.bind (D1 := prsD bs ls.length v4) (D2 := fun ps p => .ok ((⟨ls, tb, v2, v3, v4, v5, ps⟩ : Cf), p)) h4 Run.pure (fun p e h => by simp only [h]) (fun p a p' h => by simp only [h])
theorem Run.err {α : Type} {D : Nat → Except (Int × Int) (α × Nat)} {e : Int × Int} {a : α} : Run D (.error e) (.error e) a := rfl
/-- What a config's reading leaves. -/
def RefEnd (w w' : World) (y : Ending) (r : Nat) (A : Option Addr) (n c : Nat) (bs : List UInt8) (s : St) : Prop :=
  ∃ (x : Cf) (s' : St) (F : Nat → Prop) (cs : Array Value), y = .returned (.agg cs) ∧ confO.own w' F x cs.toList ∧ (∀ k, F k → w.heap.size ≤ k ∧ k < w'.heap.size) ∧ Reader.At w' r A n c s' ∧ Run (bodyD bs) (rMark bs s markB) s' x ∧ Kept (fun k => k = r) w w'
theorem lab_wf {v : Nat} (h : v < 256 ^ 8) : (Lit.int .u64 (v : Int)).wf = true := by simp [Lit.wf, IntKind.min, IntKind.max, IntKind.signed, IntKind.bits]; omega
theorem rnum_short {b : List UInt8} {p m : Nat} (h : b.length < p + m) : rNum b (.ok p) m = (0, .error (5, b.length)) := by unfold rNum; simp only; rw [if_pos h]
theorem rnum_fine {b : List UInt8} {p m : Nat} (h : ¬ b.length < p + m) : rNum b (.ok p) m = (numV b p m, .ok (p + m)) := by unfold rNum; simp only; rw [if_neg h]
theorem numD_short {b : List UInt8} {p m v : Nat} {f : Nat → Int} (h : b.length < p + m) : Run (numD b m f) (.ok p) (.error (5, b.length)) v := by unfold Run numD; simp only; rw [if_pos h]; rfl
theorem numD_fine {b : List UInt8} {p m : Nat} {f : Nat → Int} (h : ¬ b.length < p + m) (h2 : f (numV b p m) = 0) : Run (numD b m f) (.ok p) (.ok (p + m)) (numV b p m) := by unfold Run numD; simp only; rw [if_neg h, if_pos h2]; exact ⟨rfl, rfl⟩
theorem numD_bad {b : List UInt8} {p m : Nat} {f : Nat → Int} {e : Int} (h : ¬ b.length < p + m) (h2 : f (numV b p m) = e) (h3 : e ≠ 0) (v : Nat) : Run (numD b m f) (.ok p) (.error (e, p)) v := by subst h2; unfold Run numD; simp only; rw [if_neg h, if_neg h3]; rfl
section
variable {w : World} {r : Nat} {A : Option Addr} {n c : Nat} {s : St} {B : Nat} {bs : List UInt8}
set_option maxRecDepth 100000 in
set_option maxHeartbeats 8000000 in
theorem rconfig_any (hr : Reader.At w r A n c s) (hb : SliceOf Rep.byte w B A n c bs) (hB : B ≤ r) :
    Calls Try.prog 50 #[.pointer (some ⟨r, 0, none⟩)] w fun y w' => RefEnd w w' y r A n c bs s := by
  unfold RefEnd
  have hrl := hr.lt
  have hn := hb.len
  have hbd := hb.bound
  have k1 : New w (w.alloc (.cells zeroC 26)) := (Kept.refl _ _).alloc _
  have b1 := Blk.made w 26 zeroC
  have k2 := k1.alloc (.cells zeroC 26)
  have b2 := Blk.made (w.alloc (.cells zeroC 26)) 26 zeroC
  have b12 := b1.alloc (.cells zeroC 26)
  rw [← size1] at b2
  have hrw : w.heap.size ≤ w.heap.size := Nat.le_refl _
  have hcw : w.heap.size ≤ w.heap.size + 1 := Nat.le_succ _
  have hre : w.heap.size ≠ w.heap.size + 1 := by omega
  have hst : RefSt w ((w.alloc (.cells zeroC 26)).alloc (.cells zeroC 26)) r (w.heap.size + 1) w.heap.size A n c s (fun _ => False) (fun _ => False) (fun _ => False) none 0 none 0 none 0 [] [] 0 0 0 0 [] :=
    ⟨hr.kept k2 id, b2, b12, OSl.nil, OSl.nil, OSl.nil, by simp, by simp, k2.mono fun _ _ h => h.elim⟩
  have hmark := Reader.mark_any r B A n c bs s _ ⟨#[70, 66, 67, 70, 1]⟩ (by decide) hst.at_ (hst.bytes hb hB hrl) hB
  unfold zeroC at hmark
  have HST := Lib.hid hst
  have HMARK := Lib.hid hmark
  have HB := Lib.hid hb
  have HN := Lib.hid hn
  clear hst hmark hb hn
  clear k1 b1 k2 b2 b12 hr
  go_enter Try.func50, Try.ntmps50
  go_upto_region 3 with (go_at_call 69; refine HMARK.out.mono ?_; rintro e w3 ⟨rfl, hr3, hk3⟩; have hst3 := HST.out.went hr3 hk3 hrl hcw hrw; have HST3 := Lib.hid hst3; clear hr3 hk3 hst3)
  rw [show rMark bs s (⟨#[70, 66, 67, 70, 1]⟩ : ByteArray).data.toList = rMark bs s markB from rfl] at HST3
  clear HMARK HST
  obtain ⟨s3, hs3⟩ : ∃ s3, s3 = rMark bs s markB := ⟨_, rfl⟩
  rw [← hs3] at HST3
  have HS3 := Lib.hid hs3.symm
  clear hs3
  generalize w.heap.size + 1 = cb at *
  have hint := rint_num (count_num 8 (by decide)) HST3.out.at_ (HST3.out.bytes HB.out hB hrl) hB (by decide : 0 < 1) (by decide) (by decide) (by decide) (by decide)
  have HINT := Lib.hid hint
  clear hint
  go_wp2_with (go_at_call 70; refine HINT.out.mono ?_; rintro e w4 ⟨v, s4, rfl, hv, hr4, hrun4, hk4⟩; have hst4 := HST3.out.went hr4 hk4 hrl hcw hrw; have HST4 := Lib.hid hst4; have HRUN4 := Lib.hid hrun4; clear hr4 hk4 hst4 hrun4)
  clear HINT HST3
  have hv' : v < 256 := hv
  clear hv
  go_loopw [5] (fun i wr => ∃ (k : Nat) (s1 : St) (Fl : Nat → Prop) (Al : Option Addr) (cl : Nat) (ls : List Int), i = .int .i64 k ∧ k ≤ v ∧ ls.length = k ∧ RefSt w wr r cb w.heap.size A n c s1 Fl (fun _ => False) (fun _ => False) Al cl none 0 none 0 ls [] 0 0 0 0 [] ∧ Hid (∀ s' l, Run (labelsD bs (v - k) ls) s1 s' l → Run (labD bs) s3 s' l) ∧ Hid (∀ p, s1 = .ok p → 1 ≤ v)) (fun i _ => (v - intOf i).toNat)
  case atStart =>
    refine ⟨0, s4, _, none, 0, [], rfl, Nat.zero_le _, rfl, HST4.out, Lib.hid fun s' l h => ?_, Lib.hid fun p e => ?_⟩
    · exact Run.bind (D1 := numD bs 1 (countF 8)) (D2 := fun n => labelsD bs n []) HRUN4.out h (fun p e h => by unfold labD; rw [h]) (fun p a p' h => by unfold labD; rw [h])
    · subst e
      have := Run.num_ok HRUN4.out
      rw [count_num 8 (by decide)] at this
      by_cases h1 : (v : Int) < 1
      · rw [if_pos h1] at this; cases this
      · omega
  case round =>
    obtain ⟨k, s1, Fl, Al, cl, ls, rfl, hk, hll, hst, hrest, hpos⟩ := hrel
    clear HST4 HRUN4
    by_cases hlt : k < v
    · cases s1 with
      | error e =>
        have hlab := hrest.out (.error e) ls rfl
        obtain ⟨a9, hrd9, he9⟩ := hst.at_
        have y2 := Blk.cell hrd9 2
        simp only [List.getElem?_toArray, List.getElem?_cons_zero, List.getElem?_cons_succ] at y2
        have ge : (e.1 == 0) = false := by simpa using he9
        have hint := rint_err (m := 1) (least := 1) (most := 64) (low := 1) (high := 3) hst.at_ (hst.bytes HB.out hB hrl) hB (by decide) (by decide) (by decide) (by decide) (by decide)
        have HST := Lib.hid hst
        have HLAB := Lib.hid hlab
        have HINT := Lib.hid hint
        clear hst hlab hint
        clear hrest hpos hrd9 he9 hll
        go_wp2_with (go_at_call 70; refine HINT.out.mono ?_; rintro e w4 ⟨rfl, hr4, hk4⟩; have hst4 := HST.out.went hr4 hk4 hrl hcw hrw; have HST4 := Lib.hid hst4; clear hr4 hk4 hst4)
        clear HINT HST y2
        go_loopw [9] (fun i wz => i = .int .i64 0 ∧ wz = w4) (fun _ _ => 0)
        case atStart => exact ⟨rfl, rfl⟩
        case round =>
          obtain ⟨rfl, rfl⟩ := hrel
          have hint := rint_err (m := 2) (least := 1) (most := 256) (low := 2) (high := 2) HST4.out.at_ (HST4.out.bytes HB.out hB hrl) hB (by decide) (by decide) (by decide) (by decide) (by decide)
          have HINT := Lib.hid hint
          clear hint
          go_upto_region 20 with (go_at_call 70; refine HINT.out.mono ?_; rintro e w5 ⟨rfl, hr5, hk5⟩; have hst5 := HST4.out.went hr5 hk5 hrl hcw hrw; have q1 := hst5.blk.cell 2; have q2 := hst5.blk.free 2; simp only [List.getElem?_toArray, List.getElem?_cons_zero, List.getElem?_cons_succ] at q1; have HSTE2 := Lib.hid (hst5.set2 hrl hcw hre 0); clear hr5 hk5 hst5)
          clear HINT q1 q2 HST4
          generalize World.setCell _ ⟨cb, 2, none⟩ _ = we2 at *
          have hint := rint_err (m := 1) (least := 1) (most := 64) (low := 2) (high := 2) HSTE2.out.at_ (HSTE2.out.bytes HB.out hB hrl) hB (by decide) (by decide) (by decide) (by decide) (by decide)
          have HINT := Lib.hid hint
          clear hint
          go_upto_region 21 with (go_at_call 70; refine HINT.out.mono ?_; rintro e w5 ⟨rfl, hr5, hk5⟩; have hst5 := HSTE2.out.went hr5 hk5 hrl hcw hrw; have q1 := hst5.blk.cell 3; have q2 := hst5.blk.free 3; simp only [List.getElem?_toArray, List.getElem?_cons_zero, List.getElem?_cons_succ] at q1; have HSTE3 := Lib.hid (hst5.set3 hrl hcw hre 0); clear hr5 hk5 hst5)
          clear HINT q1 q2 HSTE2
          generalize World.setCell _ ⟨cb, 3, none⟩ _ = we3 at *
          have hint := rint_err (m := 1) (least := 0) (most := 8) (low := 2) (high := 2) HSTE3.out.at_ (HSTE3.out.bytes HB.out hB hrl) hB (by decide) (by decide) (by decide) (by decide) (by decide)
          have HINT := Lib.hid hint
          clear hint
          go_upto_region 22 with (go_at_call 70; refine HINT.out.mono ?_; rintro e w5 ⟨rfl, hr5, hk5⟩; have hst5 := HSTE3.out.went hr5 hk5 hrl hcw hrw; have q1 := hst5.blk.cell 4; have q2 := hst5.blk.free 4; simp only [List.getElem?_toArray, List.getElem?_cons_zero, List.getElem?_cons_succ] at q1; have HSTE4 := Lib.hid (hst5.set4 hrl hcw hre 0); clear hr5 hk5 hst5)
          clear HINT q1 q2 HSTE3
          generalize World.setCell _ ⟨cb, 4, none⟩ _ = we4 at *
          have hint := rint_err (m := 2) (least := 0) (most := 4096) (low := 2) (high := 2) HSTE4.out.at_ (HSTE4.out.bytes HB.out hB hrl) hB (by decide) (by decide) (by decide) (by decide) (by decide)
          have HINT := Lib.hid hint
          clear hint
          go_upto_region 23 with (go_at_call 70; refine HINT.out.mono ?_; rintro e w5 ⟨rfl, hr5, hk5⟩; have hst5 := HSTE4.out.went hr5 hk5 hrl hcw hrw; have q1 := hst5.blk.cell 5; have q2 := hst5.blk.free 5; simp only [List.getElem?_toArray, List.getElem?_cons_zero, List.getElem?_cons_succ] at q1; have HSTE5 := Lib.hid (hst5.set5 hrl hcw hre 0); clear hr5 hk5 hst5)
          clear HINT q1 q2 HSTE4
          generalize World.setCell _ ⟨cb, 5, none⟩ _ = we5 at *
          have hint := rint_err (m := 1) (least := 1) (most := 32) (low := 1) (high := 3) HSTE5.out.at_ (HSTE5.out.bytes HB.out hB hrl) hB (by decide) (by decide) (by decide) (by decide) (by decide)
          have HINT := Lib.hid hint
          clear hint
          go_wp2_with (go_at_call 70; refine HINT.out.mono ?_; rintro e w5 ⟨rfl, hr5, hk5⟩; have hst5 := HSTE5.out.went hr5 hk5 hrl hcw hrw; have HSTE := Lib.hid hst5; clear hr5 hk5 hst5)
          clear HINT HSTE5
          go_loopw [11] (fun i wz => i = .int .i64 0 ∧ wz = w5) (fun _ _ => 0)
          case atStart => exact ⟨rfl, rfl⟩
          case round =>
            obtain ⟨rfl, rfl⟩ := hrel
            have hbody : Run (bodyD bs) (rMark bs s markB) (.error e) ⟨ls, [], 0, 0, 0, 0, []⟩ := by rw [HS3.out]; exact Run.body2 (v2 := 0) (v3 := 0) (v4 := 0) (v5 := 0) (tb := []) (l := []) HLAB.out Run.err Run.err Run.err
            have HBODY := Lib.hid hbody
            clear hbody
            have hb10 := set7_blk (show Blk wr w.heap.size 26 #[.slice none 0 0, .slice none 0 0, .int .i64 0, .int .i64 0, .int .i64 0, .int .i64 0, .slice none 0 0] from HSTE.out.resB) (.slice Al ls.length cl) (.slice none 0 0) (.int .i64 (0 : Int)) (.int .i64 (0 : Int)) (.int .i64 (0 : Int)) (.int .i64 (0 : Int)) (.slice none 0 0)
            have hk10 := set7_kept wr w.heap.size (.slice Al ls.length cl) (.slice none 0 0) (.int .i64 (0 : Int)) (.int .i64 (0 : Int)) (.int .i64 (0 : Int)) (.int .i64 (0 : Int)) (.slice none 0 0)
            unfold set7 at hb10 hk10
            have hres9 := HSTE.out.resB
            have hcb9 := HSTE.out.blk
            unfold zeroC at hres9
            have u0 := hres9.cell 0
            have u1 := hres9.cell 1
            have u2 := hres9.cell 2
            have u3 := hres9.cell 3
            have u4 := hres9.cell 4
            have u5 := hres9.cell 5
            have u6 := hres9.cell 6
            simp only [List.getElem?_toArray, List.getElem?_cons_zero, List.getElem?_cons_succ] at u0 u1 u2 u3 u4 u5 u6
            have g0 := hres9.free 0
            have g1 := hres9.free 1
            have g2 := hres9.free 2
            have g3 := hres9.free 3
            have g4 := hres9.free 4
            have g5 := hres9.free 5
            have g6 := hres9.free 6
            have y0 := hcb9.cell 0
            have y1 := hcb9.cell 1
            have y2 := hcb9.cell 2
            have y3 := hcb9.cell 3
            have y4 := hcb9.cell 4
            have y5 := hcb9.cell 5
            have y6 := hcb9.cell 6
            simp only [List.getElem?_toArray, List.getElem?_cons_zero, List.getElem?_cons_succ] at y0 y1 y2 y3 y4 y5 y6
            have HB10 := Lib.hid hb10
            have HK10 := Lib.hid hk10
            clear hb10 hk10
            clear hres9 hcb9
            go_wp2_with fail
            have hb10 := HB10.out
            have hk10 := HK10.out
            clear y0 y1 y2 y3 y4 y5 y6 g0 g1 g2 g3 g4 g5 g6 u0 u1 u2 u3 u4 u5 u6 HB10 HK10
            generalize World.setCell _ ⟨w.heap.size, 6, none⟩ _ = W at *
            have y0 := hb10.cell 0
            have y1 := hb10.cell 1
            have y2 := hb10.cell 2
            have y3 := hb10.cell 3
            have y4 := hb10.cell 4
            have y5 := hb10.cell 5
            have y6 := hb10.cell 6
            simp only [List.getElem?_toArray, List.getElem?_cons_zero, List.getElem?_cons_succ] at y0 y1 y2 y3 y4 y5 y6
            refine bodyPost_ret (v := .agg #[.slice Al ls.length cl, .slice none 0 0, .int .i64 (0 : Int), .int .i64 (0 : Int), .int .i64 (0 : Int), .int .i64 (0 : Int), .slice none 0 0]) (by simp [results, Try.results50, go_sem, y0, y1, y2, y3, y4, y5, y6]) rfl ?_
            have ho := HSTE.out.own
            have hsz := hk10.size
            refine ⟨⟨ls, [], 0, 0, 0, 0, []⟩, (.error e), fun k => Fl k ∨ False ∨ False, #[.slice Al ls.length cl, .slice none 0 0, .int .i64 (0 : Int), .int .i64 (0 : Int), .int .i64 (0 : Int), .int .i64 (0 : Int), .slice none 0 0], rfl, ?_, fun k e => by have := ho k e; exact ⟨this.1, by omega⟩, HSTE.out.at_.kept hk10 (by omega), HBODY.out, HSTE.out.keep.step hk10 fun i hi e => by omega⟩
            exact ⟨_, _, _, _, _, _, fun k => Fl k, fun k => False, fun k => False, rfl, HSTE.out.labs.kept hk10 (fun k e => (ho k (.inl e)).2.2.1), HSTE.out.tab.kept hk10 (fun k e => (ho k (.inr (.inl e))).2.2.1), HSTE.out.prs.kept hk10 (fun k e => (ho k (.inr (.inr e))).2.2.1), fun _ h => h, HSTE.out.dis, show (Lit.int .i64 0).wf = true by decide, show (Lit.int .i64 0).wf = true by decide, show (Lit.int .i64 0).wf = true by decide, show (Lit.int .i64 0).wf = true by decide⟩
      | ok p =>
        have HREST := Lib.hid (fun (a : Nat) (s2 : St) (h : Run (numD bs 8 (labF ls)) (.ok p) s2 a) s' l (h2 : Run (labelsD bs (v - (k + 1)) (ls ++ [(a : Int)])) s2 s' l) => hrest.out s' l (by
          rw [show v - k = (v - (k + 1)) + 1 by omega]
          exact Run.bind (D1 := numD bs 8 (labF ls)) (D2 := fun a => labelsD bs (v - (k + 1)) (ls ++ [(a : Int)])) h h2 (fun p e h => by rw [labelsD, h]) (fun p a p' h => by rw [labelsD, h])))
        have hnum := Reader.number_any r 8 B A n c bs (.ok p) wr hst.at_ (hst.bytes HB.out hB hrl) (by decide) (by decide)
        have hrd := hst.at_.1
        have y1 := Blk.cell hrd 1
        have y2 := Blk.cell hrd 2
        simp only [List.getElem?_toArray, List.getElem?_cons_zero, List.getElem?_cons_succ] at y1 y2
        have HPOS := hpos
        by_cases hs : bs.length < p + 8
        · rw [rnum_short hs] at hnum
          have hrun := numD_short (f := labF ls) (v := 0) hs
          have HST := Lib.hid hst
          have HNUM := Lib.hid hnum
          have HRUN := Lib.hid hrun
          clear hst hnum hrun
          clear hrest hrd hpos hs
          go_upto_region 9 with (go_at_call 71; refine HNUM.out.mono ?_; rintro e w9 ⟨rfl, hr9, hk9⟩; have hst9 := HST.out.went hr9 hk9 hrl hcw hrw; have HST9 := Lib.hid hst9; clear hr9 hk9 hst9)
          clear y1 y2
          obtain ⟨a9, hrd9, he9⟩ := HST9.out.at_
          have y2 := Blk.cell hrd9 2
          simp only [List.getElem?_toArray, List.getElem?_cons_zero, List.getElem?_cons_succ] at y2
          clear hrd9 he9
          obtain ⟨r0, xs9, hrow9, hne9, hpush9⟩ := HST9.out.rowL hrl hcw hrw hre
          have b9c := HST9.out.blk.cell 0
          simp only [List.getElem?_toArray, List.getElem?_cons_zero] at b9c
          simp only [hll] at hrow9 hpush9 b9c
          have HROW9 := Lib.hid hrow9
          have HNE9 := Lib.hid hne9
          have HPUSH9 := Lib.hid hpush9
          clear hrow9 hne9 hpush9
          go_wp2_with (first
            | (at_builtin
               refine wpList_append_one (cs := [.int .u64 (0 : Int)]) tyU64 rfl _ _ rfl rfl HROW9.out rfl rfl rfl (by simp [Value.oneCell']) (by unfold maxLen; omega) (by omega) ?_
               intro r8 A8 c8 w8 hr8 hk8 hn8
               have hb8 := HST9.out.blk.kept hk8 (fun e => HNE9.out _ e rfl)
               have q1 := hb8.cell 0
               have q2 := hb8.free 0
               simp only [List.getElem?_toArray, List.getElem?_cons_zero] at q1
               have HR8 := Lib.hid hr8
               have HK8 := Lib.hid hk8
               have HN8 := Lib.hid hn8
               clear hr8 hk8 hn8 hb8)
            | fail)
          obtain ⟨F6, hnew⟩ := HPUSH9.out _ _ none _ _ (0 : Int) _ ⟨rfl, by decide⟩ (by simp) HR8.out HK8.out HN8.out
          have HNEW := Lib.hid hnew
          clear hnew
          exact ⟨⟨k + 1, _, F6, A8, c8, ls ++ [(0 : Int)], by go_num, by omega, by rw [List.length_append]; simp only [List.length_singleton]; omega, HNEW.out, Lib.hid fun s' l h2 => HREST.out 0 _ HRUN.out s' l h2, Lib.hid fun p e => by cases e⟩, by simp [intOf]; omega⟩
        · rw [rnum_fine hs] at hnum
          have hbad := fun e h2 h3 => numD_bad (f := labF ls) (e := e) hs h2 h3 (numV bs p 8)
          have hfine := fun h2 => numD_fine (f := labF ls) hs h2
          have hv8 := numV_lt bs p 8
          generalize numV bs p 8 = v8 at *
          have HST := Lib.hid hst
          have HNUM := Lib.hid hnum
          have HBAD := Lib.hid hbad
          have HFINE := Lib.hid hfine
          clear hst hnum hbad hfine
          clear hrest hrd hpos hs
          go_upto_region 9 with (go_at_call 71; refine HNUM.out.mono ?_; rintro e w9 ⟨rfl, hr9, hk9⟩; have hst9 := HST.out.went hr9 hk9 hrl hcw hrw; have HSTN := Lib.hid hst9; clear hr9 hk9 hst9)
          clear y1 y2 HNUM HST
          have hrd9 := HSTN.out.at_.1
          have y2 := Blk.cell hrd9 2
          simp only [List.getElem?_toArray, List.getElem?_cons_zero, List.getElem?_cons_succ] at y2
          cases k with
          | zero =>
            have hF : labF ls v8 = 0 := by unfold labF; rw [if_pos hll]
            have hrun := HFINE.out hF
            have HST9 := HSTN
            have HRUN := Lib.hid hrun
            clear hrun
            clear hrd9 hF
            obtain ⟨r0, xs9, hrow9, hne9, hpush9⟩ := HST9.out.rowL hrl hcw hrw hre
            have b9c := HST9.out.blk.cell 0
            simp only [List.getElem?_toArray, List.getElem?_cons_zero] at b9c
            simp only [hll] at hrow9 hpush9 b9c
            have HROW9 := Lib.hid hrow9
            have HNE9 := Lib.hid hne9
            have HPUSH9 := Lib.hid hpush9
            clear hrow9 hne9 hpush9
            go_wp2_with (first
              | (at_builtin
                 refine wpList_append_one (cs := [.int .u64 (v8 : Int)]) tyU64 rfl _ _ rfl rfl HROW9.out rfl rfl rfl (by simp [Value.oneCell']) (by unfold maxLen; omega) (by omega) ?_
                 intro r8 A8 c8 w8 hr8 hk8 hn8
                 have hb8 := HST9.out.blk.kept hk8 (fun e => HNE9.out _ e rfl)
                 have q1 := hb8.cell 0
                 have q2 := hb8.free 0
                 simp only [List.getElem?_toArray, List.getElem?_cons_zero] at q1
                 have HR8 := Lib.hid hr8
                 have HK8 := Lib.hid hk8
                 have HN8 := Lib.hid hn8
                 clear hr8 hk8 hn8 hb8)
              | fail)
            obtain ⟨F6, hnew⟩ := HPUSH9.out _ _ none _ _ (v8 : Int) _ ⟨rfl, lab_wf hv8⟩ (by simp) HR8.out HK8.out HN8.out
            have HNEW := Lib.hid hnew
            clear hnew
            exact ⟨⟨0 + 1, _, F6, A8, c8, ls ++ [(v8 : Int)], by go_num, by omega, by rw [List.length_append]; simp only [List.length_singleton]; omega, HNEW.out, Lib.hid fun s' l h2 => HREST.out v8 _ HRUN.out s' l h2, Lib.hid fun q e => HPOS.out p rfl⟩, by simp [intOf]; omega⟩
          | succ m =>
            obtain ⟨g, o, rfl, hu⟩ := HSTN.out.last hll
            have hF : labF ls v8 = if (v8 : Int) = ls.getD (ls.length - 1) 0 then 8 else if (v8 : Int) < ls.getD (ls.length - 1) 0 then 7 else 0 := by unfold labF; rw [if_neg (by omega)]
            generalize ls.getD (ls.length - 1) 0 = u at *
            have w1 : IntKind.i64.wrap (((m + 1 : Nat) : Int) - 1) = (m : Int) := by rw [IntWalk.i64_in _ (by omega)]; omega
            have hm0 : 0 ≤ m := Nat.zero_le _
            have hcb := HSTN.out.blk
            have b0 := hcb.cell 0
            simp only [List.getElem?_toArray, List.getElem?_cons_zero] at b0
            rw [hll] at b0
            clear hcb
            by_cases h1 : (v8 : Int) = u
            · rw [if_pos h1] at hF
              have hrun := HBAD.out 8 hF (by decide)
              have hfail := Reader.fail_ok r (A) n c (p + 8 : Nat) 8 p w9 hrd9 (by decide)
              have g1 : ((v8 : Int) == u) = true := by simpa using h1
              have HRUN := Lib.hid hrun
              have HFAIL := Lib.hid hfail
              clear hrun hfail
              clear hF h1 hrd9
              go_upto_region 11 with (go_at_call 51; refine HFAIL.out.mono ?_; rintro e wf ⟨rfl, hrf, hkf⟩; have hst9 := HSTN.out.went (s2 := .error (8, (p : Int))) ⟨_, hrf, show (8 : Int) ≠ 0 by decide⟩ hkf hrl hcw hrw; have HST9 := Lib.hid hst9; have HRF := Lib.hid hrf; clear hrf hkf hst9)
              clear y2 b0 hu HFAIL HSTN
              have y2 := Blk.cell HRF.out 2
              simp only [List.getElem?_toArray, List.getElem?_cons_zero, List.getElem?_cons_succ] at y2
              obtain ⟨r0, xs9, hrow9, hne9, hpush9⟩ := HST9.out.rowL hrl hcw hrw hre
              have b9c := HST9.out.blk.cell 0
              simp only [List.getElem?_toArray, List.getElem?_cons_zero] at b9c
              simp only [hll] at hrow9 hpush9 b9c
              have HROW9 := Lib.hid hrow9
              have HNE9 := Lib.hid hne9
              have HPUSH9 := Lib.hid hpush9
              clear hrow9 hne9 hpush9
              go_wp2_with (first
                | (at_builtin
                   refine wpList_append_one (cs := [.int .u64 (v8 : Int)]) tyU64 rfl _ _ rfl rfl HROW9.out rfl rfl rfl (by simp [Value.oneCell']) (by unfold maxLen; omega) (by omega) ?_
                   intro r8 A8 c8 w8 hr8 hk8 hn8
                   have hb8 := HST9.out.blk.kept hk8 (fun e => HNE9.out _ e rfl)
                   have q1 := hb8.cell 0
                   have q2 := hb8.free 0
                   simp only [List.getElem?_toArray, List.getElem?_cons_zero] at q1
                   have HR8 := Lib.hid hr8
                   have HK8 := Lib.hid hk8
                   have HN8 := Lib.hid hn8
                   clear hr8 hk8 hn8 hb8)
                | fail)
              obtain ⟨F6, hnew⟩ := HPUSH9.out _ _ none _ _ (v8 : Int) _ ⟨rfl, lab_wf hv8⟩ (by simp) HR8.out HK8.out HN8.out
              have HNEW := Lib.hid hnew
              clear hnew
              exact ⟨⟨(m + 1) + 1, _, F6, A8, c8, ls ++ [(v8 : Int)], by go_num, by omega, by rw [List.length_append]; simp only [List.length_singleton]; omega, HNEW.out, Lib.hid fun s' l h2 => HREST.out v8 _ HRUN.out s' l h2, Lib.hid fun p e => by cases e⟩, by simp [intOf]; omega⟩
            · rw [if_neg h1] at hF
              have g1 : ((v8 : Int) == u) = false := by simpa using h1
              by_cases h2 : (v8 : Int) < u
              · rw [if_pos h2] at hF
                have hrun := HBAD.out 7 hF (by decide)
                have hfail := Reader.fail_ok r (A) n c (p + 8 : Nat) 7 p w9 hrd9 (by decide)
                have g2 : decide ((v8 : Int) < u) = true := by simpa using h2
                have HRUN := Lib.hid hrun
                have HFAIL := Lib.hid hfail
                clear hrun hfail
                clear hF h1 hrd9
                go_upto_region 13 with (go_at_call 51; refine HFAIL.out.mono ?_; rintro e wf ⟨rfl, hrf, hkf⟩; have hst9 := HSTN.out.went (s2 := .error (7, (p : Int))) ⟨_, hrf, show (7 : Int) ≠ 0 by decide⟩ hkf hrl hcw hrw; have HST9 := Lib.hid hst9; clear hrf hkf hst9)
                clear y2 b0 hu HFAIL HSTN
                obtain ⟨r0, xs9, hrow9, hne9, hpush9⟩ := HST9.out.rowL hrl hcw hrw hre
                have b9c := HST9.out.blk.cell 0
                simp only [List.getElem?_toArray, List.getElem?_cons_zero] at b9c
                simp only [hll] at hrow9 hpush9 b9c
                have HROW9 := Lib.hid hrow9
                have HNE9 := Lib.hid hne9
                have HPUSH9 := Lib.hid hpush9
                clear hrow9 hne9 hpush9
                go_wp2_with (first
                  | (at_builtin
                     refine wpList_append_one (cs := [.int .u64 (v8 : Int)]) tyU64 rfl _ _ rfl rfl HROW9.out rfl rfl rfl (by simp [Value.oneCell']) (by unfold maxLen; omega) (by omega) ?_
                     intro r8 A8 c8 w8 hr8 hk8 hn8
                     have hb8 := HST9.out.blk.kept hk8 (fun e => HNE9.out _ e rfl)
                     have q1 := hb8.cell 0
                     have q2 := hb8.free 0
                     simp only [List.getElem?_toArray, List.getElem?_cons_zero] at q1
                     have HR8 := Lib.hid hr8
                     have HK8 := Lib.hid hk8
                     have HN8 := Lib.hid hn8
                     clear hr8 hk8 hn8 hb8)
                  | fail)
                obtain ⟨F6, hnew⟩ := HPUSH9.out _ _ none _ _ (v8 : Int) _ ⟨rfl, lab_wf hv8⟩ (by simp) HR8.out HK8.out HN8.out
                have HNEW := Lib.hid hnew
                clear hnew
                exact ⟨⟨(m + 1) + 1, _, F6, A8, c8, ls ++ [(v8 : Int)], by go_num, by omega, by rw [List.length_append]; simp only [List.length_singleton]; omega, HNEW.out, Lib.hid fun s' l h2 => HREST.out v8 _ HRUN.out s' l h2, Lib.hid fun p e => by cases e⟩, by simp [intOf]; omega⟩
              · rw [if_neg h2] at hF
                have hrun := HFINE.out hF
                have g2 : decide ((v8 : Int) < u) = false := by simpa using h2
                have HST9 := HSTN
                have HRUN := Lib.hid hrun
                clear hrun
                clear hF h1 hrd9 b0
                obtain ⟨r0, xs9, hrow9, hne9, hpush9⟩ := HST9.out.rowL hrl hcw hrw hre
                have b9c := HST9.out.blk.cell 0
                simp only [List.getElem?_toArray, List.getElem?_cons_zero] at b9c
                simp only [hll] at hrow9 hpush9 b9c
                have HROW9 := Lib.hid hrow9
                have HNE9 := Lib.hid hne9
                have HPUSH9 := Lib.hid hpush9
                clear hrow9 hne9 hpush9
                go_wp2_with (first
                  | (at_builtin
                     refine wpList_append_one (cs := [.int .u64 (v8 : Int)]) tyU64 rfl _ _ rfl rfl HROW9.out rfl rfl rfl (by simp [Value.oneCell']) (by unfold maxLen; omega) (by omega) ?_
                     intro r8 A8 c8 w8 hr8 hk8 hn8
                     have hb8 := HST9.out.blk.kept hk8 (fun e => HNE9.out _ e rfl)
                     have q1 := hb8.cell 0
                     have q2 := hb8.free 0
                     simp only [List.getElem?_toArray, List.getElem?_cons_zero] at q1
                     have HR8 := Lib.hid hr8
                     have HK8 := Lib.hid hk8
                     have HN8 := Lib.hid hn8
                     clear hr8 hk8 hn8 hb8)
                  | fail)
                obtain ⟨F6, hnew⟩ := HPUSH9.out _ _ none _ _ (v8 : Int) _ ⟨rfl, lab_wf hv8⟩ (by simp) HR8.out HK8.out HN8.out
                have HNEW := Lib.hid hnew
                clear hnew
                exact ⟨⟨(m + 1) + 1, _, F6, A8, c8, ls ++ [(v8 : Int)], by go_num, by omega, by rw [List.length_append]; simp only [List.length_singleton]; omega, HNEW.out, Lib.hid fun s' l h2 => HREST.out v8 _ HRUN.out s' l h2, Lib.hid fun q e => HPOS.out p rfl⟩, by simp [intOf]; omega⟩
    · have hlab := hrest.out s1 ls (by rw [show v - k = 0 by omega]; exact Run.pure)
      have HLL2 := Lib.hid (show ls.length = v by omega)
      have hkv : v ≤ k := by omega
      have hint := rint_num (count_num 64 (by decide)) hst.at_ (hst.bytes HB.out hB hrl) hB (by decide : 0 < 1) (by decide) (by decide) (by decide) (by decide)
      have HPOS := hpos
      have HST := Lib.hid hst
      have HLAB := Lib.hid hlab
      have HINT := Lib.hid hint
      clear hst hlab hint
      clear hrest hpos hll
      go_wp2_with (go_at_call 70; refine HINT.out.mono ?_; rintro e w4 ⟨nt, s4, rfl, hv, hr4, hrun4, hk4⟩; have hst4 := HST.out.went hr4 hk4 hrl hcw hrw; have HST4 := Lib.hid hst4; have HRUN4 := Lib.hid hrun4; clear hr4 hk4 hst4 hrun4)
      clear HINT HST
      have hnt : nt < 256 := hv
      clear hv
      go_loopw [9] (fun i wr => ∃ (k : Nat) (sx : St) (Ft : Nat → Prop) (At : Option Addr) (ct : Nat) (t : List Int), i = .int .i64 k ∧ k ≤ nt ∧ t.length = k ∧ RefSt w wr r cb w.heap.size A n c sx Fl Ft (fun _ => False) Al cl At ct none 0 ls t 0 0 0 0 [] ∧ Hid (∀ s' l, Run (tableD bs ls.length (nt - k) t) sx s' l → Run (tabD bs ls.length) s1 s' l) ∧ Hid (∀ p, sx = .ok p → 1 ≤ v)) (fun i _ => (nt - intOf i).toNat)
      case atStart =>
        refine ⟨0, s4, _, none, 0, [], rfl, Nat.zero_le _, rfl, HST4.out, Lib.hid fun s' l h => ?_, Lib.hid fun p e => ?_⟩
        · exact Run.bind (D1 := numD bs 1 (countF 64)) (D2 := fun n => tableD bs ls.length n []) HRUN4.out h (fun p e h => by unfold tabD; rw [h]) (fun p a p' h => by unfold tabD; rw [h])
        · subst e
          obtain ⟨q, hq⟩ := Run.ok_of HRUN4.out
          exact HPOS.out q hq
      case round =>
        obtain ⟨k, sx, Ft, At, ct, t, rfl, hk, hll, hst, hrest, hpos⟩ := hrel
        clear HST4 HRUN4 HPOS
        by_cases hlt : k < nt
        · cases sx with
          | error e =>
            have htab := hrest.out (.error e) t rfl
            obtain ⟨a9, hrd9, he9⟩ := hst.at_
            have y2 := Blk.cell hrd9 2
            simp only [List.getElem?_toArray, List.getElem?_cons_zero, List.getElem?_cons_succ] at y2
            have ge : (e.1 == 0) = false := by simpa using he9
            have HST := Lib.hid hst
            have HTAB := Lib.hid htab
            clear hst htab
            clear hrest hpos hrd9 he9 hll
            go_upto_region 19 with (fail)
            clear y2
            have hint := rint_err (m := 2) (least := 1) (most := 256) (low := 2) (high := 2) HST.out.at_ (HST.out.bytes HB.out hB hrl) hB (by decide) (by decide) (by decide) (by decide) (by decide)
            have HINT := Lib.hid hint
            clear hint
            go_upto_region 20 with (go_at_call 70; refine HINT.out.mono ?_; rintro e w5 ⟨rfl, hr5, hk5⟩; have hst5 := HST.out.went hr5 hk5 hrl hcw hrw; have q1 := hst5.blk.cell 2; have q2 := hst5.blk.free 2; simp only [List.getElem?_toArray, List.getElem?_cons_zero, List.getElem?_cons_succ] at q1; have HSTE2 := Lib.hid (hst5.set2 hrl hcw hre 0); clear hr5 hk5 hst5)
            clear HINT q1 q2 HST
            generalize World.setCell _ ⟨cb, 2, none⟩ _ = we2 at *
            have hint := rint_err (m := 1) (least := 1) (most := 64) (low := 2) (high := 2) HSTE2.out.at_ (HSTE2.out.bytes HB.out hB hrl) hB (by decide) (by decide) (by decide) (by decide) (by decide)
            have HINT := Lib.hid hint
            clear hint
            go_upto_region 21 with (go_at_call 70; refine HINT.out.mono ?_; rintro e w5 ⟨rfl, hr5, hk5⟩; have hst5 := HSTE2.out.went hr5 hk5 hrl hcw hrw; have q1 := hst5.blk.cell 3; have q2 := hst5.blk.free 3; simp only [List.getElem?_toArray, List.getElem?_cons_zero, List.getElem?_cons_succ] at q1; have HSTE3 := Lib.hid (hst5.set3 hrl hcw hre 0); clear hr5 hk5 hst5)
            clear HINT q1 q2 HSTE2
            generalize World.setCell _ ⟨cb, 3, none⟩ _ = we3 at *
            have hint := rint_err (m := 1) (least := 0) (most := 8) (low := 2) (high := 2) HSTE3.out.at_ (HSTE3.out.bytes HB.out hB hrl) hB (by decide) (by decide) (by decide) (by decide) (by decide)
            have HINT := Lib.hid hint
            clear hint
            go_upto_region 22 with (go_at_call 70; refine HINT.out.mono ?_; rintro e w5 ⟨rfl, hr5, hk5⟩; have hst5 := HSTE3.out.went hr5 hk5 hrl hcw hrw; have q1 := hst5.blk.cell 4; have q2 := hst5.blk.free 4; simp only [List.getElem?_toArray, List.getElem?_cons_zero, List.getElem?_cons_succ] at q1; have HSTE4 := Lib.hid (hst5.set4 hrl hcw hre 0); clear hr5 hk5 hst5)
            clear HINT q1 q2 HSTE3
            generalize World.setCell _ ⟨cb, 4, none⟩ _ = we4 at *
            have hint := rint_err (m := 2) (least := 0) (most := 4096) (low := 2) (high := 2) HSTE4.out.at_ (HSTE4.out.bytes HB.out hB hrl) hB (by decide) (by decide) (by decide) (by decide) (by decide)
            have HINT := Lib.hid hint
            clear hint
            go_upto_region 23 with (go_at_call 70; refine HINT.out.mono ?_; rintro e w5 ⟨rfl, hr5, hk5⟩; have hst5 := HSTE4.out.went hr5 hk5 hrl hcw hrw; have q1 := hst5.blk.cell 5; have q2 := hst5.blk.free 5; simp only [List.getElem?_toArray, List.getElem?_cons_zero, List.getElem?_cons_succ] at q1; have HSTE5 := Lib.hid (hst5.set5 hrl hcw hre 0); clear hr5 hk5 hst5)
            clear HINT q1 q2 HSTE4
            generalize World.setCell _ ⟨cb, 5, none⟩ _ = we5 at *
            have hint := rint_err (m := 1) (least := 1) (most := 32) (low := 1) (high := 3) HSTE5.out.at_ (HSTE5.out.bytes HB.out hB hrl) hB (by decide) (by decide) (by decide) (by decide) (by decide)
            have HINT := Lib.hid hint
            clear hint
            go_wp2_with (go_at_call 70; refine HINT.out.mono ?_; rintro e w5 ⟨rfl, hr5, hk5⟩; have hst5 := HSTE5.out.went hr5 hk5 hrl hcw hrw; have HSTE := Lib.hid hst5; clear hr5 hk5 hst5)
            clear HINT HSTE5
            go_loopw [11] (fun i wz => i = .int .i64 0 ∧ wz = w5) (fun _ _ => 0)
            case atStart => exact ⟨rfl, rfl⟩
            case round =>
              obtain ⟨rfl, rfl⟩ := hrel
              have hbody : Run (bodyD bs) (rMark bs s markB) (.error e) ⟨ls, t, 0, 0, 0, 0, []⟩ := by rw [HS3.out]; exact Run.body2 (v2 := 0) (v3 := 0) (v4 := 0) (v5 := 0) (l := []) HLAB.out HTAB.out Run.err Run.err
              have HBODY := Lib.hid hbody
              clear hbody
              have hb10 := set7_blk (show Blk wr w.heap.size 26 #[.slice none 0 0, .slice none 0 0, .int .i64 0, .int .i64 0, .int .i64 0, .int .i64 0, .slice none 0 0] from HSTE.out.resB) (.slice Al ls.length cl) (.slice At t.length ct) (.int .i64 (0 : Int)) (.int .i64 (0 : Int)) (.int .i64 (0 : Int)) (.int .i64 (0 : Int)) (.slice none 0 0)
              have hk10 := set7_kept wr w.heap.size (.slice Al ls.length cl) (.slice At t.length ct) (.int .i64 (0 : Int)) (.int .i64 (0 : Int)) (.int .i64 (0 : Int)) (.int .i64 (0 : Int)) (.slice none 0 0)
              unfold set7 at hb10 hk10
              have hres9 := HSTE.out.resB
              have hcb9 := HSTE.out.blk
              unfold zeroC at hres9
              have u0 := hres9.cell 0
              have u1 := hres9.cell 1
              have u2 := hres9.cell 2
              have u3 := hres9.cell 3
              have u4 := hres9.cell 4
              have u5 := hres9.cell 5
              have u6 := hres9.cell 6
              simp only [List.getElem?_toArray, List.getElem?_cons_zero, List.getElem?_cons_succ] at u0 u1 u2 u3 u4 u5 u6
              have g0 := hres9.free 0
              have g1 := hres9.free 1
              have g2 := hres9.free 2
              have g3 := hres9.free 3
              have g4 := hres9.free 4
              have g5 := hres9.free 5
              have g6 := hres9.free 6
              have y0 := hcb9.cell 0
              have y1 := hcb9.cell 1
              have y2 := hcb9.cell 2
              have y3 := hcb9.cell 3
              have y4 := hcb9.cell 4
              have y5 := hcb9.cell 5
              have y6 := hcb9.cell 6
              simp only [List.getElem?_toArray, List.getElem?_cons_zero, List.getElem?_cons_succ] at y0 y1 y2 y3 y4 y5 y6
              have HB10 := Lib.hid hb10
              have HK10 := Lib.hid hk10
              clear hb10 hk10
              clear hres9 hcb9
              go_wp2_with fail
              have hb10 := HB10.out
              have hk10 := HK10.out
              clear y0 y1 y2 y3 y4 y5 y6 g0 g1 g2 g3 g4 g5 g6 u0 u1 u2 u3 u4 u5 u6 HB10 HK10
              generalize World.setCell _ ⟨w.heap.size, 6, none⟩ _ = W at *
              have y0 := hb10.cell 0
              have y1 := hb10.cell 1
              have y2 := hb10.cell 2
              have y3 := hb10.cell 3
              have y4 := hb10.cell 4
              have y5 := hb10.cell 5
              have y6 := hb10.cell 6
              simp only [List.getElem?_toArray, List.getElem?_cons_zero, List.getElem?_cons_succ] at y0 y1 y2 y3 y4 y5 y6
              refine bodyPost_ret (v := .agg #[.slice Al ls.length cl, .slice At t.length ct, .int .i64 (0 : Int), .int .i64 (0 : Int), .int .i64 (0 : Int), .int .i64 (0 : Int), .slice none 0 0]) (by simp [results, Try.results50, go_sem, y0, y1, y2, y3, y4, y5, y6]) rfl ?_
              have ho := HSTE.out.own
              have hsz := hk10.size
              refine ⟨⟨ls, t, 0, 0, 0, 0, []⟩, (.error e), fun k => Fl k ∨ Ft k ∨ False, #[.slice Al ls.length cl, .slice At t.length ct, .int .i64 (0 : Int), .int .i64 (0 : Int), .int .i64 (0 : Int), .int .i64 (0 : Int), .slice none 0 0], rfl, ?_, fun k e => by have := ho k e; exact ⟨this.1, by omega⟩, HSTE.out.at_.kept hk10 (by omega), HBODY.out, HSTE.out.keep.step hk10 fun i hi e => by omega⟩
              exact ⟨_, _, _, _, _, _, fun k => Fl k, fun k => Ft k, fun k => False, rfl, HSTE.out.labs.kept hk10 (fun k e => (ho k (.inl e)).2.2.1), HSTE.out.tab.kept hk10 (fun k e => (ho k (.inr (.inl e))).2.2.1), HSTE.out.prs.kept hk10 (fun k e => (ho k (.inr (.inr e))).2.2.1), fun _ h => h, HSTE.out.dis, show (Lit.int .i64 0).wf = true by decide, show (Lit.int .i64 0).wf = true by decide, show (Lit.int .i64 0).wf = true by decide, show (Lit.int .i64 0).wf = true by decide⟩
          | ok p =>
            subst hll
            have h1v := hpos.out p rfl
            have HREST := Lib.hid (fun (a : Nat) (s2 : St) (h : Run (numD bs 1 (partF ls.length)) (.ok p) s2 a) s' l (h2 : Run (tableD bs ls.length (nt - (t.length + 1)) (t ++ [(a : Int)])) s2 s' l) => hrest.out s' l (by
              rw [show nt - t.length = (nt - (t.length + 1)) + 1 by omega]
              exact Run.bind (D1 := numD bs 1 (partF ls.length)) (D2 := fun a => tableD bs ls.length (nt - (t.length + 1)) (t ++ [(a : Int)])) h h2 (fun p e h => by rw [tableD, h]) (fun p a p' h => by rw [tableD, h])))
            have hkd : New wr wr.drew := (Kept.refl _ _).drew
            have hint := rint_num (f := partF ls.length) (m := 1) (least := 0) (most := (v : Int) - 1) (low := 2) (high := 2) (fun u => by rw [HLL2.out]; exact part_num _ u) (hst.at_.kept hkd id) (SliceOf.drewN (hst.bytes HB.out hB hrl) 1) hB (by decide) (by decide) (by decide) (by decide) (by omega)
            have w1 : IntKind.i64.wrap ((v : Int) - 1) = (v : Int) - 1 := IntWalk.i64_in _ (by omega)
            have hrd := hst.at_.1
            have e2 := Blk.cell hrd 2
            have y1 := hst.blk.cell 1
            have y2 := hst.blk.free 1
            simp only [List.getElem?_toArray, List.getElem?_cons_zero, List.getElem?_cons_succ] at e2 y1
            have HST := Lib.hid hst
            have HINT := Lib.hid hint
            have HKD := Lib.hid hkd
            clear hst hint hkd
            clear hrest hrd
            go_upto_region 18 with (fail)
            clear e2
            go_region_law (first
              | (refine step_call (f := 70) (enters Try.func70 rfl rfl) #[.tmp 103, .const (.int .i64 1), .const (.int .i64 0), .tmp 105, .const (.int .i64 2), .const (.int .i64 2)] #[75, 3, 3, 3, 30, 30] (by rfl) (by rfl) (by rfl) HINT.out ?_
                 rintro e w5 ⟨v5, s5, rfl, hv5, hr5, hrun5, hk5d⟩
                 have hst5 := HST.out.went hr5 ((HKD.out.mono fun _ _ h => h.elim).trans hk5d) hrl hcw hrw
                 obtain ⟨r0, xs5, hrow5, hne5, hpush5⟩ := hst5.rowT hrl hcw hrw hre
                 have hb5 := hst5.blk
                 have ka : New w5 (w5.alloc (.cells #[.int .i64 (v5 : Int)] 3)) := (Kept.refl _ _).alloc _
                 have p1 := hb5.cell 1
                 have p2 := hb5.free 1
                 have z1 := (hb5.kept ka id).cell 1
                 have z2 := (hb5.kept ka id).free 1
                 simp only [List.getElem?_toArray, List.getElem?_cons_zero, List.getElem?_cons_succ] at p1 z1
                 have HB5 := Lib.hid hb5
                 have HRUN5 := Lib.hid hrun5
                 have HROW5 := Lib.hid hrow5
                 have HNE5 := Lib.hid hne5
                 have HPUSH5 := Lib.hid hpush5
                 have HV5 := Lib.hid hv5
                 clear hr5 hrun5 hk5d hst5 hb5 hrow5 hne5 hpush5 ka hv5
                 refine ⟨_, rfl, ?_⟩)
              | (refine step_append_one (W := w5) (T := 3) (fr := (0, 0)) (cs := [.int .i64 (v5 : Int)]) tyInt (by rfl) (.tmp 102) (.tmp 107) (by rfl) (by rfl) HROW5.out (by rfl) (by rfl) (by rfl) (by rfl) (by simp [Value.oneCell']) (by unfold maxLen; omega) (by omega) ?_
                 intro r6 A6 c6 w6 hr6 hk6 hn6
                 have hb6 := HB5.out.kept hk6 (fun e => HNE5.out _ e rfl)
                 have q1 := hb6.cell 1
                 have q2 := hb6.free 1
                 simp only [List.getElem?_toArray, List.getElem?_cons_zero, List.getElem?_cons_succ] at q1
                 have HR6 := Lib.hid hr6
                 have HK6 := Lib.hid hk6
                 have HN6 := Lib.hid hn6
                 clear hr6 hk6 hn6 hb6)
              | fail)
            all_goals
              have hv6 : v5 < 256 := HV5.out
              obtain ⟨F6, hnew⟩ := HPUSH5.out _ _ none _ _ (v5 : Int) _ ⟨rfl, wf_small (by omega)⟩ (by simp) HR6.out HK6.out HN6.out
              have HNEW := Lib.hid hnew
              clear hnew
              go_wp2_with fail
              exact ⟨⟨t.length + 1, s5, F6, A6, c6, t ++ [(v5 : Int)], by go_num, by omega, by rw [List.length_append]; rfl, HNEW.out, Lib.hid fun s' l h2 => HREST.out v5 s5 HRUN5.out s' l h2, Lib.hid fun _ _ => h1v⟩, by simp [intOf]; omega⟩
        · have htab := hrest.out sx t (by rw [show nt - k = 0 by omega]; exact Run.pure)
          have hkn : nt ≤ k := by omega
          have HPOS := hpos
          have HST := Lib.hid hst
          have HTAB := Lib.hid htab
          clear hst htab
          clear hrest hpos hll hlt
          go_upto_region 19 with (fail)
          have hint := rint_num (m := 2) (f := rangeF 2) range2_num HST.out.at_ (HST.out.bytes HB.out hB hrl) hB (by decide) (by decide) (by decide) (by decide) (by decide)
          have HINT := Lib.hid hint
          clear hint
          go_upto_region 20 with (go_at_call 70; refine HINT.out.mono ?_; rintro e w5 ⟨v2, sx2, rfl, hv, hr5, hrun5, hk5⟩; have hst5 := HST.out.went hr5 hk5 hrl hcw hrw; have q1 := hst5.blk.cell 2; have q2 := hst5.blk.free 2; simp only [List.getElem?_toArray, List.getElem?_cons_zero, List.getElem?_cons_succ] at q1; have HSTE2 := Lib.hid (hst5.set2 hrl hcw hre v2); have HRUN2 := Lib.hid hrun5; have HV2 := Lib.hid hv; clear hr5 hk5 hst5 hrun5 hv)
          clear HINT q1 q2 HST
          generalize World.setCell _ ⟨cb, 2, none⟩ _ = we2 at *
          have hv2 : v2 < 65536 := HV2.out
          clear HV2
          have hint := rint_num (m := 1) (f := rangeF 3) range3_num HSTE2.out.at_ (HSTE2.out.bytes HB.out hB hrl) hB (by decide) (by decide) (by decide) (by decide) (by decide)
          have HINT := Lib.hid hint
          clear hint
          go_upto_region 21 with (go_at_call 70; refine HINT.out.mono ?_; rintro e w5 ⟨v3, sx3, rfl, hv, hr5, hrun5, hk5⟩; have hst5 := HSTE2.out.went hr5 hk5 hrl hcw hrw; have q1 := hst5.blk.cell 3; have q2 := hst5.blk.free 3; simp only [List.getElem?_toArray, List.getElem?_cons_zero, List.getElem?_cons_succ] at q1; have HSTE3 := Lib.hid (hst5.set3 hrl hcw hre v3); have HRUN3 := Lib.hid hrun5; have HV3 := Lib.hid hv; clear hr5 hk5 hst5 hrun5 hv)
          clear HINT q1 q2 HSTE2
          generalize World.setCell _ ⟨cb, 3, none⟩ _ = we3 at *
          have hv3 : v3 < 65536 := Nat.lt_of_lt_of_le HV3.out (by decide)
          clear HV3
          have hint := rint_num (m := 1) (f := rangeF 4) range4_num HSTE3.out.at_ (HSTE3.out.bytes HB.out hB hrl) hB (by decide) (by decide) (by decide) (by decide) (by decide)
          have HINT := Lib.hid hint
          clear hint
          go_upto_region 22 with (go_at_call 70; refine HINT.out.mono ?_; rintro e w5 ⟨v4, sx4, rfl, hv, hr5, hrun5, hk5⟩; have hst5 := HSTE3.out.went hr5 hk5 hrl hcw hrw; have q1 := hst5.blk.cell 4; have q2 := hst5.blk.free 4; simp only [List.getElem?_toArray, List.getElem?_cons_zero, List.getElem?_cons_succ] at q1; have HSTE4 := Lib.hid (hst5.set4 hrl hcw hre v4); have HRUN4 := Lib.hid hrun5; have HV4 := Lib.hid hv; clear hr5 hk5 hst5 hrun5 hv)
          clear HINT q1 q2 HSTE3
          generalize World.setCell _ ⟨cb, 4, none⟩ _ = we4 at *
          have hv4 : v4 < 65536 := Nat.lt_of_lt_of_le HV4.out (by decide)
          clear HV4
          have hint := rint_num (m := 2) (f := rangeF 5) range5_num HSTE4.out.at_ (HSTE4.out.bytes HB.out hB hrl) hB (by decide) (by decide) (by decide) (by decide) (by decide)
          have HINT := Lib.hid hint
          clear hint
          go_upto_region 23 with (go_at_call 70; refine HINT.out.mono ?_; rintro e w5 ⟨v5, sx5, rfl, hv, hr5, hrun5, hk5⟩; have hst5 := HSTE4.out.went hr5 hk5 hrl hcw hrw; have q1 := hst5.blk.cell 5; have q2 := hst5.blk.free 5; simp only [List.getElem?_toArray, List.getElem?_cons_zero, List.getElem?_cons_succ] at q1; have HSTE5 := Lib.hid (hst5.set5 hrl hcw hre v5); have HRUN5 := Lib.hid hrun5; have HV5 := Lib.hid hv; clear hr5 hk5 hst5 hrun5 hv)
          clear HINT q1 q2 HSTE4
          generalize World.setCell _ ⟨cb, 5, none⟩ _ = we5 at *
          have hv5 : v5 < 65536 := HV5.out
          clear HV5
          have hfour := Run.four HRUN2.out HRUN3.out HRUN4.out HRUN5.out
          have HFOUR := Lib.hid hfour
          clear hfour
          clear HRUN2 HRUN3 HRUN4
          have hint := rint_num (count_num 32 (by decide)) HSTE5.out.at_ (HSTE5.out.bytes HB.out hB hrl) hB (by decide : 0 < 1) (by decide) (by decide) (by decide) (by decide)
          have HINT := Lib.hid hint
          clear hint
          go_wp2_with (go_at_call 70; refine HINT.out.mono ?_; rintro e w4 ⟨np, s4, rfl, hv, hr4, hrun4, hk4⟩; have hst4 := HSTE5.out.went hr4 hk4 hrl hcw hrw; have HST4 := Lib.hid hst4; have HRUN4 := Lib.hid hrun4; clear hr4 hk4 hst4 hrun4)
          clear HINT HSTE5
          have hnp : np < 256 := hv
          clear hv
          go_loopw [11] (fun i wr => ∃ (k : Nat) (sy : St) (F : Nat → Prop) (Ap : Option Addr) (cp : Nat) (acc : List (Int × List Ins)), i = .int .i64 k ∧ k ≤ np ∧ acc.length = k ∧ RefSt w wr r cb w.heap.size A n c sy Fl Ft F Al cl At ct Ap cp ls t v2 v3 v4 v5 acc ∧ Hid (∀ s' l, Run (procsD bs ls.length v4 (np - k) acc) sy s' l → Run (prsD bs ls.length v4) sx5 s' l) ∧ Hid (∀ p, sy = .ok p → 1 ≤ v)) (fun i _ => (np - intOf i).toNat)
          case atStart =>
            refine ⟨0, s4, _, none, 0, [], rfl, Nat.zero_le _, rfl, HST4.out, Lib.hid fun s' l h => ?_, Lib.hid fun p e => ?_⟩
            · exact Run.bind (D1 := numD bs 1 (countF 32)) (D2 := fun n => procsD bs ls.length v4 n []) HRUN4.out h (fun p e h => by unfold prsD; rw [h]) (fun p a p' h => by unfold prsD; rw [h])
            · subst e
              obtain ⟨q, rfl⟩ := Run.ok_of HRUN4.out
              obtain ⟨q, hq⟩ := Run.ok_of HFOUR.out
              exact HPOS.out q hq
          case round =>
            obtain ⟨k, sy, F, Ap, cp, acc, rfl, hk, hll, hst, hrest, hpos⟩ := hrel
            clear HST4 HRUN4 HPOS HRUN5
            by_cases hlt : k < np
            · cases sy with
              | error e =>
                have hprs := hrest.out (.error e) acc rfl
                obtain ⟨a9, hrd9, he9⟩ := hst.at_
                have y9 := Blk.cell hrd9 2
                simp only [List.getElem?_toArray, List.getElem?_cons_zero, List.getElem?_cons_succ] at y9
                have ge : (e.1 == 0) = false := by simpa using he9
                have HST := Lib.hid hst
                have HPRS := Lib.hid hprs
                clear hst hprs
                clear hrest hpos hrd9 he9 hll
                go_upto_region 30 with (fail)
                clear y9
                have hbody : Run (bodyD bs) (rMark bs s markB) (.error e) ⟨ls, t, v2, v3, v4, v5, acc⟩ := by rw [HS3.out]; exact Run.body2 HLAB.out HTAB.out HFOUR.out HPRS.out
                have HBODY := Lib.hid hbody
                clear hbody
                have hb10 := set7_blk (show Blk wr w.heap.size 26 #[.slice none 0 0, .slice none 0 0, .int .i64 0, .int .i64 0, .int .i64 0, .int .i64 0, .slice none 0 0] from HST.out.resB) (.slice Al ls.length cl) (.slice At t.length ct) (.int .i64 (v2 : Int)) (.int .i64 (v3 : Int)) (.int .i64 (v4 : Int)) (.int .i64 (v5 : Int)) (.slice Ap acc.length cp)
                have hk10 := set7_kept wr w.heap.size (.slice Al ls.length cl) (.slice At t.length ct) (.int .i64 (v2 : Int)) (.int .i64 (v3 : Int)) (.int .i64 (v4 : Int)) (.int .i64 (v5 : Int)) (.slice Ap acc.length cp)
                unfold set7 at hb10 hk10
                have hres9 := HST.out.resB
                have hcb9 := HST.out.blk
                unfold zeroC at hres9
                have u0 := hres9.cell 0
                have u1 := hres9.cell 1
                have u2 := hres9.cell 2
                have u3 := hres9.cell 3
                have u4 := hres9.cell 4
                have u5 := hres9.cell 5
                have u6 := hres9.cell 6
                simp only [List.getElem?_toArray, List.getElem?_cons_zero, List.getElem?_cons_succ] at u0 u1 u2 u3 u4 u5 u6
                have g0 := hres9.free 0
                have g1 := hres9.free 1
                have g2 := hres9.free 2
                have g3 := hres9.free 3
                have g4 := hres9.free 4
                have g5 := hres9.free 5
                have g6 := hres9.free 6
                have y0 := hcb9.cell 0
                have y1 := hcb9.cell 1
                have y2 := hcb9.cell 2
                have y3 := hcb9.cell 3
                have y4 := hcb9.cell 4
                have y5 := hcb9.cell 5
                have y6 := hcb9.cell 6
                simp only [List.getElem?_toArray, List.getElem?_cons_zero, List.getElem?_cons_succ] at y0 y1 y2 y3 y4 y5 y6
                have HB10 := Lib.hid hb10
                have HK10 := Lib.hid hk10
                clear hb10 hk10
                clear hres9 hcb9
                go_wp2_with fail
                have hb10 := HB10.out
                have hk10 := HK10.out
                clear y0 y1 y2 y3 y4 y5 y6 g0 g1 g2 g3 g4 g5 g6 u0 u1 u2 u3 u4 u5 u6 HB10 HK10
                generalize World.setCell _ ⟨w.heap.size, 6, none⟩ _ = W at *
                have y0 := hb10.cell 0
                have y1 := hb10.cell 1
                have y2 := hb10.cell 2
                have y3 := hb10.cell 3
                have y4 := hb10.cell 4
                have y5 := hb10.cell 5
                have y6 := hb10.cell 6
                simp only [List.getElem?_toArray, List.getElem?_cons_zero, List.getElem?_cons_succ] at y0 y1 y2 y3 y4 y5 y6
                refine bodyPost_ret (v := .agg #[.slice Al ls.length cl, .slice At t.length ct, .int .i64 (v2 : Int), .int .i64 (v3 : Int), .int .i64 (v4 : Int), .int .i64 (v5 : Int), .slice Ap acc.length cp]) (by simp [results, Try.results50, go_sem, y0, y1, y2, y3, y4, y5, y6]) rfl ?_
                have ho := HST.out.own
                have hsz := hk10.size
                refine ⟨⟨ls, t, v2, v3, v4, v5, acc⟩, (.error e), fun k => Fl k ∨ Ft k ∨ F k, #[.slice Al ls.length cl, .slice At t.length ct, .int .i64 (v2 : Int), .int .i64 (v3 : Int), .int .i64 (v4 : Int), .int .i64 (v5 : Int), .slice Ap acc.length cp], rfl, ?_, fun k e => by have := ho k e; exact ⟨this.1, by omega⟩, HST.out.at_.kept hk10 (by omega), HBODY.out, HST.out.keep.step hk10 fun i hi e => by omega⟩
                exact ⟨_, _, _, _, _, _, fun k => Fl k, fun k => Ft k, fun k => F k, rfl, HST.out.labs.kept hk10 (fun k e => (ho k (.inl e)).2.2.1), HST.out.tab.kept hk10 (fun k e => (ho k (.inr (.inl e))).2.2.1), HST.out.prs.kept hk10 (fun k e => (ho k (.inr (.inr e))).2.2.1), fun _ h => h, HST.out.dis, wf_small (by omega), wf_small (by omega), wf_small (by omega), wf_small (by omega)⟩
              | ok p =>
                subst hll
                have h1v := hpos.out p rfl
                have HREST := Lib.hid (fun (x : Int × List Ins) (s2 : St) (h : Run (procD bs ls.length v4) (.ok p) s2 x) s' l (h2 : Run (procsD bs ls.length v4 (np - (acc.length + 1)) (acc ++ [x])) s2 s' l) => hrest.out s' l (by
                  rw [show np - acc.length = (np - (acc.length + 1)) + 1 by omega]
                  exact Run.bind (D1 := procD bs ls.length v4) (D2 := fun x => procsD bs ls.length v4 (np - (acc.length + 1)) (acc ++ [x])) h h2 (fun p e h => by rw [procsD, h]) (fun p a p' h => by rw [procsD, h])))
                have hint := rint_num (f := partF ls.length) (m := 1) (least := 0) (most := (v : Int) - 1) (low := 2) (high := 2) (fun u => by rw [HLL2.out]; exact part_num _ u) hst.at_ (hst.bytes HB.out hB hrl) hB (by decide) (by decide) (by decide) (by decide) (by omega)
                have w1 : IntKind.i64.wrap ((v : Int) - 1) = (v : Int) - 1 := IntWalk.i64_in _ (by omega)
                have hrd := hst.at_.1
                have e2 := Blk.cell hrd 2
                simp only [List.getElem?_toArray, List.getElem?_cons_zero, List.getElem?_cons_succ] at e2
                have HST := Lib.hid hst
                have HINT := Lib.hid hint
                clear hst hint
                clear hrest hrd
                go_upto_region 28 with (go_at_call 70; refine HINT.out.mono ?_; rintro e w6 ⟨part, s6, rfl, hv6, hr6, hrun6, hk6⟩; have hst6 := HST.out.went hr6 hk6 hrl hcw hrw; have HST6 := Lib.hid hst6; have HRUN6 := Lib.hid hrun6; have HV6 := Lib.hid hv6; clear hr6 hk6 hst6 hrun6 hv6)
                clear e2 HINT HST w1
                have hpart : part < 256 := HV6.out
                have hint := rint_num (f := codeF) (m := 2) code_num HST6.out.at_ (HST6.out.bytes HB.out hB hrl) hB (by decide) (by decide) (by decide) (by decide) (by decide)
                have HINT := Lib.hid hint
                clear hint
                go_upto_region 29 with (go_at_call 70; refine HINT.out.mono ?_; rintro e w7 ⟨mk, s7, rfl, hv7, hr7, hrun7, hk7⟩; have hst7 := HST6.out.went hr7 hk7 hrl hcw hrw; have HST7 := Lib.hid hst7; have HRUN7 := Lib.hid hrun7; have HV7 := Lib.hid hv7; clear hr7 hk7 hst7 hrun7 hv7)
                clear HINT HST6 HV6
                have hmk : mk < 65536 := HV7.out
                clear HV7
                have hkd : New w7 w7.drew := (Kept.refl _ _).drew
                have hcode := rcode_any (w := w7.drew) (many := mk) (locks := v4) (HST7.out.at_.kept hkd id) (SliceOf.drewN (HST7.out.bytes HB.out hB hrl) 1) hB (by omega)
                have y6 := HST7.out.blk.cell 6
                have y4 := HST7.out.blk.cell 4
                have f6 := HST7.out.blk.free 6
                simp only [List.getElem?_toArray, List.getElem?_cons_zero, List.getElem?_cons_succ] at y6 y4
                have HCODE := Lib.hid hcode
                have HKD := Lib.hid hkd
                clear hcode hkd
                go_region_law (first
                  | (refine step_call (f := 72) (enters Try.func72 rfl rfl) #[.tmp 145, .tmp 146, .tmp 148] #[75, 3, 3] (by rfl) (by rfl) (by rfl) HCODE.out ?_
                     rintro e w8 ⟨l8, s8, rl, Ac, cc, rfl, hcs8, hrun8⟩
                     have hst8 := HST7.out.went hcs8.at_ ((HKD.out.mono fun _ _ h => h.elim).trans hcs8.keep) hrl hcw hrw
                     obtain ⟨r0, xs8, hrow8, hne8, hpush8⟩ := hst8.rowP hrl hcw hrw hre
                     have hb8 := hst8.blk
                     have ka : New w8 (w8.alloc (.cells #[.int .i64 (part : Int), .slice Ac l8.length cc] 37)) := (Kept.refl _ _).alloc _
                     have p6 := hb8.cell 6
                     have p7 := hb8.free 6
                     have z6 := (hb8.kept ka id).cell 6
                     have z7 := (hb8.kept ka id).free 6
                     simp only [List.getElem?_toArray, List.getElem?_cons_zero, List.getElem?_cons_succ] at p6 z6
                     have HB8 := Lib.hid hb8
                     have HRUN8 := Lib.hid hrun8
                     have HROW8 := Lib.hid hrow8
                     have HNE8 := Lib.hid hne8
                     have HPUSH8 := Lib.hid hpush8
                     have HCS8 := Lib.hid hcs8
                     clear hrun8 hcs8 hst8 hb8 hrow8 hne8 hpush8 ka
                     refine ⟨_, rfl, ?_⟩)
                  | (refine step_append_one (W := w8) (T := 37) (fr := (0, 0)) (cs := [.int .i64 (part : Int), .slice Ac l8.length cc]) tyProc (by rfl) (.tmp 143) (.tmp 151) (by rfl) (by rfl) HROW8.out (by rfl) (by rfl) (by rfl) (by rfl) (by simp [Value.oneCell']) (by unfold maxLen; omega) (by omega) ?_
                     intro r6 A6 c6 w6 hr6 hk6 hn6
                     have hb6 := HB8.out.kept hk6 (fun e => HNE8.out _ e rfl)
                     have q1 := hb6.cell 6
                     have q2 := hb6.free 6
                     simp only [List.getElem?_toArray, List.getElem?_cons_zero, List.getElem?_cons_succ] at q1
                     have HR6 := Lib.hid hr6
                     have HK6 := Lib.hid hk6
                     have HN6 := Lib.hid hn6
                     clear hr6 hk6 hn6 hb6)
                  | fail)
                all_goals
                  have hown : procO.own w8 (fun k => rl = some k) ((part : Int), l8) [.int .i64 (part : Int), .slice Ac l8.length cc] :=
                    ⟨Ac, cc, rfl, OSl.of_row (O := insO) (f := Code.cellsI) HCS8.out.row (fun _ _ => rfl) rfl (fun k hk => hk) (fun x hx => ⟨rfl, HCS8.out.wf x hx⟩), wf_small (by omega)⟩
                  have hrlb : ∀ k, rl = some k → ¬ Fl k ∧ ¬ Ft k ∧ ¬ F k ∧ w.heap.size ≤ k ∧ k ≠ cb ∧ k ≠ w.heap.size ∧ k < w8.heap.size := fun k e => by
                    have h1 := HST7.out.fresh (k := k) (HCS8.out.own k e)
                    exact ⟨h1.1, h1.2.1, h1.2.2.1, h1.2.2.2.1, h1.2.2.2.2.1, h1.2.2.2.2.2, HCS8.out.row.lt (by decide) k e⟩
                  obtain ⟨F6, hnew⟩ := HPUSH8.out _ _ rl _ _ ((part : Int), l8) _ hown hrlb HR6.out HK6.out HN6.out
                  have hrunp := Run.proc HRUN6.out HRUN7.out HRUN8.out
                  have HNEW := Lib.hid hnew
                  have HRUNP := Lib.hid hrunp
                  clear hnew hown hrlb hrunp
                  go_wp2_with fail
                  exact ⟨⟨acc.length + 1, s8, F6, A6, c6, acc ++ [((part : Int), l8)], by go_num, by omega, by rw [List.length_append]; rfl, HNEW.out, Lib.hid fun s' l h2 => HREST.out _ s8 HRUNP.out s' l h2, Lib.hid fun _ _ => h1v⟩, by simp [intOf]; omega⟩
            · have hprs := hrest.out sy acc (by rw [show np - k = 0 by omega]; exact Run.pure)
              have hkn : np ≤ k := by omega
              have HST := Lib.hid hst
              have HPRS := Lib.hid hprs
              clear hst hprs
              clear hrest hpos hll hlt
              go_upto_region 30 with (fail)
              have hbody : Run (bodyD bs) (rMark bs s markB) sy ⟨ls, t, v2, v3, v4, v5, acc⟩ := by rw [HS3.out]; exact Run.body2 HLAB.out HTAB.out HFOUR.out HPRS.out
              have HBODY := Lib.hid hbody
              clear hbody
              have hb10 := set7_blk (show Blk wr w.heap.size 26 #[.slice none 0 0, .slice none 0 0, .int .i64 0, .int .i64 0, .int .i64 0, .int .i64 0, .slice none 0 0] from HST.out.resB) (.slice Al ls.length cl) (.slice At t.length ct) (.int .i64 (v2 : Int)) (.int .i64 (v3 : Int)) (.int .i64 (v4 : Int)) (.int .i64 (v5 : Int)) (.slice Ap acc.length cp)
              have hk10 := set7_kept wr w.heap.size (.slice Al ls.length cl) (.slice At t.length ct) (.int .i64 (v2 : Int)) (.int .i64 (v3 : Int)) (.int .i64 (v4 : Int)) (.int .i64 (v5 : Int)) (.slice Ap acc.length cp)
              unfold set7 at hb10 hk10
              have hres9 := HST.out.resB
              have hcb9 := HST.out.blk
              unfold zeroC at hres9
              have u0 := hres9.cell 0
              have u1 := hres9.cell 1
              have u2 := hres9.cell 2
              have u3 := hres9.cell 3
              have u4 := hres9.cell 4
              have u5 := hres9.cell 5
              have u6 := hres9.cell 6
              simp only [List.getElem?_toArray, List.getElem?_cons_zero, List.getElem?_cons_succ] at u0 u1 u2 u3 u4 u5 u6
              have g0 := hres9.free 0
              have g1 := hres9.free 1
              have g2 := hres9.free 2
              have g3 := hres9.free 3
              have g4 := hres9.free 4
              have g5 := hres9.free 5
              have g6 := hres9.free 6
              have y0 := hcb9.cell 0
              have y1 := hcb9.cell 1
              have y2 := hcb9.cell 2
              have y3 := hcb9.cell 3
              have y4 := hcb9.cell 4
              have y5 := hcb9.cell 5
              have y6 := hcb9.cell 6
              simp only [List.getElem?_toArray, List.getElem?_cons_zero, List.getElem?_cons_succ] at y0 y1 y2 y3 y4 y5 y6
              have HB10 := Lib.hid hb10
              have HK10 := Lib.hid hk10
              clear hb10 hk10
              clear hres9 hcb9
              go_wp2_with fail
              have hb10 := HB10.out
              have hk10 := HK10.out
              clear y0 y1 y2 y3 y4 y5 y6 g0 g1 g2 g3 g4 g5 g6 u0 u1 u2 u3 u4 u5 u6 HB10 HK10
              generalize World.setCell _ ⟨w.heap.size, 6, none⟩ _ = W at *
              have y0 := hb10.cell 0
              have y1 := hb10.cell 1
              have y2 := hb10.cell 2
              have y3 := hb10.cell 3
              have y4 := hb10.cell 4
              have y5 := hb10.cell 5
              have y6 := hb10.cell 6
              simp only [List.getElem?_toArray, List.getElem?_cons_zero, List.getElem?_cons_succ] at y0 y1 y2 y3 y4 y5 y6
              refine bodyPost_ret (v := .agg #[.slice Al ls.length cl, .slice At t.length ct, .int .i64 (v2 : Int), .int .i64 (v3 : Int), .int .i64 (v4 : Int), .int .i64 (v5 : Int), .slice Ap acc.length cp]) (by simp [results, Try.results50, go_sem, y0, y1, y2, y3, y4, y5, y6]) rfl ?_
              have ho := HST.out.own
              have hsz := hk10.size
              refine ⟨⟨ls, t, v2, v3, v4, v5, acc⟩, sy, fun k => Fl k ∨ Ft k ∨ F k, #[.slice Al ls.length cl, .slice At t.length ct, .int .i64 (v2 : Int), .int .i64 (v3 : Int), .int .i64 (v4 : Int), .int .i64 (v5 : Int), .slice Ap acc.length cp], rfl, ?_, fun k e => by have := ho k e; exact ⟨this.1, by omega⟩, HST.out.at_.kept hk10 (by omega), HBODY.out, HST.out.keep.step hk10 fun i hi e => by omega⟩
              exact ⟨_, _, _, _, _, _, fun k => Fl k, fun k => Ft k, fun k => F k, rfl, HST.out.labs.kept hk10 (fun k e => (ho k (.inl e)).2.2.1), HST.out.tab.kept hk10 (fun k e => (ho k (.inr (.inl e))).2.2.1), HST.out.prs.kept hk10 (fun k e => (ho k (.inr (.inr e))).2.2.1), fun _ h => h, HST.out.dis, wf_small (by omega), wf_small (by omega), wf_small (by omega), wf_small (by omega)⟩
end
end Go.Proofs.Ytaefgljpdpigeaa.Conf
