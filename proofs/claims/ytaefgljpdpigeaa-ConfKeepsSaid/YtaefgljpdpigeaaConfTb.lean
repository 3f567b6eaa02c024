/- The walk of conf's reader (layer 14): table. -/
import Derived.Test.YtaefgljpdpigeaaConfLb
namespace Go.Proofs.Ytaefgljpdpigeaa.Conf
open Go.RowKit Go.Fb Go.CodeP Go.BytesP Go.ReaderP
set_option linter.unusedVariables false
/-- How the table stands while it is read. -/
structure TabSt (base : Nat) (w wr : World) (r cb : Nat) (A : Option Addr) (n c : Nat) (s : St) (rl : Option Nat) (At : Option Addr) (ct : Nat) (acc : List Int) (x0 x2 x3 x4 x5 x6 : Value) : Prop where
  at_ : RAt wr r A n c s
  blk : Blk wr cb 26 #[x0, .slice At acc.length ct, x2, x3, x4, x5, x6]
  row : Row wr 1 rl At acc.length ct (acc.map (Value.int .i64))
  wf : ∀ x ∈ acc, (Lit.int .i64 x).wf = true
  own : ∀ g, rl = some g → base ≤ g ∧ g ≠ r ∧ g ≠ cb
  keep : Kept (fun k => k = r ∨ k = cb) w wr
section
variable {base : Nat} {w wr w5 w6 : World} {r cb : Nat} {A : Option Addr} {n c : Nat} {s s5 : St} {rl r6 : Option Nat} {At A6 : Option Addr} {ct c6 : Nat} {acc : List Int} {x0 x2 x3 x4 x5 x6 : Value}
theorem TabSt.push {v : Nat} (h : TabSt base w wr r cb A n c s rl At ct acc x0 x2 x3 x4 x5 x6)
    (hcr : cb ≠ r) (hcl : cb < w.heap.size) (hrl : r < w.heap.size) (hw : w.heap.size ≤ base) (hbase : base ≤ wr.heap.size) (hr5 : RAt w5 r A n c s5) (hk5 : Kept (fun k => k = r) wr w5) (hv : v < 256) (hrow : Row w6 1 r6 A6 (acc.length + 1) c6 (acc.map (Value.int .i64) ++ [.int .i64 (v : Int)])) (hk6 : Kept (fun k => rl = some k) w5 w6)
    (hn6 : ∀ k, r6 = some k → rl = some k ∨ w5.heap.size ≤ k) : TabSt base w (w6.setCell ⟨cb, 1, none⟩ (.slice A6 (acc.length + 1) c6)) r cb A n c s5 r6 A6 c6 (acc ++ [(v : Int)]) x0 x2 x3 x4 x5 x6 := by
  have hl : (acc ++ [(v : Int)]).length = acc.length + 1 := by rw [List.length_append]; rfl
  have hs5 := hk5.size
  have hks : Kept (fun k => k = cb) w6 (w6.setCell ⟨cb, 1, none⟩ (.slice A6 (acc.length + 1) c6)) := Kept.set1 _ _ _ _
  have ho : ∀ g, r6 = some g → base ≤ g ∧ g ≠ r ∧ g ≠ cb := fun g hg => by
    rcases hn6 g hg with e | e
    · exact h.own g e
    · exact ⟨by omega, by omega, by omega⟩
  refine ⟨(hr5.kept hk6 (fun e => (h.own r e).2.1 rfl)).kept hks (fun e => hcr e.symm), ?_, ?_, ?_, ho, ?_⟩
  · rw [hl]
    exact ((h.blk.kept hk5 hcr).kept hk6 (fun e => (h.own cb e).2.2 rfl)).set _
  · rw [hl, List.map_append]
    exact hrow.of_kept (by decide) hks (fun g hg e => (ho g hg).2.2 e)
  · intro x hx
    rcases List.mem_append.1 hx with hx | hx
    · exact h.wf x hx
    · rw [List.mem_singleton.1 hx]
      simp [Lit.wf, IntKind.min, IntKind.max, IntKind.signed, IntKind.bits]
      omega
  · refine Kept.setCell (Kept.step (h.keep.trans (hk5.mono fun _ _ h => .inl h)) hk6 fun i hi e => ?_) (.inr (.inr rfl)) _
    have := (h.own i e).1
    omega
theorem tst_bytes (h : TabSt base w wr r cb A n c s rl At ct acc x0 x2 x3 x4 x5 x6) {B : Nat} {bs : List UInt8} (hb : SliceOf Rep.byte w B A n c bs) (hB : B ≤ r) (hBc : B ≤ cb) (hr : r < w.heap.size := by omega) : SliceOf Rep.byte wr B A n c bs :=
  hb.kept h.keep (by omega) fun k h1 h2 => by rcases h2 with e | e <;> omega
end
section
variable {w : World} {r : Nat} {A : Option Addr} {n c : Nat} {s : St} {B : Nat} {bs : List UInt8} {cb : Nat} {x2 x3 x4 x5 x6 : Value}
theorem tyInt : SliceTy Try.prog 23 3 1 8 := by
  obtain ⟨i, hi, hz, hs, hb⟩ := info_parts (P := Try.prog) (e := 3) (z := .int .i64 0) (size := 1) (bytes := 8) (by kernel_rfl)
  exact ⟨Try.underlying23, ⟨i, _, hi, hz, hs, hb, rfl⟩, by decide⟩
set_option maxRecDepth 100000 in
set_option maxHeartbeats 1000000 in
theorem table_read {Al : Option Addr} {nl cl : Nat} (hr : RAt w r A n c s) (hb : SliceOf Rep.byte w B A n c bs) (hB : B ≤ r) (hBc : B ≤ cb) (hcr : cb ≠ r) (hcb : Blk w cb 26 #[.slice Al nl cl, .slice none 0 0, x2, x3, x4, x5, x6]) :
    Calls Try.prog 32 #[.pointer (some ⟨r, 0, none⟩), .pointer (some ⟨cb, 0, none⟩)] w fun x w' => x = .returned (.tuple #[]) ∧ ∃ (s' : St) (rl : Option Nat) (At : Option Addr) (ct : Nat) (ls : List Int), TabSt w.heap.size w w' r cb A n c s' rl At ct ls (.slice Al nl cl) x2 x3 x4 x5 x6 ∧ Run (tabD bs nl) s s' ls := by
  have hrl := hr.lt
  have hcl := hcb.lt
  have hcnt := counted_any (most := 64) hr hb (by omega)
  have HCNT := Lib.hid hcnt
  have HR := Lib.hid hr
  have HB := Lib.hid hb
  have HCB := Lib.hid hcb
  clear hcnt hr hb hcb
  go_enter Try.func32, Try.ntmps32
  go_wp2_with (go_at_call 34; refine HCNT.out.mono ?_; rintro e w2 ⟨v, s2, rfl, hv, hr2, hrun, hk2⟩; have HR2 := Lib.hid hr2; have HRUN := Lib.hid hrun; have HK2 := Lib.hid hk2; clear hr2 hrun hk2)
  go_loopw [4] (fun i wr => ∃ (k : Nat) (s1 : St) (rl : Option Nat) (At : Option Addr) (ct : Nat) (acc : List Int), i = .int .i64 k ∧ acc.length + k ≤ 255 ∧ TabSt w.heap.size w wr r cb A n c s1 rl At ct acc (.slice Al nl cl) x2 x3 x4 x5 x6 ∧ Hid (∀ s' ls, Run (tableD bs nl k acc) s1 s' ls → Run (tabD bs nl) s s' ls)) (fun i _ => (intOf i).toNat)
  case atStart =>
    refine ⟨v, s2, none, none, 0, [], rfl, by simp only [List.length_nil]; omega, ⟨HR2.out, HCB.out.kept HK2.out hcr, Row.nil _ _, by simp, by simp, HK2.out.mono fun _ _ h => .inl h⟩, Lib.hid fun s' ls h => ?_⟩
    exact Run.bind (D1 := numD bs 1 (countF 64)) (D2 := fun n => tableD bs nl n []) HRUN.out h (fun p e h => by unfold tabD; rw [h]) (fun p a p' h => by unfold tabD; rw [h])
  case round =>
    obtain ⟨k, s1, rl, At, ct, acc, rfl, hlen, hst, hrest⟩ := hrel
    clear HK2 HRUN HR2 HCNT
    have hbad := bad_any hst.at_
    cases k with
    | zero =>
      have hfin := hrest.out s1 acc (by cases s1 with | ok p => exact ⟨rfl, rfl⟩ | error e => rfl)
      have HST := Lib.hid hst
      have HFIN := Lib.hid hfin
      clear hst hfin
      clear hbad
      go_wp2_with fail
      go_end0
      exact ⟨rfl, s1, rl, At, ct, acc, HST.out, HFIN.out⟩
    | succ k =>
      cases s1 with
      | error e =>
        have hfin := hrest.out (.error e) acc rfl
        have HST := Lib.hid hst
        have HFIN := Lib.hid hfin
        have HBAD := Lib.hid hbad
        clear hst hfin hbad
        go_wp2_with (go_at_call 30; refine HBAD.out.mono ?_; rintro e' w' ⟨rfl, rfl⟩)
        go_end0
        exact ⟨rfl, _, rl, At, ct, acc, HST.out, HFIN.out⟩
      | ok p =>
        have hkd : Kept (fun k => k = r) wr wr.drew := (Kept.refl _ _).drew
        have hsz := hst.keep.size
        have hpart := partition_any (w := wr.drew) (Al := Al) (nl := nl) (cl := cl) ((hst.blk.kept hkd hcr).cell 0) hcr (hst.at_.drewN 1) (SliceOf.drewN (tst_bytes hst HB.out hB hBc) 1) (show B ≤ wr.heap.size by omega)
        have HREST := Lib.hid (fun (a : Nat) (s2 : St) (h : Run (numD bs 1 (partF nl)) (.ok p) s2 a) s' ls h2 => hrest.out s' ls (Run.bind (D1 := numD bs 1 (partF nl)) (D2 := fun a => tableD bs nl k (acc ++ [(a : Int)])) h h2 (fun p e h => by rw [tableD, h]) (fun p a p' h => by rw [tableD, h])))
        have y0 := hst.blk.cell 0
        have y1 := hst.blk.cell 1
        have y2 := hst.blk.free 1
        simp only [List.getElem?_toArray, List.getElem?_cons_zero, List.getElem?_cons_succ] at y0 y1
        have HST := Lib.hid hst
        have HPART := Lib.hid hpart
        have HBAD := Lib.hid hbad
        have HKD := Lib.hid hkd
        clear hst hpart hbad hkd
        clear hrest
        go_upto_region 3 with (go_at_call 30; refine HBAD.out.mono ?_; rintro e' w' ⟨rfl, rfl⟩)
        have hne : ∀ g, rl = some g → g ≠ cb := fun g hg => (HST.out.own g hg).2.2
        have HNE := Lib.hid hne
        clear hne
        go_region_law (first
          | (refine step_call (f := 59) (enters Try.func59 rfl rfl) #[.tmp 21, .tmp 22] #[53, 58] (by rfl) (by rfl) (by rfl) HPART.out ?_
             rintro e w5 ⟨v5, s5, rfl, hv5, hr5, hrun5, hk5d⟩
             have hk5 := HKD.out.trans hk5d
             have hb5 := HST.out.blk.kept hk5 hcr
             have hrow5 := HST.out.row.of_kept (by decide) hk5 (fun g hg e => (HST.out.own g hg).2.1 e)
             have ka : New w5 (w5.alloc (.cells #[.int .i64 (v5 : Int)] 3)) := (Kept.refl _ _).alloc _
             have p1 := hb5.cell 1
             have p2 := hb5.free 1
             have z1 := (hb5.kept ka id).cell 1
             have z2 := (hb5.kept ka id).free 1
             simp only [List.getElem?_toArray, List.getElem?_cons_zero, List.getElem?_cons_succ] at p1 z1
             have HR5 := Lib.hid hr5
             have HRUN5 := Lib.hid hrun5
             have HK5 := Lib.hid hk5
             have HB5 := Lib.hid hb5
             have HROW5 := Lib.hid hrow5
             clear hr5 hrun5 hk5 hk5d hb5 hrow5 ka
             refine ⟨_, rfl, ?_⟩)
          | (refine step_append_one (W := w5) (T := 3) (fr := (0, 0)) (cs := [.int .i64 (v5 : Int)]) tyInt (by rfl) (.tmp 20) (.tmp 24) (by rfl) (by rfl) HROW5.out (by rfl) (by rfl) (by rfl) (by rfl) (by simp [Value.oneCell']) (by unfold maxLen; omega) (by omega) ?_
             intro r6 A6 c6 w6 hr6 hk6 hn6
             have hb6 := HB5.out.kept hk6 (fun e => HNE.out _ e rfl)
             have q1 := hb6.cell 1
             have q2 := hb6.free 1
             simp only [List.getElem?_toArray, List.getElem?_cons_zero, List.getElem?_cons_succ] at q1
             have HR6 := Lib.hid hr6
             have HK6 := Lib.hid hk6
             have HN6 := Lib.hid hn6
             clear hr6 hk6 hn6 hb6)
          | fail)
        all_goals
          have hpush := HST.out.push hcr hcl hrl (Nat.le_refl _) hsz HR5.out HK5.out (by omega) HR6.out HK6.out HN6.out
          have HPUSH := Lib.hid hpush
          clear hpush
          go_wp2_with fail
          exact ⟨⟨k, s5, r6, A6, c6, acc ++ [(v5 : Int)], by go_num, by simp only [List.length_append, List.length_singleton]; omega, HPUSH.out, Lib.hid fun s' ls h2 => HREST.out v5 s5 HRUN5.out s' ls h2⟩, by simp [intOf]⟩
end
end Go.Proofs.Ytaefgljpdpigeaa.Conf
