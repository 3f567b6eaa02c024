/- The walk of conf's reader (layer 14): labels. -/
import Derived.Test.YtaefgljpdpigeaaConfL
namespace Go.Proofs.Ytaefgljpdpigeaa.Conf
open Go.RowKit Go.Fb Go.CodeP Go.BytesP Go.ReaderP
set_option linter.unusedVariables false
theorem labels1 {W : World} {b v cb nl cl B : Nat} {Al : Option Addr} {acc : List Int} (hv : v < 256 ^ 8) (hc : W.cell? ⟨b, 0, none⟩ = some (.pointer (some ⟨cb, 0, none⟩))) (hl : W.cell? ⟨cb, 0, none⟩ = some (.slice Al nl cl)) (hs : SliceOf (Rep.int .u64) W B Al nl cl acc) :
    Calls Try.prog 58 #[.int .u64 v, .pointer (some ⟨b, 0, none⟩)] W fun e w' => e = .returned (.int .i64 (labF acc v)) ∧ W = w' := by
  have hn := hs.len
  have hbd := hs.bound
  by_cases h0 : nl = 0
  · subst h0
    have E := Lib.hid (show labF acc v = 0 by unfold labF; rw [if_pos hn.symm])
    clear hs hn
    go_enter Try.func58, Try.ntmps58
    go_wp2_with fail
    go_ret
    exact ⟨by rw [E.out]; rfl, rfl⟩
  · obtain ⟨m, rfl⟩ : ∃ m, nl = m + 1 := ⟨nl - 1, by omega⟩
    obtain ⟨g, o, rfl, -, hcs⟩ := hs.ints (by omega)
    have x0 := hcs m (by omega)
    have E : labF acc v = if (v : Int) = acc[m] then 8 else if (v : Int) < acc[m] then 7 else 0 := by
      unfold labF
      rw [if_neg (by omega), show acc.length - 1 = m by omega, List.getD_eq_getElem?_getD, List.getElem?_eq_getElem (by omega)]
      rfl
    have w1 : IntKind.i64.wrap (((m + 1 : Nat) : Int) - 1) = (m : Int) := by rw [IntWalk.i64_in _ (by omega)]; omega
    have hm0 : 0 ≤ m := Nat.zero_le _
    generalize acc[m] = u at *
    clear hcs hs hn h0
    by_cases h1 : (v : Int) = u
    · subst h1
      rw [if_pos rfl] at E
      have E_ := Lib.hid E
      clear E
      go_enter Try.func58, Try.ntmps58
      go_wp2_with fail
      go_ret
      exact ⟨by rw [E_.out]; rfl, rfl⟩
    · rw [if_neg h1] at E
      have g1 : ((v : Int) == u) = false := by simpa using h1
      by_cases h2 : (v : Int) < u
      · rw [if_pos h2] at E
        have E_ := Lib.hid E
        clear E
        clear h1
        go_enter Try.func58, Try.ntmps58
        go_wp2_with fail
        go_ret
        exact ⟨by rw [E_.out]; rfl, rfl⟩
      · rw [if_neg h2] at E
        have g2 : u ≤ (v : Int) := by omega
        have E_ := Lib.hid E
        clear E
        clear h1 h2
        go_enter Try.func58, Try.ntmps58
        go_wp2_with fail
        go_ret
        exact ⟨by rw [E_.out]; rfl, rfl⟩
section
variable {w : World} {r : Nat} {A : Option Addr} {n c : Nat} {s : St} {B : Nat} {bs : List UInt8}
/-- One label more, read. -/
theorem label_num {cb nl cl : Nat} {Al : Option Addr} {acc : List Int} {xs : Array Value} (hr : RAt w r A n c s) (hb : SliceOf Rep.byte w B A n c bs) (hcr : cb ≠ r) (hx : ∀ W, Kept (fun k => k = r) w W → W.cell? ⟨cb, 0, none⟩ = some (.slice Al nl cl) ∧ SliceOf (Rep.int .u64) W W.heap.size Al nl cl acc) {pb : Nat} (hpr : pb ≠ r)
    (hp : ∀ W, Kept (fun k => k = r) w W → W.cell? ⟨pb, 0, none⟩ = some (.pointer (some ⟨cb, 0, none⟩))) :
    Calls Try.prog 56 #[.pointer (some ⟨r, 0, none⟩), .int .i64 8, .func (.func 58) #[] #[.pointer (some ⟨pb, 0, none⟩)]] w fun x w' => Num w w' r A n c .u64 x bs 8 (labF acc) s :=
  number_any (m := 8) hr hb (by decide) (by decide) ⟨fun args W => enters Try.func58 rfl rfl args W, fun W v hW hv => labels1 hv (hp W hW) (hx W hW).1 (hx W hW).2⟩
theorem map_flat {k : IntKind} (l : List Int) : l.map (Value.int k) = l.flatMap (fun x => [Value.int k x]) := by
  induction l with
  | nil => rfl
  | cons x l ih => rw [List.map_cons, List.flatMap_cons, ih]; rfl
/-- How the labels stand while they are read. -/
structure LabSt (base : Nat) (w wr : World) (r cb : Nat) (A : Option Addr) (n c : Nat) (s : St) (rl : Option Nat) (Al : Option Addr) (cl : Nat) (acc : List Int) (x1 x2 x3 x4 x5 x6 : Value) : Prop where
  at_ : RAt wr r A n c s
  blk : Blk wr cb 26 #[.slice Al acc.length cl, x1, x2, x3, x4, x5, x6]
  row : Row wr 1 rl Al acc.length cl (acc.map (Value.int .u64))
  wf : ∀ x ∈ acc, (Lit.int .u64 x).wf = true
  own : ∀ g, rl = some g → base ≤ g ∧ g ≠ r ∧ g ≠ cb
  keep : Kept (fun k => k = r ∨ k = cb) w wr
theorem LabSt.read {base : Nat} {w wr : World} {r cb : Nat} {A : Option Addr} {n c : Nat} {s : St} {rl : Option Nat} {Al : Option Addr} {cl : Nat} {acc : List Int} {x1 x2 x3 x4 x5 x6 : Value} (h : LabSt base w wr r cb A n c s rl Al cl acc x1 x2 x3 x4 x5 x6) {W : World} (hcr : cb ≠ r) (hW : Kept (fun k => k = r) wr W) :
    W.cell? ⟨cb, 0, none⟩ = some (.slice Al acc.length cl) ∧ SliceOf (Rep.int .u64) W W.heap.size Al acc.length cl acc := by
  refine ⟨(h.blk.kept hW hcr).cell 0, ?_⟩
  have hrow := h.row.of_kept (by decide) hW (fun g hg e => (h.own g hg).2.1 e)
  rw [map_flat] at hrow
  exact hrow.slice (R := Rep.int .u64) (by decide) rfl fun x hx => ⟨rfl, h.wf x hx⟩
section
variable {w : World} {r : Nat} {A : Option Addr} {n c : Nat} {s : St} {B : Nat} {bs : List UInt8} {cb : Nat} {x1 x2 x3 x4 x5 x6 : Value}
theorem hst_bytes {base : Nat} {w wr : World} {r cb : Nat} {A : Option Addr} {n c : Nat} {s : St} {rl : Option Nat} {Al : Option Addr} {cl : Nat} {acc : List Int} {x1 x2 x3 x4 x5 x6 : Value} (h : LabSt base w wr r cb A n c s rl Al cl acc x1 x2 x3 x4 x5 x6) {B : Nat} {bs : List UInt8} (hb : SliceOf Rep.byte w B A n c bs) (hB : B ≤ r) (hBc : B ≤ cb) (hr : r < w.heap.size := by omega) : SliceOf Rep.byte wr B A n c bs :=
  hb.kept h.keep (by omega) fun k h1 h2 => by rcases h2 with e | e <;> omega
theorem LabSt.push {base : Nat} {w wr w5 w6 : World} {r cb : Nat} {A : Option Addr} {n c : Nat} {s s5 : St} {rl r6 : Option Nat} {Al A6 : Option Addr} {cl c6 : Nat} {acc : List Int} {x1 x2 x3 x4 x5 x6 : Value} {v : Nat} (h : LabSt base w wr r cb A n c s rl Al cl acc x1 x2 x3 x4 x5 x6)
    (hcr : cb ≠ r) (hcl : cb < w.heap.size) (hrl : r < w.heap.size) (hw : w.heap.size ≤ base) (hbase : base ≤ wr.heap.size) (hr5 : RAt w5 r A n c s5) (hk5 : Kept (fun k => k = r) wr w5) (hv : v < 256 ^ 8) (hrow : Row w6 1 r6 A6 (acc.length + 1) c6 (acc.map (Value.int .u64) ++ [.int .u64 (v : Int)])) (hk6 : Kept (fun k => rl = some k) w5 w6)
    (hn6 : ∀ k, r6 = some k → rl = some k ∨ w5.heap.size ≤ k) : LabSt base w (w6.setCell ⟨cb, 0, none⟩ (.slice A6 (acc.length + 1) c6)) r cb A n c s5 r6 A6 c6 (acc ++ [(v : Int)]) x1 x2 x3 x4 x5 x6 := by
  have hl : (acc ++ [(v : Int)]).length = acc.length + 1 := by rw [List.length_append]; rfl
  have hs5 := hk5.size
  have hks : Kept (fun k => k = cb) w6 (w6.setCell ⟨cb, 0, none⟩ (.slice A6 (acc.length + 1) c6)) := Kept.set1 _ _ _ _
  have ho : ∀ g, r6 = some g → base ≤ g ∧ g ≠ r ∧ g ≠ cb := fun g hg => by
    rcases hn6 g hg with e | e
    · exact h.own g e
    · exact ⟨by omega, by omega, by omega⟩
  refine ⟨(hr5.kept hk6 (fun e => (h.own r e).2.1 rfl)).kept hks (fun e => hcr e.symm), ?_, ?_, ?_, ho, ?_⟩
  · rw [hl]
    exact ((h.blk.kept hk5 hcr).kept hk6 (fun e => (h.own cb e).2.2 rfl)).set _
  · rw [hl, List.map_append]
    exact hrow.of_kept (by decide) hks (fun g hg e => (ho g hg).2.2 e)
  · intro x hx
    rcases List.mem_append.1 hx with hx | hx
    · exact h.wf x hx
    · rw [List.mem_singleton.1 hx]
      simp [Lit.wf, IntKind.min, IntKind.max, IntKind.signed, IntKind.bits]
      omega
  · refine Kept.setCell (Kept.step (h.keep.trans (hk5.mono fun _ _ h => .inl h)) hk6 fun i hi e => ?_) (.inr (.inr rfl)) _
    have := (h.own i e).1
    omega
theorem tyU64 : SliceTy Try.prog 22 49 1 8 := by
  obtain ⟨i, hi, hz, hs, hb⟩ := info_parts (P := Try.prog) (e := 49) (z := .int .u64 0) (size := 1) (bytes := 8) (by kernel_rfl)
  exact ⟨Try.underlying22, ⟨i, _, hi, hz, hs, hb, rfl⟩, by decide⟩
set_option maxRecDepth 100000 in
set_option maxHeartbeats 1000000 in
theorem labels_any (hr : RAt w r A n c s) (hb : SliceOf Rep.byte w B A n c bs) (hB : B ≤ r) (hBc : B ≤ cb) (hcr : cb ≠ r) (hcb : Blk w cb 26 #[.slice none 0 0, x1, x2, x3, x4, x5, x6]) :
    Calls Try.prog 31 #[.pointer (some ⟨r, 0, none⟩), .pointer (some ⟨cb, 0, none⟩)] w fun x w' => x = .returned (.tuple #[]) ∧ ∃ (s' : St) (rl : Option Nat) (Al : Option Addr) (cl : Nat) (ls : List Int), LabSt (w.heap.size + 1) w w' r cb A n c s' rl Al cl ls x1 x2 x3 x4 x5 x6 ∧ Run (labD bs) s s' ls := by
  have hrl := hr.lt
  have hcl := hcb.lt
  have hk1 : New w (w.alloc (.cells #[.pointer (some ⟨cb, 0, none⟩)] 58)) := (Kept.refl _ _).alloc _
  have hbk := Blk.made w 58 #[.pointer (some ⟨cb, 0, none⟩)]
  have hcnt := counted_any (most := 8) (hr.kept hk1 id) (hb.kept hk1 (by omega) fun _ _ h => h) (by have := hk1.size; omega)
  have hcb1 := hcb.kept hk1 id
  have HCNT := Lib.hid hcnt
  have HK1 := Lib.hid hk1
  have HBK := Lib.hid hbk
  have HCB1 := Lib.hid hcb1
  have HR := Lib.hid hr
  have HB := Lib.hid hb
  clear hcnt hk1 hbk hcb1 hr hb
  go_enter Try.func31, Try.ntmps31
  go_wp2_with (go_at_call 34; refine HCNT.out.mono ?_; rintro e w2 ⟨v, s2, rfl, hv, hr2, hrun, hk2⟩; have HR2 := Lib.hid hr2; have HRUN := Lib.hid hrun; have HK2 := Lib.hid hk2; clear hr2 hrun hk2)
  go_loopw [4] (fun i wr => ∃ (k : Nat) (s1 : St) (rl : Option Nat) (Al : Option Addr) (cl : Nat) (acc : List Int), i = .int .i64 k ∧ acc.length + k ≤ 255 ∧ LabSt (w.heap.size + 1) w wr r cb A n c s1 rl Al cl acc x1 x2 x3 x4 x5 x6 ∧ Blk wr w.heap.size 58 #[.pointer (some ⟨cb, 0, none⟩)] ∧ Hid (∀ s' ls, Run (labelsD bs k acc) s1 s' ls → Run (labD bs) s s' ls)) (fun i _ => (intOf i).toNat)
  case atStart =>
    have hk02 : Kept (fun k => k = r) w w2 := (HK1.out.mono fun _ _ h => h.elim).trans HK2.out
    refine ⟨v, s2, none, none, 0, [], rfl, by simp only [List.length_nil]; omega, ⟨HR2.out, HCB1.out.kept HK2.out hcr, Row.nil _ _, by simp, by simp, hk02.mono fun _ _ h => .inl h⟩, HBK.out.kept HK2.out (by omega), Lib.hid fun s' ls h => ?_⟩
    exact Run.bind (D1 := numD bs 1 (countF 8)) (D2 := fun n => labelsD bs n []) HRUN.out h (fun p e h => by unfold labD; rw [h]) (fun p a p' h => by unfold labD; rw [h])
  case round =>
    obtain ⟨k, s1, rl, Al, cl, acc, rfl, hlen, hst, hbx, hrest⟩ := hrel
    clear HK2 HRUN HR2 HCNT
    have hbad := bad_any hst.at_
    cases k with
    | zero =>
      have hfin := hrest.out s1 acc (by cases s1 with | ok p => exact ⟨rfl, rfl⟩ | error e => rfl)
      have HST := Lib.hid hst
      have HFIN := Lib.hid hfin
      clear hst hfin
      clear hbad
      go_wp2_with fail
      go_end0
      exact ⟨rfl, s1, rl, Al, cl, acc, HST.out, HFIN.out⟩
    | succ k =>
      cases s1 with
      | error e =>
        have hfin := hrest.out (.error e) acc rfl
        have HST := Lib.hid hst
        have HFIN := Lib.hid hfin
        have HBAD := Lib.hid hbad
        clear hst hfin hbad
        go_wp2_with (go_at_call 30; refine HBAD.out.mono ?_; rintro e' w' ⟨rfl, rfl⟩)
        go_end0
        exact ⟨rfl, _, rl, Al, cl, acc, HST.out, HFIN.out⟩
      | ok p =>
        have hrun1 := label_num (xs := #[]) hst.at_ (hst_bytes hst HB.out hB hBc) hcr (fun W hW => hst.read hcr hW) (pb := w.heap.size) (by omega) (fun W hW => (hbx.kept hW (by omega)).cell 0)
        have HREST := Lib.hid (fun (a : Nat) (s2 : St) (h : Run (numD bs 8 (labF acc)) (.ok p) s2 a) s' ls h2 => hrest.out s' ls (Run.bind (D1 := numD bs 8 (labF acc)) (D2 := fun a => labelsD bs k (acc ++ [(a : Int)])) h h2 (fun p e h => by rw [labelsD, h]) (fun p a p' h => by rw [labelsD, h])))
        have y0 := hbx.cell 0
        simp only [List.getElem?_toArray, List.getElem?_cons_zero] at y0
        have HST := Lib.hid hst
        have HRUN1 := Lib.hid hrun1
        have HBAD := Lib.hid hbad
        have HBX := Lib.hid hbx
        clear hst hrun1 hbad hbx
        clear hrest
        go_upto_region 5 with (first | (go_at_call 30; refine HBAD.out.mono ?_; rintro e' w' ⟨rfl, rfl⟩) | (go_at_call 56; refine HRUN1.out.mono ?_; rintro e w5 ⟨v5, s5, rfl, hv5, hr5, hrun5, hk5⟩; have HR5 := Lib.hid hr5; have HRUN5 := Lib.hid hrun5; have HK5 := Lib.hid hk5; clear hr5 hrun5 hk5))
        clear y0
        have hb5 := HST.out.blk.kept HK5.out hcr
        have hbx5 := HBX.out.kept HK5.out (by omega)
        have hrow5 := HST.out.row.of_kept (by decide) HK5.out (fun g hg e => (HST.out.own g hg).2.1 e)
        have ka : New w5 (w5.alloc (.cells #[.int .u64 (v5 : Int)] 49)) := (Kept.refl _ _).alloc _
        have y0 := hbx5.cell 0
        have y1 := hb5.cell 0
        have y2 := hb5.free 0
        have z0 := (hbx5.kept ka id).cell 0
        have z1 := (hb5.kept ka id).cell 0
        have z2 := (hb5.kept ka id).free 0
        simp only [List.getElem?_toArray, List.getElem?_cons_zero] at y0 y1 z0 z1
        have hne : ∀ g, rl = some g → g ≠ cb ∧ g ≠ w.heap.size := fun g hg => ⟨(HST.out.own g hg).2.2, by have := (HST.out.own g hg).1; omega⟩
        have HB5 := Lib.hid hb5
        have HBX5 := Lib.hid hbx5
        have HROW5 := Lib.hid hrow5
        have KA := Lib.hid ka
        have HNE := Lib.hid hne
        clear hb5 hbx5 hrow5 ka hne
        go_region_law (refine step_append_one (W := w5.drew) (T := 49) (fr := (0, 0)) (cs := [.int .u64 (v5 : Int)]) tyU64 rfl (.tmp 24) (.tmp 26) rfl rfl (Row.drewN HROW5.out 1) rfl rfl rfl rfl (by simp [Value.oneCell']) (by unfold maxLen; omega) (by omega) ?_; intro r6 A6 c6 w6 hr6 hk6 hn6; have hk56 := (Kept.refl _ w5).drew.trans hk6; have hb6 := HB5.out.kept hk56 (fun e => (HNE.out _ e).1 rfl); have hx6 := HBX5.out.kept hk56 (fun e => (HNE.out _ e).2 rfl); have q0 := hx6.cell 0; have q1 := hb6.cell 0; have q2 := hb6.free 0; simp only [List.getElem?_toArray, List.getElem?_cons_zero] at q0 q1; have HR6 := Lib.hid hr6; have HK6 := Lib.hid hk56; have HN6 := Lib.hid hn6; have HB6 := Lib.hid hb6; have HX6 := Lib.hid hx6; clear hr6 hk6 hn6 hk56 hb6 hx6)
        all_goals
          have hpush := HST.out.push hcr hcl hrl (Nat.le_succ _) HBX.out.lt HR5.out HK5.out hv5 HR6.out HK6.out HN6.out
          have hbox := HX6.out.other (p := ⟨cb, 0, none⟩) (by simp only; omega) (.slice A6 (acc.length + 1) c6)
          have HPUSH := Lib.hid hpush
          have HBOX := Lib.hid hbox
          clear hpush hbox
          go_wp2_with fail
          exact ⟨⟨k, s5, r6, A6, c6, acc ++ [(v5 : Int)], by go_num, by simp only [List.length_append, List.length_singleton]; omega, HPUSH.out, HBOX.out, Lib.hid fun s' ls h2 => HREST.out v5 s5 HRUN5.out s' ls h2⟩, by simp [intOf]⟩
end
