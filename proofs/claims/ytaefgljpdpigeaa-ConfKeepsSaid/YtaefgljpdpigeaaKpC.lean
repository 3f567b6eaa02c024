/- The walk of the laws' wide (layer 14): a config in memory of its own, with room behind its lists. Printed by wip/tools/mkWe14.py. -/
import Derived.Test.YtaefgljpdpigeaaKpA
import Derived.Deep.DeepCutAuto
namespace Go.Proofs.Ytaefgljpdpigeaa.Conf
open Go.RowKit Go.Fb Go.CodeP Go.BytesP Go.ReaderP
set_option linter.unusedVariables false
section
variable {w : World} {B : Nat} {c : Cf} {Al At Ap : Option Addr} {cl ct cp : Nat}
/-- What wide leaves. -/
def Wided (w w' : World) (e : Ending) (c : Cf) : Prop :=
  ∃ (Dl : Option Addr) (dl : Nat) (Dt : Option Addr) (dt : Nat) (Dp : Option Addr) (dp : Nat) (F : Nat → Prop), e = .returned (.agg (confC c Dl dl Dt dt Dp dp).toArray) ∧ WideC w' F c Dl dl Dt dt Dp dp ∧ (∀ k, F k → w.heap.size ≤ k ∧ k < w'.heap.size) ∧ New w w'
theorem lab_marks {l : List Int} (h : ∀ x ∈ l, (Lit.int .u64 x).wf = true) : ∀ x ∈ l ++ [161, 162], (Lit.int .u64 x).wf = true := by
  intro x hx
  rcases List.mem_append.1 hx with hx | hx
  · exact h x hx
  · simp only [List.mem_cons, List.not_mem_nil, or_false] at hx
    rcases hx with rfl | rfl <;> decide
theorem tab_marks {l : List Int} (h : ∀ x ∈ l, (Lit.int .i64 x).wf = true) : ∀ x ∈ l ++ [161, 162], (Lit.int .i64 x).wf = true := by
  intro x hx
  rcases List.mem_append.1 hx with hx | hx
  · exact h x hx
  · simp only [List.mem_cons, List.not_mem_nil, or_false] at hx
    rcases hx with rfl | rfl <;> decide
theorem ins_marks {l : List Ins} (h : ∀ x ∈ l, Code.Wf x) : ∀ x ∈ l ++ [m77, m78], Code.Wf x := by
  intro x hx
  rcases List.mem_append.1 hx with hx | hx
  · exact h x hx
  · simp only [List.mem_cons, List.not_mem_nil, or_false] at hx
    rcases hx with rfl | rfl <;> (refine ⟨?_, ?_, ?_, ?_, ?_⟩ <;> decide)
set_option maxRecDepth 100000 in
set_option maxHeartbeats 8000000 in
theorem wide_any (h : ReadC B w c Al cl At ct Ap cp) (hB : B ≤ w.heap.size) (hl : c.labels.length ≤ 1048576) (ht : c.table.length ≤ 1048576) (hp : c.procs.length ≤ 1048576) (hpc : ∀ p ∈ c.procs, p.2.length ≤ 1048576) (hwf : (Lit.int .i64 c.fuel).wf = true) :
    Calls Try.prog 12 #[.agg (confC c Al cl At ct Ap cp).toArray] w fun e w' => Wided w w' e c := by
  unfold Wided
  obtain ⟨ls, tb, x2, x3, x4, x5, ps⟩ := c
  obtain ⟨hlabs, htab, hprs⟩ := h
  unfold confC
  simp only at hl ht hp hpc hlabs htab hprs ⊢
  have k1 : New w (w.alloc (.cells #[.slice Al ls.length cl, .slice At tb.length ct, .int .i64 x2, .int .i64 x3, .int .i64 x4, .int .i64 x5, .slice Ap ps.length cp] 26)) := (Kept.refl _ _).alloc _
  have b1 := (Blk.made w 26 #[.slice Al ls.length cl, .slice At tb.length ct, .int .i64 x2, .int .i64 x3, .int .i64 x4, .int .i64 x5, .slice Ap ps.length cp]).alloc (.cells zeroC 26)
  have k2 := k1.alloc (.cells zeroC 26)
  have b2 := Blk.made (w.alloc (.cells #[.slice Al ls.length cl, .slice At tb.length ct, .int .i64 x2, .int .i64 x3, .int .i64 x4, .int .i64 x5, .slice Ap ps.length cp] 26)) 26 zeroC
  rw [← size1] at b2
  unfold zeroC at b1 k2 b2
  have hlb := hlabs.bound
  have htb := htab.bound
  have hpb := hprs.bound
  have HLABS := Lib.hid hlabs
  have HTAB := Lib.hid htab
  have HPRS := Lib.hid hprs
  have K2 := Lib.hid k2
  have B1 := Lib.hid b1
  have B2 := Lib.hid b2
  have HPC := Lib.hid hpc
  clear hlabs htab hprs k2 b1 b2 hpc
  clear k1
  go_enter Try.func12, Try.ntmps12
  go_upto_region 1 with fail
  have hn1 := K2.out
  have hb1 := B1.out
  have hr1 := B2.out
  clear K2 B1 B2
  generalize World.alloc (World.alloc w _) _ = w1 at *
  have hrb : w.heap.size < w.heap.size + 1 := Nat.lt_succ_self _
  generalize w.heap.size + 1 = rb at *
  have hs1 := hn1.size
  have hbl1 := hb1.lt
  have hrl1 := hr1.lt
  have hlabs1 := HLABS.out.kept hn1 hB (fun _ _ h => h)
  have HN1 := Lib.hid hn1
  have HB1 := Lib.hid hb1
  have HR1 := Lib.hid hr1
  clear hn1 hb1 hr1
  obtain ⟨z, cs, -, -, hcs, hmk⟩ := run_make_ty (P := Try.prog) tyU64 (li := 0) (ci := (ls.length : Int) + 2) 0 (ls.length + 2) rfl (by omega) (by omega) (by omega) (by omega)
  obtain ⟨r0, hrow0, hr0⟩ := Row.of_make (T := 49) (size := 1) w1 cs (ls.length + 2) hcs (by unfold maxLen; omega)
  have ka : New w1 (w1.alloc (.cells cs.toArray 49)) := (Kept.refl _ _).alloc _
  have hsrc := u64_src (SliceOf.drewN (hlabs1.kept ka (by omega) (fun _ _ h => h)) 1)
  have y0 := HB1.out.cell 0
  have z0 := (HB1.out.kept ka id).cell 0
  simp only [List.getElem?_toArray, List.getElem?_cons_zero, List.getElem?_cons_succ] at y0 z0
  have wn : IntKind.i64.wrap ((ls.length : Int) + 2) = (ls.length : Int) + 2 := IntWalk.i64_in _ (by omega)
  have HCS := Lib.hid hcs
  have HROW0 := Lib.hid hrow0
  have HR0 := Lib.hid hr0
  have HSRC := Lib.hid hsrc
  have KA := Lib.hid ka
  clear hcs hrow0 hr0 hsrc ka
  go_cut [3] (fun z wx => ∃ (r2 : Option Nat) (A2 : Option Addr) (c2 : Nat), z = .slice A2 ls.length c2 ∧ Row wx 1 r2 A2 ls.length c2 (ls.flatMap fun x => [.int .u64 x]) ∧ New w1 wx ∧ ∀ k, r2 = some k → w1.heap.size ≤ k)
  case first =>
    go_region_law (first
      | (refine step_append_row tyU64 (by rfl) (.tmp 14) (.tmp 16) (by rfl) (by rfl) (Row.drewN HROW0.out 1) (by rfl) HSRC.out (by unfold maxLen; omega) (by omega) ?_
         intro ra Aa ca wa hra hka hna
         rw [Nat.zero_add, List.nil_append] at hra
         rw [Nat.zero_add]
         have HRA := Lib.hid hra
         have HKA := Lib.hid hka
         have HNA := Lib.hid hna
         clear hra hka hna)
      | fail)
    all_goals
      go_wp2_with fail
      go_meet
      case rel =>
        have e0 : ∀ k, r0 = some k → w1.heap.size ≤ k := fun k hk => by rw [HR0.out k hk]; exact Nat.le_refl _
        have e1 := wide_row (w := w1) (w1 := _) (w2 := _) (w3 := _) (r0 := r0) (r2 := ra) (r3 := ra) (KA.out.drewN 1) e0 HKA.out HNA.out (Kept.refl _ _) (fun k hk => .inl hk)
        exact ⟨ra, Aa, ca, rfl, HRA.out, e1.1, e1.2⟩
  case rest =>
    obtain ⟨rm, Am, cm, rfl, hrm, hkm, hgm⟩ := hcut
    clear y0 z0 HCS HROW0 HR0 HSRC KA hmk wn
    generalize wc = wm at *
    have hlem := hrm.bound
    have hbm := HB1.out.kept hkm id
    have hrzm := HR1.out.kept hkm id
    have hsm := hkm.size
    have HRM := Lib.hid hrm
    have HKM := Lib.hid hkm
    have HGM := Lib.hid hgm
    have HBM := Lib.hid hbm
    have HRZM := Lib.hid hrzm
    clear hrm hkm hgm hbm hrzm
    go_upto_region 3 with (at_builtin; refine wpList_append_many (cs := [.int .u64 161, .int .u64 162]) tyU64 rfl (.tmp 18) (.tmp 19) rfl rfl HRM.out rfl rfl rfl (by simp [Value.oneCell']) (by unfold maxLen; omega) (by omega) ?_; intro r1 D1 d1 wq hr3 hk3 hn3; have hle3 := hr3.bound; have e1 := wide_row HKM.out HGM.out (r2 := rm) (Kept.refl _ _) (fun k hk => .inl hk) hk3 hn3; have hb3 := HB1.out.kept e1.1 id; have q0 := hb3.cell 0; have q1 := hb3.free 0; simp only [List.getElem?_toArray, List.getElem?_cons_zero, List.getElem?_cons_succ] at q0; have HR3 := Lib.hid hr3; have HE1 := Lib.hid e1; clear hr3 hk3 hn3 hb3 e1)
    have hn3 := HN1.out.trans HE1.out.1
    have hbx := (HB1.out.kept HE1.out.1 id).set (i := 0) (.slice D1 ls.length d1)
    have hbr := (HR1.out.kept HE1.out.1 id)
    have hks : Kept (fun k => k = w.heap.size) wq (wq.setCell ⟨w.heap.size, 0, none⟩ (.slice D1 ls.length d1)) := Kept.set1 _ _ _ _
    have hrow3 := HR3.out.of_kept (by decide) hks (fun g hg e => by have := HE1.out.2 g hg; omega)
    have hbr3 := hbr.kept hks (by omega)
    have hn4 := hn3.step hks (fun i hi e => by omega)
    have hlt3 := HR3.out.lt (by decide)
    have hg3 := HE1.out.2
    have hsx := HE1.out.1.size
    have hsz := hks.size
    have hsq : (wq.setCell ⟨w.heap.size, 0, none⟩ (.slice D1 ls.length d1)).heap.size = wq.heap.size := (size_set _ _ _).symm

    rw [← hsq] at hlt3
    simp only [List.setIfInBounds_toArray, List.set_cons_zero, List.set_cons_succ] at hbx
    clear HRM HKM HGM HBM HRZM HR3 HE1 HN1 HB1 HR1 q0 q1 hbr hks hn3 hsq
    generalize World.setCell wq ⟨w.heap.size, 0, none⟩ _ = w2 at *
    have HOS1 := Lib.hid (show OSl u64O w2 (fun k => r1 = some k) D1 (ls.length + 2) d1 (ls ++ [161, 162]) from OSl.of_row (O := u64O) (f := fun x => [.int .u64 x]) (by rw [List.flatMap_append]; exact hrow3) (fun _ _ => rfl) (by rw [List.length_append]; rfl) (fun k hk => hk) (fun x hx => ⟨rfl, (lab_marks HLABS.out.wf) x hx⟩))
    have HBD1 := Lib.hid (show ∀ k, r1 = some k → w1.heap.size ≤ k ∧ k < w2.heap.size from fun k e => ⟨hg3 k e, hlt3 k e⟩)

    have HN2 := Lib.hid hn4
    have HB2 := Lib.hid hbx
    have HR2 := Lib.hid hbr3
    have hz1 : w1.heap.size ≤ w2.heap.size := by omega
    clear hrow3 hlt3 hg3 hn4 hbx hbr3 hsx hsz
    have htab2 := HTAB.out.kept HN2.out hB (fun _ _ h => h)
    clear hlabs1
    obtain ⟨z, cs, -, -, hcs, hmk⟩ := run_make_ty (P := Try.prog) tyInt (li := 0) (ci := (tb.length : Int) + 2) 0 (tb.length + 2) rfl (by omega) (by omega) (by omega) (by omega)
    obtain ⟨r0, hrow0, hr0⟩ := Row.of_make (T := 3) (size := 1) w2 cs (tb.length + 2) hcs (by unfold maxLen; omega)
    have ka : New w2 (w2.alloc (.cells cs.toArray 3)) := (Kept.refl _ _).alloc _
    have hsrc := i64_src (SliceOf.drewN (htab2.kept ka (by omega) (fun _ _ h => h)) 1)
    have y0 := HB2.out.cell 1
    have z0 := (HB2.out.kept ka id).cell 1
    simp only [List.getElem?_toArray, List.getElem?_cons_zero, List.getElem?_cons_succ] at y0 z0
    have wn : IntKind.i64.wrap ((tb.length : Int) + 2) = (tb.length : Int) + 2 := IntWalk.i64_in _ (by omega)
    have HCS := Lib.hid hcs
    have HROW0 := Lib.hid hrow0
    have HR0 := Lib.hid hr0
    have HSRC := Lib.hid hsrc
    have KA := Lib.hid ka
    clear hcs hrow0 hr0 hsrc ka
    go_cut [4] (fun z wx => ∃ (r2 : Option Nat) (A2 : Option Addr) (c2 : Nat), z = .slice A2 tb.length c2 ∧ Row wx 1 r2 A2 tb.length c2 (tb.flatMap fun x => [.int .i64 x]) ∧ New w2 wx ∧ ∀ k, r2 = some k → w2.heap.size ≤ k)
    case first =>
      go_region_law (first
        | (refine step_append_row tyInt (by rfl) (.tmp 29) (.tmp 31) (by rfl) (by rfl) (Row.drewN HROW0.out 1) (by rfl) HSRC.out (by unfold maxLen; omega) (by omega) ?_
           intro ra Aa ca wa hra hka hna
           rw [Nat.zero_add, List.nil_append] at hra
           rw [Nat.zero_add]
           have HRA := Lib.hid hra
           have HKA := Lib.hid hka
           have HNA := Lib.hid hna
           clear hra hka hna)
        | fail)
      all_goals
        go_wp2_with fail
        go_meet
        case rel =>
          have e0 : ∀ k, r0 = some k → w2.heap.size ≤ k := fun k hk => by rw [HR0.out k hk]; exact Nat.le_refl _
          have e1 := wide_row (w := w2) (w1 := _) (w2 := _) (w3 := _) (r0 := r0) (r2 := ra) (r3 := ra) (KA.out.drewN 1) e0 HKA.out HNA.out (Kept.refl _ _) (fun k hk => .inl hk)
          exact ⟨ra, Aa, ca, rfl, HRA.out, e1.1, e1.2⟩
    case rest =>
      obtain ⟨rm, Am, cm, rfl, hrm, hkm, hgm⟩ := hcut
      clear y0 z0 HCS HROW0 HR0 HSRC KA hmk wn
      generalize wc = wm at *
      have hlem := hrm.bound
      have hbm := HB2.out.kept hkm id
      have hrzm := HR2.out.kept hkm id
      have hsm := hkm.size
      have HRM := Lib.hid hrm
      have HKM := Lib.hid hkm
      have HGM := Lib.hid hgm
      have HBM := Lib.hid hbm
      have HRZM := Lib.hid hrzm
      clear hrm hkm hgm hbm hrzm
      go_upto_region 5 with (at_builtin; refine wpList_append_many (cs := [.int .i64 161, .int .i64 162]) tyInt rfl (.tmp 33) (.tmp 34) rfl rfl HRM.out rfl rfl rfl (by simp [Value.oneCell']) (by unfold maxLen; omega) (by omega) ?_; intro r2 D2 d2 wq hr3 hk3 hn3; have hle3 := hr3.bound; have e1 := wide_row HKM.out HGM.out (r2 := rm) (Kept.refl _ _) (fun k hk => .inl hk) hk3 hn3; have hb3 := HB2.out.kept e1.1 id; have q0 := hb3.cell 1; have q1 := hb3.free 1; simp only [List.getElem?_toArray, List.getElem?_cons_zero, List.getElem?_cons_succ] at q0; have HR3 := Lib.hid hr3; have HE1 := Lib.hid e1; clear hr3 hk3 hn3 hb3 e1)
      have hn3 := HN2.out.trans HE1.out.1
      have hbx := (HB2.out.kept HE1.out.1 id).set (i := 1) (.slice D2 tb.length d2)
      have hbr := (HR2.out.kept HE1.out.1 id)
      have hks : Kept (fun k => k = w.heap.size) wq (wq.setCell ⟨w.heap.size, 1, none⟩ (.slice D2 tb.length d2)) := Kept.set1 _ _ _ _
      have hrow3 := HR3.out.of_kept (by decide) hks (fun g hg e => by have := HE1.out.2 g hg; omega)
      have hbr3 := hbr.kept hks (by omega)
      have hn4 := hn3.step hks (fun i hi e => by omega)
      have hlt3 := HR3.out.lt (by decide)
      have hg3 := HE1.out.2
      have hsx := HE1.out.1.size
      have hsz := hks.size
      have hsq : (wq.setCell ⟨w.heap.size, 1, none⟩ (.slice D2 tb.length d2)).heap.size = wq.heap.size := (size_set _ _ _).symm
      have hca1 := (HOS1.out.new HE1.out.1).kept hks (fun k e => by have := HBD1.out k e; omega)
      rw [← hsq] at hlt3
      simp only [List.setIfInBounds_toArray, List.set_cons_zero, List.set_cons_succ] at hbx
      clear HRM HKM HGM HBM HRZM HR3 HE1 HN2 HB2 HR2 q0 q1 hbr hks hn3 hsq
      generalize World.setCell wq ⟨w.heap.size, 1, none⟩ _ = w3 at *
      have HOS2 := Lib.hid (show OSl i64O w3 (fun k => r2 = some k) D2 (tb.length + 2) d2 (tb ++ [161, 162]) from OSl.of_row (O := i64O) (f := fun x => [.int .i64 x]) (by rw [List.flatMap_append]; exact hrow3) (fun _ _ => rfl) (by rw [List.length_append]; rfl) (fun k hk => hk) (fun x hx => ⟨rfl, (tab_marks HTAB.out.wf) x hx⟩))
      have HBD2 := Lib.hid (show ∀ k, r2 = some k → w2.heap.size ≤ k ∧ k < w3.heap.size from fun k e => ⟨hg3 k e, hlt3 k e⟩)
      clear HOS1
      have HOS1 := Lib.hid hca1
      clear hca1
      have HN3 := Lib.hid hn4
      have HB3 := Lib.hid hbx
      have HR3 := Lib.hid hbr3
      have hz2 : w2.heap.size ≤ w3.heap.size := by omega
      clear hrow3 hlt3 hg3 hn4 hbx hbr3 hsx hsz
      obtain ⟨z, cs, -, -, hcs, hmk⟩ := run_make_ty (P := Try.prog) tyProc (li := 0) (ci := (ps.length : Int) + 2) 0 (ps.length + 2) rfl (by omega) (by omega) (by omega) (by omega)
      obtain ⟨r0, hrow0, hr0⟩ := Row.of_make (T := 37) (size := 2) w3 cs (ps.length + 2) hcs (by unfold maxLen; omega)
      have ka : New w3 (w3.alloc (.cells cs.toArray 37)) := (Kept.refl _ _).alloc _
      have y6 := HB3.out.cell 6
      have z6 := (HB3.out.kept ka id).cell 6
      simp only [List.getElem?_toArray, List.getElem?_cons_zero, List.getElem?_cons_succ] at y6 z6
      have wn : IntKind.i64.wrap ((ps.length : Int) + 2) = (ps.length : Int) + 2 := IntWalk.i64_in _ (by omega)
      have HCS := Lib.hid hcs
      have HROW0 := Lib.hid hrow0
      have HR0 := Lib.hid hr0
      have KA := Lib.hid ka
      clear hcs hrow0 hr0 ka
      go_wp2_with fail
      go_loopw [5, 48] (fun v i wr => ∃ (k : Nat) (F : Nat → Prop) (A5 : Option Addr) (c5 : Nat), i = .int .i64 k ∧ v = .slice A5 k c5 ∧ k ≤ ps.length ∧ OSl wprocO.or wr F A5 k c5 ((ps.take k).map .inl) ∧ (∀ g, F g → w3.heap.size ≤ g ∧ g < wr.heap.size) ∧ New w3 wr) (fun _ i _ => (ps.length - intOf i).toNat)
      case atStart =>
        refine ⟨0, fun g => r0 = some g, _, _, rfl, rfl, Nat.zero_le _, ?_, fun g e => ⟨by rw [HR0.out g e]; exact Nat.le_refl _, HROW0.out.lt (by decide) g e⟩, KA.out⟩
        rw [List.take_zero]
        exact OSl.of_row (O := wprocO.or) (f := fun _ => []) (l := []) HROW0.out (by simp) rfl (fun g hg => hg) (by simp)
      case round =>
        obtain ⟨k, F, A5, c5, rfl, rfl, hk, hos, hF, hnr⟩ := hrel
        clear HCS HROW0 HR0 KA hmk y6 z6 wn
        have h3r := hnr.size
        by_cases hlt : k < ps.length
        · have hpr := HPRS.out.kept (HN3.out.trans hnr) hB (fun _ _ h => h)
          obtain ⟨b, o, rfl, -, hc⟩ := proc_at hpr (by omega)
          obtain ⟨Ac, cc, ⟨e1, e2⟩, hcode, hwp⟩ := hc k hlt
          have hq : ps[k].2.length ≤ 1048576 := HPC.out _ (List.getElem_mem hlt)
          have htk : ps.take (k + 1) = ps.take k ++ [ps[k]] := (List.take_succ_eq_append_getElem hlt)
          generalize ps[k] = q at *
          obtain ⟨part, code⟩ := q
          simp only at e1 e2 hcode hwp hq
          have hcb := hcode.bound
          have ka : New wr (wr.alloc (.cells #[.int .i64 part, .slice Ac code.length cc] 37)) := (Kept.refl _ _).alloc _
          have hpb := Blk.made wr 37 #[.int .i64 part, .slice Ac code.length cc]
          have HOS := Lib.hid hos
          have HF := Lib.hid hF
          have HCODE := Lib.hid hcode
          have HWP := Lib.hid hwp
          have HTK := Lib.hid htk
          have KA := Lib.hid ka
          have HPB := Lib.hid hpb
          have HNR := Lib.hid hnr
          clear hos hF hcode hwp htk ka hpb hnr
          clear hpr hc
          go_upto_region 9 with fail
          clear e1 e2
          have hn7 := KA.out
          have hb7 := HPB.out
          clear KA HPB
          generalize World.alloc wr _ = w7 at *
          have hpl := hb7.lt
          have h7 := hn7.size
          have HCODE7 := Lib.hid (HCODE.out.kept hn7 (by have := HN3.out.size; omega) (fun _ _ h => h))
          generalize hpbe : wr.heap.size = pb at *
          clear hpbe
          have HN7 := Lib.hid hn7
          have HB7 := Lib.hid hb7
          clear hn7 hb7
          have h03 := HN3.out.size
          have hBp : B ≤ pb := by omega
          obtain ⟨z, cs, -, -, hcs, hmk⟩ := run_make_ty (P := Try.prog) Code.tyIns (li := 0) (ci := (code.length : Int) + 2) 0 (code.length + 2) rfl (by omega) (by omega) (by omega) (by omega)
          obtain ⟨r0, hrow0, hr0⟩ := Row.of_make (T := 62) (size := 5) w7 cs (code.length + 2) hcs (by unfold maxLen; omega)
          have ka : New w7 (w7.alloc (.cells cs.toArray 62)) := (Kept.refl _ _).alloc _
          have hcode7 := HCODE7.out
          have hsrc := ins_src (SliceOf.drewN (hcode7.kept ka (by omega) (fun _ _ h => h)) 1)
          have y1 := HB7.out.cell 1
          have z1 := (HB7.out.kept ka id).cell 1
          simp only [List.getElem?_toArray, List.getElem?_cons_zero, List.getElem?_cons_succ] at y1 z1
          have wn : IntKind.i64.wrap ((code.length : Int) + 2) = (code.length : Int) + 2 := IntWalk.i64_in _ (by omega)
          have HCS := Lib.hid hcs
          have HROW0 := Lib.hid hrow0
          have HR0 := Lib.hid hr0
          have HSRC := Lib.hid hsrc
          have KA := Lib.hid ka
          clear hcs hrow0 hr0 hsrc ka
          clear hcode7
          go_cut [8] (fun z wx => ∃ (rm : Option Nat) (Am : Option Addr) (cm : Nat), z = .slice Am code.length cm ∧ Row wx 5 rm Am code.length cm (code.flatMap Code.cellsI) ∧ New w7 wx ∧ ∀ k, rm = some k → w7.heap.size ≤ k)
          case first =>
            go_region_law (first
              | (refine step_append_row Code.tyIns (by rfl) (.tmp 56) (.tmp 58) (by rfl) (by rfl) (Row.drewN HROW0.out 1) (by rfl) HSRC.out (by unfold maxLen; omega) (by omega) ?_
                 intro ra Aa ca wa hra hka hna
                 rw [Nat.zero_add, List.nil_append] at hra
                 rw [Nat.zero_add]
                 have HRA := Lib.hid hra
                 have HKA := Lib.hid hka
                 have HNA := Lib.hid hna
                 clear hra hka hna)
              | fail)
            all_goals
              go_wp2_with fail
              go_meet
              case rel =>
                have e0 : ∀ k, r0 = some k → w7.heap.size ≤ k := fun k hk => by rw [HR0.out k hk]; exact Nat.le_refl _
                have e1 := wide_row (w := w7) (w1 := _) (w2 := _) (w3 := _) (r0 := r0) (r2 := ra) (r3 := ra) (KA.out.drewN 1) e0 HKA.out HNA.out (Kept.refl _ _) (fun k hk => .inl hk)
                exact ⟨ra, Aa, ca, rfl, HRA.out, e1.1, e1.2⟩
          case rest =>
            obtain ⟨rm, Am, cm, rfl, hrm, hkm, hgm⟩ := hcut
            clear y1 z1 HCS HROW0 HR0 HSRC KA hmk wn
            generalize wc = w8 at *
            have hlem := hrm.bound
            have hb8 := HB7.out.kept hkm id
            have h8 := hkm.size
            have ka : New w8 (w8.alloc (.cells (Code.cellsI m77 ++ Code.cellsI m78).toArray 62)) := (Kept.refl _ _).alloc _
            have y0 := hb8.cell 0
            have z0 := (hb8.kept ka id).cell 0
            simp only [List.getElem?_toArray, List.getElem?_cons_zero, List.getElem?_cons_succ] at y0 z0
            unfold Code.cellsI m77 m78 at z0
            simp only [List.cons_append, List.nil_append] at z0
            have HRM := Lib.hid hrm
            have HKM := Lib.hid hkm
            have HGM := Lib.hid hgm
            have HB8 := Lib.hid hb8
            clear hrm hkm hgm hb8
            clear ka
            go_upto_region 10 with fail
            go_region_law (first
              | (refine step_append_many (W := w8.drew) (T := 62) (fr := (0, 0)) (cs := Code.cellsI m77 ++ Code.cellsI m78) Code.tyIns (by rfl) (.tmp 63) (.tmp 66) (by rfl) (by rfl) (Row.drewN HRM.out 1) (by rfl) (by rfl) (by rfl) (by rfl) (by simp [Code.cellsI, Value.oneCell']) (by unfold maxLen; omega) (by omega) ?_
                 intro r9 A9 c9 w9 hr9 hk9 hn9
                 have hle9 := hr9.bound
                 have hle9b : code.length ≤ c9 := by omega
                 have e1 := wide_row (r0 := rm) (r2 := rm) HKM.out HGM.out (Kept.refl _ _).drew (fun k hk => .inl hk) hk9 hn9
                 obtain ⟨rp, xs, hrowp, hrp, hclose⟩ := (HOS.out.new (HN7.out.trans e1.1)).rows
                 have p0 := (HB7.out.kept e1.1 id).cell 0
                 simp only [List.getElem?_toArray, List.getElem?_cons_zero] at p0
                 have HR9 := Lib.hid hr9
                 have HE1 := Lib.hid e1
                 have HROWP := Lib.hid hrowp
                 have HRP := Lib.hid hrp
                 have HCL := Lib.hid (fun w' r' A' c' cs Fx F' => @hclose w' r' A' c' (.inl (part, code)) cs Fx F')
                 clear hr9 hk9 hn9 e1 hrowp hrp hclose)
              | (refine step_append_one (W := w9) (T := 37) (fr := (0, 0)) (cs := [.int .i64 part, .slice A9 code.length c9]) tyProc (by rfl) (.tmp 60) (.tmp 72) (by rfl) (by rfl) HROWP.out (by rfl) (by rfl) (by rfl) (by rfl) (by simp [Value.oneCell']) (by unfold maxLen; omega) (by omega) ?_
                 intro r10 A10 c10 w10 hr10 hk10 hn10
                 have HR10 := Lib.hid hr10
                 have HK10 := Lib.hid hk10
                 have HN10 := Lib.hid hn10
                 clear hr10 hk10 hn10)
              | fail)
            all_goals
              go_wp2_with fail
              have hown : wprocO.own w9 (fun g => r9 = some g) (part, code) [.int .i64 part, .slice A9 code.length c9] :=
                ⟨A9, c9, rfl, OSl.of_row (O := insO) (f := Code.cellsI) (by rw [List.flatMap_append]; exact HR9.out) (fun _ _ => rfl) (by rw [List.length_append]; rfl) (fun g hg => hg) (fun x hx => ⟨rfl, ins_marks (Code.ins_wf HCODE.out) x hx⟩), HWP.out⟩
              have h9 := HE1.out.1.size
              have hk10s := HK10.out.size
              have hF9 : ∀ g, F g → w3.heap.size ≤ g ∧ g < pb := HF.out
              have hr9b : ∀ g, r9 = some g → w7.heap.size ≤ g ∧ g < w9.heap.size := fun g e => ⟨HE1.out.2 g e, HR9.out.lt (by decide) g e⟩
              have hnew := HCL.out w10 r10 A10 c10 _ (fun g => r9 = some g) (fun g => F g ∨ r9 = some g ∨ r10 = some g) HR10.out HK10.out HN10.out (fun g e => by have := hF9 g e; omega) hown (fun g e => ⟨fun e' => by have := hF9 g e'; have := hr9b g e; omega, (hr9b g e).2⟩) (fun g e => .inl e) (fun g e => .inr (.inl e)) (fun g e => .inr (.inr e))
              refine ⟨⟨k + 1, _, A10, c10, by go_num, rfl, by omega, by rw [HTK.out, List.map_append]; exact hnew, fun g e => ?_, ((HNR.out.trans HN7.out).trans HE1.out.1).step HK10.out fun g hg e => by have := hF9 g (HRP.out g e); omega⟩, by simp [intOf]; omega⟩
              rcases e with e | e | e
              · have := hF9 g e; omega
              · have := hr9b g e; omega
              · have hlt10 := HR10.out.lt (by decide) g e
                rcases HN10.out g e with e' | e'
                · have := hF9 g (HRP.out g e'); omega
                · omega
        · obtain rfl : k = ps.length := by omega
          rw [List.take_length] at hos
          obtain ⟨rp, xs, hrowp, hrp, hmore⟩ := hos.more
          have hbw := HB3.out.kept hnr id
          have hrw := HR3.out.kept hnr id
          have hcbF : ∀ g, rp = some g → w3.heap.size ≤ g ∧ g < wr.heap.size := fun g e => hF g (hrp g e)
          have hb3l := HB3.out.lt
          have hr3l := HR3.out.lt
          have HF := Lib.hid hF
          have ho1 := HOS1.out.new hnr
          have ho2 := HOS2.out.new hnr
          have HBD3 := Lib.hid (show w1.heap.size ≤ w2.heap.size ∧ w2.heap.size ≤ w3.heap.size from ⟨hz1, hz2⟩)
          have HROWP := Lib.hid hrowp
          have HRP := Lib.hid hrp
          have HMORE := Lib.hid hmore
          have HBW := Lib.hid hbw
          have HRW := Lib.hid hrw
          have HNR := Lib.hid hnr
          have HCBF := Lib.hid hcbF
          have HO1 := Lib.hid ho1
          have HO2 := Lib.hid ho2
          clear hrowp hrp hmore hbw hrw hnr hcbF ho1 ho2
          clear hos hlt hF HOS1 HOS2 HB3 HR3
          go_upto_region 14 with (at_builtin; (refine wpList_append_many (cs := [.int .i64 77, .slice none 0 0, .int .i64 78, .slice none 0 0]) tyProc rfl (.tmp 77) (.tmp 80) rfl rfl HROWP.out rfl rfl rfl (by simp [Value.oneCell']) (by unfold maxLen; omega) (by omega) ?_; intro r4 A4 c4 w4 hr4 hk4 hn4; have hle4 := hr4.bound; have hle4b : ps.length ≤ c4 := by omega); have hb4 := HBW.out.kept hk4 (fun e => by have := HCBF.out _ e; omega); (have q0 := hb4.cell 6; have q1 := hb4.free 6; simp only [List.getElem?_toArray, List.getElem?_cons_zero, List.getElem?_cons_succ] at q0; have HR4 := Lib.hid hr4; have HK4 := Lib.hid hk4; have HN4 := Lib.hid hn4; have HB4 := Lib.hid hb4; clear hr4 hk4 hn4 hb4))
          have hks : Kept (fun k => k = w.heap.size) w4 (w4.setCell ⟨w.heap.size, 6, none⟩ (.slice A4 ps.length c4)) := Kept.set1 _ _ _ _
          have hbx := HB4.out.set (i := 6) (.slice A4 ps.length c4)
          simp only [List.setIfInBounds_toArray, List.set_cons_zero, List.set_cons_succ] at hbx
          have s4 := HK4.out.size
          have hrz := (HRW.out.kept HK4.out (fun e => by have := HCBF.out _ e; omega)).kept hks (by omega)
          have hprs := (HMORE.out w4 r4 A4 c4 roomP [.int .i64 77, .slice none 0 0, .int .i64 78, .slice none 0 0] (fun g => F g ∨ r4 = some g) HR4.out HK4.out HN4.out (fun g e => (HF.out g e).2) (fun j hj => by
            have hj2 : j < 2 := hj
            rcases (by omega : j = 0 ∨ j = 1) with rfl | rfl <;> exact ⟨rfl, rfl⟩) (fun g e => .inl e) (fun g e => .inr e))
          have hFb : ∀ g, F g ∨ r4 = some g → w3.heap.size ≤ g ∧ g < w4.heap.size := fun g e => by
            rcases e with e | e
            · have := HF.out g e; omega
            · have hlt4 := HR4.out.lt (by decide) g e
              rcases HN4.out g e with e' | e'
              · have := HCBF.out g e'; omega
              · omega
          have hp5 := hprs.kept hks (fun g e e' => by have := hFb g e; omega)
          have h3w := HN3.out.size
          have o1 := (HO1.out.kept HK4.out (fun g e e' => by have := HBD1.out g e; have := HCBF.out g e'; have := HBD3.out; omega)).kept hks (fun g e e' => by have := HBD1.out g e; omega)
          have o2 := (HO2.out.kept HK4.out (fun g e e' => by have := HBD2.out g e; have := HCBF.out g e'; omega)).kept hks (fun g e e' => by have := HBD2.out g e; have := HBD3.out; omega)
          have n5 := ((HN3.out.trans HNR.out).step HK4.out (fun g hg e => by have := HCBF.out g e; omega)).step hks (fun g hg e => by omega)
          have hsq : (w4.setCell ⟨w.heap.size, 6, none⟩ (.slice A4 ps.length c4)).heap.size = w4.heap.size := (size_set _ _ _).symm
          rw [← hsq] at hFb
          clear HMORE HBW HRW HR4 HK4 HN4 HB4 hprs q0 q1 hks
          generalize World.setCell w4 ⟨w.heap.size, 6, none⟩ _ = w5 at *
          have y0 := hbx.cell 0
          have y1 := hbx.cell 1
          have y2 := hbx.cell 2
          have y3 := hbx.cell 3
          have y4 := hbx.cell 4
          have y5 := hbx.cell 5
          have y6 := hbx.cell 6
          simp only [List.getElem?_toArray, List.getElem?_cons_zero, List.getElem?_cons_succ] at y0 y1 y2 y3 y4 y5 y6
          have u0 := hrz.cell 0
          have u1 := hrz.cell 1
          have u2 := hrz.cell 2
          have u3 := hrz.cell 3
          have u4 := hrz.cell 4
          have u5 := hrz.cell 5
          have u6 := hrz.cell 6
          simp only [List.getElem?_toArray, List.getElem?_cons_zero, List.getElem?_cons_succ] at u0 u1 u2 u3 u4 u5 u6
          have g0 := hrz.free 0
          have g1 := hrz.free 1
          have g2 := hrz.free 2
          have g3 := hrz.free 3
          have g4 := hrz.free 4
          have g5 := hrz.free 5
          have g6 := hrz.free 6
          have hb10 := set7_blk hrz (.slice D1 ls.length d1) (.slice D2 tb.length d2) (.int .i64 x2) (.int .i64 x3) (.int .i64 x4) (.int .i64 x5) (.slice A4 ps.length c4)
          have hk10 := set7_kept w5 rb (.slice D1 ls.length d1) (.slice D2 tb.length d2) (.int .i64 x2) (.int .i64 x3) (.int .i64 x4) (.int .i64 x5) (.slice A4 ps.length c4)
          unfold set7 at hb10 hk10
          have HB10 := Lib.hid hb10
          have HK10 := Lib.hid hk10
          have HP5 := Lib.hid hp5
          have O1 := Lib.hid o1
          have O2 := Lib.hid o2
          have N5 := Lib.hid n5
          have HFB := Lib.hid hFb
          clear hb10 hk10 hp5 o1 o2 n5 hFb
          clear hbx hrz
          go_wp2_with fail
          have hb10 := HB10.out
          have hk10 := HK10.out
          clear y0 y1 y2 y3 y4 y5 y6 g0 g1 g2 g3 g4 g5 g6 u0 u1 u2 u3 u4 u5 u6 HB10 HK10
          generalize World.setCell _ ⟨rb, 6, none⟩ _ = W at *
          have y0 := hb10.cell 0
          have y1 := hb10.cell 1
          have y2 := hb10.cell 2
          have y3 := hb10.cell 3
          have y4 := hb10.cell 4
          have y5 := hb10.cell 5
          have y6 := hb10.cell 6
          simp only [List.getElem?_toArray, List.getElem?_cons_zero, List.getElem?_cons_succ] at y0 y1 y2 y3 y4 y5 y6
          refine bodyPost_ret (v := .agg #[.slice D1 ls.length d1, .slice D2 tb.length d2, .int .i64 x2, .int .i64 x3, .int .i64 x4, .int .i64 x5, .slice A4 ps.length c4]) (by simp [results, Try.results12, go_sem, y0, y1, y2, y3, y4, y5, y6]) rfl ?_
          have hbd := HBD3.out
          have hsW := hk10.size
          have d1' := HBD1.out
          have d2' := HBD2.out
          have f5 := HFB.out
          refine ⟨D1, d1, D2, d2, A4, c4, fun g => r1 = some g ∨ r2 = some g ∨ (F g ∨ r4 = some g), rfl, ⟨fun g => r1 = some g, fun g => r2 = some g, fun g => F g ∨ r4 = some g, O1.out.kept hk10 (fun g e e' => by have := d1' g e; omega), O2.out.kept hk10 (fun g e e' => by have := d2' g e; omega), HP5.out.kept hk10 (fun g e e' => by have := f5 g e; omega), fun g e => e, fun g => ⟨fun e => ⟨fun e' => by have := d1' g e; have := d2' g e'; omega, fun e' => by have := d1' g e; have := f5 g e'; omega⟩, fun e e' => by have := d2' g e; have := f5 g e'; omega⟩⟩, fun g e => ?_, N5.out.step hk10 fun i hi e => by omega⟩
          rcases e with e | e | e
          · have := d1' g e; omega
          · have := d2' g e; omega
          · have := f5 g e; omega
end
end Go.Proofs.Ytaefgljpdpigeaa.Conf
