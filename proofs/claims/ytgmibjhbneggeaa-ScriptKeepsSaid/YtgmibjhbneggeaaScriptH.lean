/- The walk of chapter 16's law ScriptKeeps. -/
import Derived.Test.YtgmibjhbneggeaaScriptG
import Derived.Deep.RegionHeld3
namespace Go.Proofs.Ytgmibjhbneggeaa.Script
open Go.RowKit Go.Fb Go.BytesP Go.ScriptP Go.ReaderP
set_option linter.unusedVariables false

def m77 : Step := ⟨77, 0, 0⟩
def m78 : Step := ⟨78, 0, 0⟩
def marksB : List UInt8 := [161, 162]
set_option maxRecDepth 100000 in
set_option maxHeartbeats 4000000 in
theorem keeps_walk (A A2 : Option Addr) (n c n2 c2 : Nat) (l : List Step) (b : List UInt8) (w : World) (hl : SliceOf repStep w w.heap.size A n c l) (hb : SliceOf Rep.byte w w.heap.size A2 n2 c2 b) :
    Calls Try.prog 7 #[.slice A n c, .slice A2 n2 c2] w fun e w' => e = .returned (.bool true) ∧ New w w' := by
  have hs := short_of hl
  have hs2 := short_of hb
  have hbd := hl.bound
  have hbd2 := hb.bound
  clear hl hb
  have hwfl := steps_wf hs
  have hm1 : min n 1048576 ≤ 1048576 := Nat.min_le_right _ _
  have hm2 : min n2 1048576 ≤ 1048576 := Nat.min_le_right _ _
  obtain ⟨m1, hq1⟩ : ∃ m1, min n 1048576 = m1 := ⟨_, rfl⟩
  obtain ⟨m2, hq2⟩ : ∃ m2, min n2 1048576 = m2 := ⟨_, rfl⟩
  rw [hq1] at hs hwfl hm1
  rw [hq2] at hs2 hm2
  obtain ⟨z, cs, -, -, hcs, hmk⟩ := run_make_ty (P := Try.prog) tySteps (li := 0) (ci := (m1 : Int) + 2) 0 (m1 + 2) rfl (by omega) (by omega) (by omega) (by omega)
  obtain ⟨z', ds, -, -, hds, hmk2⟩ := run_make_ty (P := Try.prog) tyBytes (li := 0) (ci := (m2 : Int) + 2) 0 (m2 + 2) rfl (by omega) (by omega) (by omega) (by omega)
  generalize l.take m1 = L at *
  generalize b.take m2 = B at *
  have hsh1 := fun W => short_steps A n c W hbd.1 hbd.2
  have hsh2 := fun W => short_byte A2 n2 c2 W hbd2.1 hbd2.2
  rw [hq1] at hsh1
  rw [hq2] at hsh2
  have hr0 := fun W => Row.of_make (T := 38) (size := 3) W cs (m1 + 2) hcs (by unfold maxLen; omega)
  have hd0 := fun W => Row.of_make (T := 5) (size := 1) W ds (m2 + 2) hds (by unfold maxLen; omega)
  have hsrc := fun (W : World) h => steps_src ((news hs h).alloc (Nat.le_refl W.heap.size) (.cells cs.toArray 38))
  have hsrc2 := fun (W : World) h => ((news hs2 h).alloc (Nat.le_refl W.heap.size) (.cells ds.toArray 5)).srcB Try.underlying27
  have HS := Lib.hid hs
  have HS2 := Lib.hid hs2
  have HWFL := Lib.hid hwfl
  have HCS := Lib.hid hcs
  have HDS := Lib.hid hds
  have HSH1 := Lib.hid hsh1
  have HSH2 := Lib.hid hsh2
  have HR0 := Lib.hid hr0
  have HD0 := Lib.hid hd0
  have HSRC := Lib.hid hsrc
  have HSRC2 := Lib.hid hsrc2
  clear hs hs2 hwfl hcs hds hsh1 hsh2 hr0 hd0 hsrc hsrc2
  clear hq1 hq2
  go_enter Try.func7, Try.ntmps7
  go_wp2_with (first | (go_at_call 8; refine (awake_any _).mono ?_; rintro e w1 ⟨rfl, hw1⟩) | (go_at_call 16; refine (HSH1.out _).mono ?_; rintro e w' ⟨rfl, rfl⟩) | (go_at_call 17; refine (HSH2.out _).mono ?_; rintro e w' ⟨rfl, rfl⟩; obtain ⟨r0, hrow0, hr0⟩ := HR0.out w1; have HROW0 := Lib.hid hrow0; have HRZ0 := Lib.hid hr0; have HSR := Lib.hid (HSRC.out w1 hw1); have t1 := hw1.size; have HW1 := Lib.hid hw1; clear hrow0 hr0 hw1) | (at_builtin; refine wpList_append_row tySteps rfl (.tmp 39) (.tmp 40) rfl rfl HROW0.out rfl HSR.out (by unfold maxLen; omega) (by omega) ?_; intro r2 A3 c3 wa2 hr2 hk2 hn2; rw [Nat.zero_add, List.nil_append] at hr2; have HR2 := Lib.hid hr2; have HK2 := Lib.hid hk2; have HN2 := Lib.hid hn2; clear hr2 hk2 hn2) | (at_builtin; refine wpList_append_many (cs := cellsS m77 ++ cellsS m78) tySteps rfl (.tmp 41) (.tmp 44) rfl rfl HR2.out rfl rfl rfl (by simp [cellsS, Value.oneCell']) (by unfold maxLen; omega) (by omega) ?_; intro rw Aw cw w2 hr3 hk3 hn3; have hle3 := hr3.bound; have HR3 := Lib.hid hr3; have HK3 := Lib.hid hk3; have HN3 := Lib.hid hn3; clear hr3 hk3 hn3; have hw12 : New w1 wa2 := ((Kept.refl _ _).alloc _).step HK2.out (fun i hi e => by have := HRZ0.out i e; omega); have hr2n : ∀ k, r2 = some k → w1.heap.size ≤ k := (fun k hk => by rcases HN2.out k hk with h | h; (have := HRZ0.out k h; omega); (rw [← size1] at h; omega)); have hw13 : New w1 w2 := hw12.step HK3.out (fun i hi e => by have := hr2n i e; omega); have hfw : ∀ k, rw = some k → w1.heap.size ≤ k := (fun k hk => by rcases HN3.out k hk with h | h; exact hr2n k h; (have := hw12.size; omega)); have t2 := hw13.size; have HW2 := Lib.hid (HW1.out.trans hw13); have IW : Hid (∀ k, rw = some k → w1.heap.size ≤ k ∧ k < w2.heap.size) := Lib.hid (fun k h => ⟨hfw k h, HR3.out.lt (by decide) k h⟩); clear hw12 hr2n hw13 hfw; obtain ⟨q0, hq0, hqr0⟩ := HD0.out w2; have HQROW := Lib.hid hq0; have HQR0 := Lib.hid hqr0; have HSR2 := Lib.hid (HSRC2.out w2 HW2.out); clear hq0 hqr0) | (at_builtin; refine wpList_append_row tyBytes rfl (.tmp 52) (.tmp 53) rfl rfl HQROW.out rfl HSR2.out (by unfold maxLen; omega) (by omega) ?_; intro r4 A4 c4 wa4 hr4 hk4 hn4; rw [Nat.zero_add, List.nil_append] at hr4; have HR4 := Lib.hid hr4; have HK4 := Lib.hid hk4; have HN4 := Lib.hid hn4; clear hr4 hk4 hn4) | (at_builtin; refine wpList_append_many (cs := marksB.map bv) tyBytes rfl (.tmp 54) (.tmp 55) rfl rfl HR4.out rfl rfl rfl (bv_one _) (by unfold maxLen; omega) (by omega) ?_; intro rv Av cv w3 hr5 hk5 hn5; have HR5 := Lib.hid hr5; have HK5 := Lib.hid hk5; have HN5 := Lib.hid hn5; clear hr5 hk5 hn5; have hw34 : New w2 wa4 := ((Kept.refl _ _).alloc _).step HK4.out (fun i hi e => by have := HQR0.out i e; omega); have hr4n : ∀ k, r4 = some k → w2.heap.size ≤ k := (fun k hk => by rcases HN4.out k hk with h | h; (have := HQR0.out k h; omega); (rw [← size1] at h; omega)); have hw35 : New w2 w3 := hw34.step HK5.out (fun i hi e => by have := hr4n i e; omega); have hfv : ∀ k, rv = some k → w2.heap.size ≤ k := (fun k hk => by rcases HN5.out k hk with h | h; exact hr4n k h; (have := hw34.size; omega)); have t3 := hw35.size; have HW3 := Lib.hid (HW2.out.trans hw35); have IV : Hid (∀ k, rv = some k → w2.heap.size ≤ k ∧ k < w3.heap.size) := Lib.hid (fun k h => ⟨hfv k h, HR5.out.lt (by decide) k h⟩); have HRWx := Lib.hid (HR3.out.new (by decide) hw35); clear hw34 hr4n hw35 hfv))
  have HRV := Lib.hid (show RowB w3 rv Av (m2 + 2) cv (B ++ marksB) from by unfold RowB; rw [List.map_append]; exact HR5.out)
  have HRW3 := Lib.hid (show Row w3 3 rw Aw (m1 + 2) cw ((L ++ [m77, m78]).flatMap cellsS) from by rw [List.flatMap_append]; exact HRWx.out)
  have hcv0 := HRV.out.bound
  have hcw0 := HRW3.out.bound
  clear HRWx HR5 HK5 HN5 HK4 HN4 HR4 HQROW HQR0 HSR2 HK3 HN3 HR3 HK2 HN2 HR2 HSR HROW0 HRZ0 HSRC HSRC2 HD0 HR0 HSH1 HSH2 HCS HDS hmk hmk2
  have hLn := HS.out.len
  have hBn := HS2.out.len
  have HLN := Lib.hid hLn
  have HBN := Lib.hid hBn
  clear hLn hBn
  have hwL : ∀ W, New w3 W → SliceOf repStep W W.heap.size Aw m1 cw L := fun W h => rowS_head (HRW3.out.new (by decide) h) HLN.out (by omega) HWFL.out
  have hvB : ∀ W, New w3 W → SliceOf Rep.byte W W.heap.size Av m2 cv B := fun W h => rowB_head (HRV.out.new (by decide) h) HBN.out (by omega)
  have HWL := Lib.hid hwL
  have HVB := Lib.hid hvB
  clear hwL hvB
  go_wp2_with fail
  refine (may_walk Aw m1 cw L w3 (HWL.out w3 (Kept.refl _ _))).mono ?_
  rintro e w4 ⟨rfl, hw4⟩
  have t4 := hw4.size
  have HW4 := Lib.hid hw4
  clear hw4
  have hen := fun W h => encode_row Aw m1 cw L W (HWL.out W h)
  unfold Encd at hen
  have hren := fun W h => ref_encode_row A m1 m1 L W (news HS.out h)
  unfold Encd at hren
  have hdn := fun W h => decode_row Av m2 cv B W (HVB.out W h)
  unfold Decd at hdn
  have hrdn := fun W h => ref_decode_row A2 m2 m2 B W (news HS2.out h)
  unfold Decd at hrdn
  have lEB := encB_len L
  have lDL := decL_len B
  generalize may L = mv at *
  generalize hEB : encB L = EB at *
  generalize decE B = dv at *
  generalize hDL : decL B = DL at *
  have HEN := Lib.hid hen
  have HREN := Lib.hid hren
  have HDN := Lib.hid hdn
  have HRDN := Lib.hid hrdn
  clear hen hren hdn hrdn
  clear hEB hDL
  go_wp2_with fail
  refine (HEN.out w4 HW4.out).mono ?_
  rintro e w5 ⟨rx, Ax, nx, cx, rfl, hrx, hfx, hw5⟩
  have t5 := hw5.size
  have HW5 := Lib.hid (HW4.out.trans hw5)
  have IX : Hid (∀ k, rx = some k → w4.heap.size ≤ k ∧ k < w5.heap.size) := Lib.hid fun k h => ⟨hfx k h, hrx.lt (by decide) k h⟩
  have HRX := Lib.hid hrx
  clear hrx
  clear hw5 hfx
  go_wp2_with fail
  refine (HEN.out w5 HW5.out).mono ?_
  rintro e w6 ⟨ry, Ay, ny, cy, rfl, hry, hfy, hw6⟩
  have t6 := hw6.size
  have HW6 := Lib.hid (HW5.out.trans hw6)
  have IY : Hid (∀ k, ry = some k → w5.heap.size ≤ k ∧ k < w6.heap.size) := Lib.hid fun k h => ⟨hfy k h, hry.lt (by decide) k h⟩
  have HRX6 := Lib.hid (HRX.out.new (by decide) hw6)
  have HRY := Lib.hid hry
  clear hry
  clear hw6 hfy
  go_wp2_with fail
  refine (HDN.out w6 HW6.out).mono ?_
  rintro e w7 ⟨rp, Ap, cp, rfl, hrp, hfp, hwfp, hw7⟩
  have t7 := hw7.size
  have HW7 := Lib.hid (HW6.out.trans hw7)
  have IP : Hid (∀ k, rp = some k → w6.heap.size ≤ k ∧ k < w7.heap.size) := Lib.hid fun k h => ⟨hfp k h, hrp.lt (by decide) k h⟩
  have HRX7 := Lib.hid (HRX6.out.new (by decide) hw7)
  have HRY7 := Lib.hid (HRY.out.new (by decide) hw7)
  have HRP := Lib.hid hrp
  have HWFP := Lib.hid hwfp
  clear hrp hwfp
  clear hw7 hfp
  go_wp2_with fail
  refine (HDN.out w7 HW7.out).mono ?_
  rintro e w8 ⟨rq, Aq, cq, rfl, hrq, hfq, _, hw8⟩
  have t8 := hw8.size
  have HW8 := Lib.hid (HW7.out.trans hw8)
  have IQ : Hid (∀ k, rq = some k → w7.heap.size ≤ k ∧ k < w8.heap.size) := Lib.hid fun k h => ⟨hfq k h, hrq.lt (by decide) k h⟩
  have HRX8 := Lib.hid (HRX7.out.new (by decide) hw8)
  have HRY8 := Lib.hid (HRY7.out.new (by decide) hw8)
  have HRP8 := Lib.hid (HRP.out.new (by decide) hw8)
  have HRQ := Lib.hid hrq
  clear hrq
  clear hw8 hfq
  have HRW8 := Lib.hid (HRW3.out.new (by decide) HW8.out)
  have HRV8 := Lib.hid (HRV.out.new (by decide) HW8.out)
  have hcv := HRV8.out.bound
  have hcw := HRW8.out.bound
  obtain ⟨gv, ov, erv, rfl, h61⟩ := HRV8.out.at_index (k := m2) (by omega)
  obtain ⟨gv', ov', _, e4, h62⟩ := HRV8.out.at_index (k := m2 + 1) (by omega)
  injection e4 with e4
  injection e4 with e5 e6
  subst e5; subst e6
  obtain ⟨gw, ow, erw, rfl, h77⟩ := HRW8.out.at_index (k := m1) (by omega)
  obtain ⟨gw', ow', _, e4, h78⟩ := HRW8.out.at_index (k := m1 + 1) (by omega)
  injection e4 with e4
  injection e4 with e5 e6
  subst e5; subst e6
  have hgw := HRW8.out.lt (by decide) gw erw
  have hgv := HRV8.out.lt (by decide) gv erv
  have f7 : ∀ j, j < 3 → ((L ++ [m77, m78]).flatMap cellsS)[m1 * 3 + j]? = (cellsS m77)[j]? := fun j hj => by
    have := flatMap_get (f := cellsS) (L ++ [m77, m78]) (fun x _ => rfl) m1 (by have := HLN.out; simp; omega) j hj
    rw [this, List.getElem_append_right (by have := HLN.out; omega)]
    simp [HLN.out]
  have f8 : ∀ j, j < 3 → ((L ++ [m77, m78]).flatMap cellsS)[(m1 + 1) * 3 + j]? = (cellsS m78)[j]? := fun j hj => by
    have := flatMap_get (f := cellsS) (L ++ [m77, m78]) (fun x _ => rfl) (m1 + 1) (by have := HLN.out; simp; omega) j hj
    rw [this, List.getElem_append_right (by have := HLN.out; omega)]
    simp [HLN.out]
  have a7 : ∀ j, j < 3 → w8.cell? ⟨gw, ow + m1 * 3 + j, none⟩ = (cellsS m77)[j]? := fun j hj => by
    obtain ⟨v, h1, h2, _⟩ := h77 j hj
    rw [f7 j hj] at h1
    exact h2.trans h1.symm
  have a8 : ∀ j, j < 3 → w8.cell? ⟨gw, ow + (m1 + 1) * 3 + j, none⟩ = (cellsS m78)[j]? := fun j hj => by
    obtain ⟨v, h1, h2, _⟩ := h78 j hj
    rw [f8 j hj] at h1
    exact h2.trans h1.symm
  have b1 : w8.cell? ⟨gv, ov + m2, none⟩ = some (.int .u8 161) := by
    obtain ⟨v, h1, h2, _⟩ := h61 0 (by decide)
    rw [Nat.mul_one, Nat.add_zero, List.map_append, List.getElem?_append_right (by have := HBN.out; simp; omega)] at h1
    rw [Nat.mul_one, Nat.add_zero] at h2
    rw [h2, ← h1]
    simp [← HBN.out, marksB, bv]
  have b2 : w8.cell? ⟨gv, ov + (m2 + 1), none⟩ = some (.int .u8 162) := by
    obtain ⟨v, h1, h2, _⟩ := h62 0 (by decide)
    rw [Nat.mul_one, Nat.add_zero, List.map_append, List.getElem?_append_right (by have := HBN.out; simp; omega)] at h1
    rw [Nat.mul_one, Nat.add_zero] at h2
    rw [h2, ← h1]
    simp [← HBN.out, marksB, bv]
  have hH3 := HW3.out
  have HH3 := Lib.hid hH3
  clear hH3
  have hall : ∀ W, New w8 W → (New w8 W ∧ W.cell? ⟨gw, ow + m1 * 3, none⟩ = some (.int .i64 77) ∧ W.cell? ⟨gw, ow + m1 * 3 + 1, none⟩ = some (.int .i64 0) ∧ W.cell? ⟨gw, ow + m1 * 3 + 2, none⟩ = some (.int .i64 0) ∧
      W.cell? ⟨gw, ow + (m1 + 1) * 3, none⟩ = some (.int .i64 78) ∧ W.cell? ⟨gw, ow + (m1 + 1) * 3 + 1, none⟩ = some (.int .i64 0) ∧ W.cell? ⟨gw, ow + (m1 + 1) * 3 + 2, none⟩ = some (.int .i64 0) ∧
      W.cell? ⟨gv, ov + m2, none⟩ = some (.int .u8 161) ∧ W.cell? ⟨gv, ov + (m2 + 1), none⟩ = some (.int .u8 162) ∧
      (convert 27 9 (.slice (some ⟨gv, ov, none⟩) m2 cv)).run Try.prog W = .ok (.string ⟨B.toArray⟩) W ∧ (convert 27 9 (.slice A2 m2 m2)).run Try.prog W = .ok (.string ⟨B.toArray⟩) W) := fun W h =>
    ⟨h, (h.cell (p := ⟨gw, ow + m1 * 3, none⟩) hgw id).trans (a7 0 (by decide)), (h.cell (p := ⟨gw, ow + m1 * 3 + 1, none⟩) hgw id).trans (a7 1 (by decide)), (h.cell (p := ⟨gw, ow + m1 * 3 + 2, none⟩) hgw id).trans (a7 2 (by decide)),
      (h.cell (p := ⟨gw, ow + (m1 + 1) * 3, none⟩) hgw id).trans (a8 0 (by decide)), (h.cell (p := ⟨gw, ow + (m1 + 1) * 3 + 1, none⟩) hgw id).trans (a8 1 (by decide)), (h.cell (p := ⟨gw, ow + (m1 + 1) * 3 + 2, none⟩) hgw id).trans (a8 2 (by decide)),
      (h.cell (p := ⟨gv, ov + m2, none⟩) hgv id).trans b1, (h.cell (p := ⟨gv, ov + (m2 + 1), none⟩) hgv id).trans b2,
      str_of (P := Try.prog) (HVB.out W (HW8.out.trans h)) 27 9 5 rfl rfl rfl, str_of (P := Try.prog) (news HS2.out ((HH3.out.trans HW8.out).trans h)) 27 9 5 rfl rfl rfl⟩
  have hsame : ∀ W, New w8 W → Calls Try.prog 15 #[.slice (some ⟨gw, ow, none⟩) m1 cw, .slice A m1 m1] W fun e w' => e = .returned (.bool true) ∧ New w8 w' := fun W h =>
    (same_new _ _ _ _ _ _ _ _ L W (HWL.out W (HW8.out.trans h)) (news HS.out ((HH3.out.trans HW8.out).trans h))).mono fun e w' h2 => ⟨h2.1, h.trans h2.2⟩
  have hm1c : m1 + 2 ≤ cw := by omega
  have hm2c : m2 + 2 ≤ cv := by omega
  have HALL := Lib.hid hall
  have HSAME := Lib.hid hsame
  have ERW := Lib.hid erw
  have ERV := Lib.hid erv
  clear hall hsame erw erv
  clear h61 h62 h77 h78 f7 f8 a7 a8 b1 b2
  go_wp2_with fail
  have q1 : IntKind.i64.wrap ((m1 : Int) + 1) = (m1 : Int) + 1 := IntWalk.i64_in _ (by omega)
  have q2 : IntKind.i64.wrap ((m2 : Int) + 1) = (m2 : Int) + 1 := IntWalk.i64_in _ (by omega)
  have q3 : ((m1 : Int) + 1).toNat = m1 + 1 := by omega
  have q4 : ((m2 : Int) + 1).toNat = m2 + 1 := by omega
  have q5 : (0 : Int) ≤ (m1 : Int) + 1 := by omega
  have q6 : (0 : Int) ≤ (m2 : Int) + 1 := by omega
  have q7 : (m1 : Int) + 1 < (m1 : Int) + 2 := by omega
  have q8 : (m2 : Int) + 1 < (m2 : Int) + 2 := by omega
  have q9 : (m1 : Int) < (m1 : Int) + 2 := by omega
  have q10 : (m2 : Int) < (m2 : Int) + 2 := by omega
  have q11 : m2 ≤ cv := by omega
  go_region_held3 (fun W => New w8 W ∧ W.cell? ⟨gw, ow + m1 * 3, none⟩ = some (.int .i64 77) ∧ W.cell? ⟨gw, ow + m1 * 3 + 1, none⟩ = some (.int .i64 0) ∧ W.cell? ⟨gw, ow + m1 * 3 + 2, none⟩ = some (.int .i64 0) ∧
      W.cell? ⟨gw, ow + (m1 + 1) * 3, none⟩ = some (.int .i64 78) ∧ W.cell? ⟨gw, ow + (m1 + 1) * 3 + 1, none⟩ = some (.int .i64 0) ∧ W.cell? ⟨gw, ow + (m1 + 1) * 3 + 2, none⟩ = some (.int .i64 0) ∧
      W.cell? ⟨gv, ov + m2, none⟩ = some (.int .u8 161) ∧ W.cell? ⟨gv, ov + (m2 + 1), none⟩ = some (.int .u8 162) ∧
      (convert 27 9 (.slice (some ⟨gv, ov, none⟩) m2 cv)).run Try.prog W = .ok (.string ⟨B.toArray⟩) W ∧ (convert 27 9 (.slice A2 m2 m2)).run Try.prog W = .ok (.string ⟨B.toArray⟩) W) (first | exact HALL.out _ (by assumption) | exact HALL.out _ (Kept.refl _ _).drew) (first | (go_at_call 15; refine (HSAME.out _ (by first | assumption | exact (Kept.refl _ _).drew)).mono ?_; rintro e w9 ⟨rfl, hw9⟩))
  clear q1 q2 q3 q4 q5 q6 q7 q8 q9 q10 q11
  have t9 := hw9.size
  have HW9 := Lib.hid hw9
  clear hw9
  go_wp2_with fail
  have hxw : RowX w9 3 rw (some ⟨gw, ow, none⟩) m1 cw := (Row.x (HRW8.out.new (by decide) HW9.out)).head (by omega)
  have hzv : RowZ w9 .u8 rv (some ⟨gv, ov, none⟩) (m2 + 2) cv := rowZ_of (HRV8.out.new (by decide) HW9.out)
  have hx9 := HRX8.out.new (by decide) HW9.out
  have hy9 := HRY8.out.new (by decide) HW9.out
  have hp9 := HRP8.out.new (by decide) HW9.out
  have hq9 := HRQ.out.new (by decide) HW9.out
  have hn9 : New w w9 := (HH3.out.trans HW8.out).trans HW9.out
  have HXW := Lib.hid hxw
  have HZV := Lib.hid hzv
  have HX9 := Lib.hid hx9
  have HY9 := Lib.hid hy9
  have HP9 := Lib.hid hp9
  have HQ9 := Lib.hid hq9
  have HN9 := Lib.hid hn9
  clear hxw hzv hx9 hy9 hp9 hq9 hn9
  go_loopw [146] (fun i wr => ∃ k : Nat, k ≤ m1 ∧ i = .int .i64 k ∧ RowX wr 3 rw (some ⟨gw, ow, none⟩) m1 cw ∧ Kept (fun j => rw = some j) w9 wr) (fun i _ => (m1 - intOf i).toNat)
  case atStart => exact ⟨0, by omega, rfl, HXW.out, Kept.refl _ _⟩
  case round =>
    obtain ⟨k, hk, rfl, hrow, hkp⟩ := hrel
    by_cases hlt : k < m1
    · have hrow' := hrow
      obtain ⟨xs, hrw⟩ := hrow'
      obtain ⟨g, o, e1, e2, hc⟩ := hrw.at_index hlt
      injection e2 with e2
      injection e2 with e3 e4
      subst e3; subst e4
      obtain ⟨v0, _, z0, f0⟩ := hc 0 (by decide)
      obtain ⟨v1, _, z1, f1⟩ := hc 1 (by decide)
      obtain ⟨v2, _, z2, f2⟩ := hc 2 (by decide)
      rw [Nat.add_zero] at z0 f0
      have HROW := Lib.hid hrow
      have HKP := Lib.hid hkp
      have E1 := Lib.hid e1
      clear hrow hkp e1
      clear hrw hc
      go_wp2_with fail
      exact ⟨⟨k + 1, by omega, by go_num, ((HROW.out.set0 rfl hlt (by decide) _).set rfl hlt (by decide) _).set rfl hlt (by decide) _, ((HKP.out.setCell (.inr E1.out) _).setCell (.inr E1.out) _).setCell (.inr E1.out) _⟩, by simp [intOf]; omega⟩
    · obtain rfl : k = m1 := by omega
      have hzv2 := HZV.out.kept hkp fun j h1 h2 => by have := IW.out j h2; have := IV.out j h1; omega
      obtain ⟨w10, rfl⟩ : ∃ w10 : World, w10 = wr := ⟨_, rfl⟩
      have HROW := Lib.hid hrow
      have HKP := Lib.hid hkp
      have HZV2 := Lib.hid hzv2
      clear hrow hkp hzv2
      go_wp2_with fail
      go_loopw [156] (fun i wr => ∃ j : Nat, j ≤ m2 + 2 ∧ i = .int .i64 j ∧ RowZ wr .u8 rv (some ⟨gv, ov, none⟩) (m2 + 2) cv ∧ Kept (fun j => rw = some j ∨ rv = some j) w9 wr) (fun i _ => (m2 + 2 - intOf i).toNat)
      case atStart => exact ⟨0, by omega, rfl, HZV2.out, HKP.out.mono fun _ _ h => .inl h⟩
      case round =>
        obtain ⟨j, hj, rfl, hrow, hkp⟩ := hrel
        by_cases hltj : j < m2 + 2
        · obtain ⟨g, o, z, e1, e2, z0, f0⟩ := hrow.at_index hltj
          injection e2 with e2
          injection e2 with e3 e4
          subst e3; subst e4
          have HROW_ := Lib.hid hrow
          have HKP_ := Lib.hid hkp
          have E1 := Lib.hid e1
          clear hrow hkp e1
          go_wp2_with fail
          exact ⟨⟨j + 1, by omega, by go_num, HROW_.out.set rfl hltj _, HKP_.out.setCell (.inr (.inr E1.out)) _⟩, by simp [intOf]; omega⟩
        · obtain rfl : j = m2 + 2 := by omega
          obtain ⟨w11, rfl⟩ : ∃ w11 : World, w11 = wr := ⟨_, rfl⟩
          have hn11 : New w w11 := HN9.out.step hkp fun i hi h => by
            rcases h with h | h
            · have := IW.out i h; omega
            · have := IV.out i h; omega
          have HKP_ := Lib.hid hkp
          have HN11 := Lib.hid hn11
          clear hkp hn11
          clear hrow
          go_wp2_with fail
          refine (HREN.out w11 HN11.out).mono ?_
          rintro e w12 ⟨rb, Ab, nb, cb, rfl, hrb, hfb, hw12⟩
          have t12 := hw12.size
          have IB : Hid (∀ k, rb = some k → w11.heap.size ≤ k) := Lib.hid hfb
          have t11 := HKP_.out.size
          have HW12 := Lib.hid hw12
          have HRB := Lib.hid hrb
          clear hw12 hrb
          clear hfb
          go_wp2_with fail
          refine (HRDN.out w12 (HN11.out.trans HW12.out)).mono ?_
          rintro e w13 ⟨rg, Ag, cg, rfl, hrg, hfg, _, hw13⟩
          have IG : Hid (∀ k, rg = some k → w12.heap.size ≤ k) := Lib.hid hfg
          clear hfg
          have t13 := hw13.size
          have h1113 : New w11 w13 := HW12.out.trans hw13
          have hx13 := (HX9.out.of_kept (by decide) HKP_.out (fun i h1 h2 => by have := IX.out i h1; rcases h2 with h2 | h2; (have := IW.out i h2; omega); (have := IV.out i h2; omega))).new (by decide) h1113
          have hy13 := (HY9.out.of_kept (by decide) HKP_.out (fun i h1 h2 => by have := IY.out i h1; rcases h2 with h2 | h2; (have := IW.out i h2; omega); (have := IV.out i h2; omega))).new (by decide) h1113
          have hp13 := (HP9.out.of_kept (by decide) HKP_.out (fun i h1 h2 => by have := IP.out i h1; rcases h2 with h2 | h2; (have := IW.out i h2; omega); (have := IV.out i h2; omega))).new (by decide) h1113
          have hq13 := (HQ9.out.of_kept (by decide) HKP_.out (fun i h1 h2 => by have := IQ.out i h1; rcases h2 with h2 | h2; (have := IW.out i h2; omega); (have := IV.out i h2; omega))).new (by decide) h1113
          have hb13 := HRB.out.new (by decide) hw13
          have hn13 : New w w13 := HN11.out.trans h1113
          have s1 := str_of (P := Try.prog) (rowB_read hx13) 27 9 5 rfl rfl rfl
          have s2 := str_of (P := Try.prog) (rowB_read hy13) 27 9 5 rfl rfl rfl
          have s3 := str_of (P := Try.prog) (rowB_read hb13) 27 9 5 rfl rfl rfl
          have lx := rowB_len hx13
          have lb := rowB_len hb13
          have HX13 := Lib.hid hx13
          have HY13 := Lib.hid hy13
          have HP13 := Lib.hid hp13
          have HQ13 := Lib.hid hq13
          have HB13 := Lib.hid hb13
          have HN13 := Lib.hid hn13
          have HRG := Lib.hid hrg
          have LX := Lib.hid lx
          have LB := Lib.hid lb
          clear hx13 hy13 hp13 hq13 hb13 hn13 hrg lx lb
          clear hw13 h1113
          go_wp2_with fail
          refine (same_new _ _ _ _ _ _ _ _ DL _ (rowS_read HP13.out HWFP.out) (rowS_read HRG.out HWFP.out)).mono ?_
          rintro e w14 ⟨rfl, hw14⟩
          have t14 := hw14.size
          have HW14 := Lib.hid hw14
          clear hw14
          clear s1 s2 s3
          go_wp2_with fail
          refine (same_new _ _ _ _ _ _ _ _ DL _ (rowS_read (HQ13.out.new (by decide) HW14.out) HWFP.out) (rowS_read (HRG.out.new (by decide) HW14.out) HWFP.out)).mono ?_
          rintro e w15 ⟨rfl, hw15⟩
          have t15 := hw15.size
          have h1315 : New w13 w15 := HW14.out.trans hw15
          have hx15 : RowX w15 1 rx Ax nx cx := (HX13.out.new (by decide) h1315).x
          have hp15 : RowX w15 3 rp Ap DL.length cp := (HP13.out.new (by decide) h1315).x
          have hy15 := HY13.out.new (by decide) h1315
          have hq15 := HQ13.out.new (by decide) h1315
          have hb15 := HB13.out.new (by decide) h1315
          have hg15 := HRG.out.new (by decide) h1315
          have hn15 := HN13.out.trans h1315
          have HX15 := Lib.hid hx15
          have HP15 := Lib.hid hp15
          have HY15 := Lib.hid hy15
          have HQ15 := Lib.hid hq15
          have HB15 := Lib.hid hb15
          have HG15 := Lib.hid hg15
          have HN15 := Lib.hid hn15
          clear hx15 hp15 hy15 hq15 hb15 hg15 hn15
          clear hw15 h1315
          go_wp2_with fail
          have hnx : nx ≤ 13319 := by have := LX.out; omega
          have hDl : DL.length ≤ 1024 := lDL
          generalize hdl : DL.length = dl at *
          have HDLE := Lib.hid hdl
          clear hdl lEB lDL
          go_loopw [204] (fun i wr => ∃ a : Nat, a ≤ nx ∧ i = .int .i64 a ∧ RowX wr 1 rx Ax nx cx ∧ Kept (fun j => rx = some j) w15 wr) (fun i _ => (nx - intOf i).toNat)
          case atStart => exact ⟨0, by omega, rfl, HX15.out, Kept.refl _ _⟩
          case round =>
            obtain ⟨a, ha, rfl, hrow, hkp⟩ := hrel
            by_cases hlta : a < nx
            · have hrow' := hrow
              obtain ⟨xs, hrw⟩ := hrow'
              obtain ⟨g, o, e1, rfl, hc⟩ := hrw.at_index hlta
              obtain ⟨v0, _, z0, f0⟩ := hc 0 (by decide)
              rw [Nat.mul_one, Nat.add_zero] at z0 f0
              have hset := fun v => hrow.set0 rfl hlta (by decide) v
              rw [Nat.mul_one] at hset
              have HSET := Lib.hid hset
              have HKR := Lib.hid hkp
              have E1 := Lib.hid e1
              clear hset hkp e1
              clear hrw hc hrow
              go_wp2_with fail
              exact ⟨⟨a + 1, by omega, by go_num, HSET.out _, HKR.out.setCell (.inr E1.out) _⟩, by simp [intOf]; omega⟩
            · obtain rfl : a = nx := by omega
              have hp16 := HP15.out.kept (by decide) hkp fun j h1 h2 => by have := IP.out j h1; have := IX.out j h2; omega
              obtain ⟨w16, rfl⟩ : ∃ w16 : World, w16 = wr := ⟨_, rfl⟩
              have HROWX := Lib.hid hrow
              have HKR := Lib.hid hkp
              have HP16 := Lib.hid hp16
              clear hrow hkp hp16
              go_wp2_with fail
              go_loopw [213] (fun i wr => ∃ d : Nat, d ≤ dl ∧ i = .int .i64 d ∧ RowX wr 3 rp Ap dl cp ∧ RowX wr 1 rx Ax a cx ∧ Kept (fun j => rx = some j ∨ rp = some j) w15 wr) (fun i _ => (dl - intOf i).toNat)
              case atStart => exact ⟨0, by omega, rfl, HP16.out, HROWX.out, HKR.out.mono fun _ _ h => .inl h⟩
              case round =>
                obtain ⟨d, hd, rfl, hrow, hrx2, hkp⟩ := hrel
                by_cases hltd : d < dl
                · have hrow' := hrow
                  obtain ⟨xs, hrw⟩ := hrow'
                  obtain ⟨g, o, e1, rfl, hc⟩ := hrw.at_index hltd
                  obtain ⟨v0, _, z0, f0⟩ := hc 0 (by decide)
                  obtain ⟨v1, _, z1, f1⟩ := hc 1 (by decide)
                  obtain ⟨v2, _, z2, f2⟩ := hc 2 (by decide)
                  rw [Nat.add_zero] at z0 f0
                  have hapart : ∀ j, rx = some j → ¬ j = g := fun j h1 h2 => by have := IX.out j h1; have := IP.out g e1; omega
                  have HROWP := Lib.hid hrow
                  have HKS := Lib.hid hkp
                  have E1 := Lib.hid e1
                  have HRX2 := Lib.hid hrx2
                  have HAPART := Lib.hid hapart
                  clear hrow hkp e1 hrx2 hapart
                  clear hrw hc
                  go_wp2_with fail
                  exact ⟨⟨d + 1, by omega, by go_num, ((HROWP.out.set0 rfl hltd (by decide) _).set rfl hltd (by decide) _).set rfl hltd (by decide) _,
                    ((HRX2.out.kept (by decide) (Kept.set1 _ g _ _) HAPART.out).kept (by decide) (Kept.set1 _ g _ _) HAPART.out).kept (by decide) (Kept.set1 _ g _ _) HAPART.out,
                    ((HKS.out.setCell (.inr (.inr E1.out)) _).setCell (.inr (.inr E1.out)) _).setCell (.inr (.inr E1.out)) _⟩, by simp [intOf]; omega⟩
                · obtain rfl : d = dl := by omega
                  obtain ⟨w17, rfl⟩ : ∃ w17 : World, w17 = wr := ⟨_, rfl⟩
                  have HROWP := Lib.hid hrow
                  have HKS := Lib.hid hkp
                  have HRX2 := Lib.hid hrx2
                  clear hrow hkp hrx2
                  go_wp2_with fail
                  go_loopw [7, 13, 221] (fun vx vp i wr => ∃ (q : Nat) (r1 : Option Nat) (A1 : Option Addr) (e1 : Nat) (r2 : Option Nat) (B1 : Option Addr) (e2 : Nat), q ≤ 40 ∧ i = .int .i64 q ∧ vx = .slice A1 (a + q) e1 ∧ vp = .slice B1 (d + q) e2 ∧ RowX wr 1 r1 A1 (a + q) e1 ∧ RowX wr 3 r2 B1 (d + q) e2 ∧ (∀ k, r1 = some k → rx = some k ∨ w15.heap.size ≤ k) ∧ (∀ k, r2 = some k → rp = some k ∨ w15.heap.size ≤ k) ∧ (∀ k, r1 = some k → r2 = some k → False) ∧ Kept (fun j => rx = some j ∨ rp = some j) w15 wr) (fun _ _ i _ => (40 - intOf i).toNat)
                  case atStart => exact ⟨0, rx, Ax, cx, rp, Ap, cp, by omega, rfl, rfl, rfl, HRX2.out, HROWP.out, fun _ h => .inl h, fun _ h => .inl h, fun k h1 h2 => by have := IX.out k h1; have := IP.out k h2; omega, HKS.out⟩
                  case round =>
                    obtain ⟨q, r1, A1, e1, r2, B1, e2, hq, rfl, rfl, rfl, hx1, hp1, hr1, hr2, hap, hkp⟩ := hrel
                    by_cases hltq : q < 40
                    · have hx1' := hx1
                      have hp1' := hp1
                      obtain ⟨xs, hx1'⟩ := hx1'
                      obtain ⟨ps, hp1'⟩ := hp1'
                      have hl2 := hp1.lt (by decide)
                      have hl1 := hx1.lt (by decide)
                      have HXR := Lib.hid hx1'
                      have HPR := Lib.hid hp1'
                      have HR1 := Lib.hid hr1
                      have HR2 := Lib.hid hr2
                      have HAP := Lib.hid hap
                      have HKT := Lib.hid hkp
                      have HL2 := Lib.hid hl2
                      have HL1 := Lib.hid hl1
                      clear hx1' hp1' hr1 hr2 hap hkp hl2 hl1
                      clear hx1 hp1
                      go_wp2_with (first | (at_builtin; refine wpList_append_many (cs := [.int .u8 8]) tyBytes rfl (.tmp 223) (.tmp 224) rfl rfl HXR.out rfl rfl rfl (by simp [Value.oneCell']) (by unfold maxLen; omega) (by omega) ?_; intro r3 A3 c3 w18 hr3 hk3 hn3; have HR3 := Lib.hid hr3; have HK3 := Lib.hid hk3; have HN3 := Lib.hid hn3; have HP3 := Lib.hid (HPR.out.of_kept (by decide) hk3 fun j h1 h2 => HAP.out j h2 h1); clear hr3 hk3 hn3) | (at_builtin; refine wpList_append_many (cs := cellsS ⟨98, 0, 0⟩) tySteps rfl (.tmp 226) (.tmp 228) rfl rfl HP3.out rfl rfl rfl (cellsS_one _) (by unfold maxLen; omega) (by omega) ?_; intro r4 A4 c4 w19 hr4 hk4 hn4; have HR4 := Lib.hid hr4; have HK4 := Lib.hid hk4; have HN4 := Lib.hid hn4; clear hr4 hk4 hn4))
                      have u3 := HK3.out.size
                      have u4 := HK4.out.size
                      have u5 := HKT.out.size
                      have hl3 := HR3.out.lt (by decide)
                      have h34 : ∀ k, r3 = some k → ¬ r2 = some k := fun k h1 h2 => by
                        have := HL2.out k h2
                        rcases HN3.out k h1 with h | h
                        · exact HAP.out k h h2
                        · omega
                      refine ⟨⟨q + 1, r3, A3, c3, r4, A4, c4, by omega, by go_num, rfl, rfl, (HR3.out.of_kept (by decide) HK4.out h34).x, HR4.out.x, ?_, ?_, ?_, ?_⟩, by simp [intOf]; omega⟩
                      · intro k h
                        rcases HN3.out k h with h | h
                        · exact HR1.out k h
                        · exact .inr (by omega)
                      · intro k h
                        rcases HN4.out k h with h | h
                        · exact HR2.out k h
                        · exact .inr (by omega)
                      · intro k h1 h2
                        rcases HN4.out k h2 with h | h
                        · exact h34 k h1 h
                        · have := hl3 k h1; omega
                      · refine (HKT.out.step HK3.out fun i hi h => ?_).step HK4.out fun i hi h => ?_
                        · rcases HR1.out i h with h | h
                          · exact .inl h
                          · omega
                        · rcases HR2.out i h with h | h
                          · exact .inr h
                          · omega
                    · obtain rfl : q = 40 := by omega
                      have hd1 : ∀ i, ry = some i → ¬ (rx = some i ∨ rp = some i) := fun i h1 h2 => by have := IY.out i h1; rcases h2 with h2 | h2; (have := IX.out i h2; omega); (have := IP.out i h2; omega)
                      have hd2 : ∀ i, rq = some i → ¬ (rx = some i ∨ rp = some i) := fun i h1 h2 => by have := IQ.out i h1; rcases h2 with h2 | h2; (have := IX.out i h2; omega); (have := IP.out i h2; omega)
                      have hdx : ∀ i, (rx = some i ∨ rp = some i) → w4.heap.size ≤ i ∧ i < w11.heap.size := fun i h2 => by rcases h2 with h2 | h2; (have := IX.out i h2; omega); (have := IP.out i h2; omega)
                      have hlb := HB15.out.lt (by decide)
                      have hyz := HY15.out.of_kept (by decide) hkp hd1
                      have hqz := HQ15.out.of_kept (by decide) hkp hd2
                      have hbz := HB15.out.of_kept (by decide) hkp fun i h1 h2 => by have := hdx i h2; have := IB.out i h1; omega
                      have hgz := HG15.out.of_kept (by decide) hkp fun i h1 h2 => by have := hdx i h2; have := IG.out i h1; omega
                      have hnz : New w wr := HN15.out.step hkp fun i hi h => by have := hdx i h; omega
                      have hlx := LX.out
                      have hlb2 := LB.out
                      obtain rfl : nb = a := by omega
                      have s1 := str_of (P := Try.prog) (rowB_read hyz) 27 9 5 rfl rfl rfl
                      have s2 := str_of (P := Try.prog) (rowB_read hbz) 27 9 5 rfl rfl rfl
                      have hsq : SliceOf repStep wr wr.heap.size Aq d cq DL := by have := rowS_read (by rw [HDLE.out]; exact hqz) HWFP.out; rwa [HDLE.out] at this
                      have hsg : SliceOf repStep wr wr.heap.size Ag d cg DL := by have := rowS_read (by rw [HDLE.out]; exact hgz) HWFP.out; rwa [HDLE.out] at this
                      have HNZ := Lib.hid hnz
                      have HSQ := Lib.hid hsq
                      have HSG := Lib.hid hsg
                      clear hnz hsq hsg
                      clear hyz hqz hbz hgz hkp hx1 hp1 hr1 hr2 hap hd1 hd2 hdx hlb hlx hlb2
                      go_wp2_with (go_at_call 15; refine (same_new _ _ _ _ _ _ _ _ DL _ HSQ.out HSG.out).mono ?_; rintro e w20 ⟨rfl, hw20⟩)
                      go_ret
                      exact ⟨rfl, HNZ.out.trans hw20⟩
end Go.Proofs.Ytgmibjhbneggeaa.Script
