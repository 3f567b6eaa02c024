/- The walks of package valid's looked, Check and Longest (layer 8). -/
import Derived.Test.YtjhiaicpgajeoaaValidH
namespace Go.Proofs.Ytjhiaicpgajeoaa.Valid
open Go.RowKit Go.Fb Go.BytesP Go.CodeP Go.ValidP
open Go.Proofs.Ytjhiaicpgajeoaa.Code (repIns ins_at ins_wf)
set_option linter.unusedVariables false
def Looked (l : List Ins) (locks : Int) (w : World) (e : Ending) (w' : World) : Prop := New w w' ∧
  (((may l locks).1 ≠ 0 ∧ e = .returned (.tuple #[.map none, .int .i64 (may l locks).1, .int .i64 (may l locks).2]))
  ∨ (may l locks = (0, 0) ∧ ∃ (b : Int) (p : Nat), First l b p ∧ (b = 0 → p = 0) ∧ ((b ≠ 0 ∧ e = .returned (.tuple #[.map none, .int .i64 b, .int .i64 p])) ∨ (b = 0 ∧ ∃ bo g, e = .returned (.tuple #[.map (some bo), .int .i64 0, .int .i64 0]) ∧ HoldsI l bo l.length g w'))))
set_option maxHeartbeats 2000000 in
theorem looked_any {A : Option Addr} {n c : Nat} {l : List Ins} {w : World} {locks : Int} (hl : SliceOf repIns w w.heap.size A n c l) :
    Calls Try.prog 15 #[.slice A n c, .int .i64 locks] w (Looked l locks w) := by
  have hmay := Code.may_any A n c l locks w hl
  have hln := hl.len
  by_cases h0 : (may l locks).1 = 0
  · have hm0 := may_zero h0
    rw [hm0] at hmay
    obtain ⟨k1, k2, k3, k4⟩ := may_ok hm0
    have HST := Lib.hid (fun W (hW : New w W) => stands_any (w := W) ((hl.kept hW (Nat.le_refl _) (fun _ _ h => h)).more hW.size) k2 k4 (by omega))
    have HHO := Lib.hid (fun W (hW : New w W) bm k f h1 h2 h3 => holds_any (w := W) (bm := bm) (k := k) (f := f) ((hl.kept hW (Nat.le_refl _) (fun _ _ h => h)).more hW.size) k2 k4 (by omega) h1 h2 h3)
    have HMAY := Lib.hid hmay
    have HL := Lib.hid hl
    have HLN := Lib.hid hln
    have HM0 := Lib.hid hm0
    have H0 := Lib.hid h0
    clear hmay hl hln hm0 h0
    clear k1 k2 k3 k4
    go_enter Try.func15, Try.ntmps15
    go_wp2_with fail
    refine HMAY.out.mono ?_
    rintro e w1 ⟨rfl, hw1⟩
    have HW1 := Lib.hid hw1
    clear hw1
    go_wp2_with fail
    refine (HST.out w1 HW1.out).mono ?_
    rintro e w2 ⟨hw2, bm, k, f, bad, at_, rfl, hmp, hk, hbm, hf, hfi, hz⟩
    by_cases hb : bad = 0
    · subst hb
      obtain rfl := hz rfl
      have hho := HHO.out w2 (HW1.out.trans hw2) bm k f (hfi.1 rfl) hmp hf
      have HW2 := Lib.hid hw2
      have HMP := Lib.hid hmp
      have HF := Lib.hid hf
      have HFI := Lib.hid hfi
      have HZ := Lib.hid hz
      have HHO1 := Lib.hid hho
      clear hw2 hmp hf hfi hz hho
      go_wp2_with fail
      refine HHO1.out.mono ?_
      rintro e w3 ⟨hw3, bo, g, rfl, hH⟩
      have HW3 := Lib.hid hw3
      have HH := Lib.hid hH
      clear hw3 hH
      go_wp2_with fail
      refine bodyPost_ret (results_tmp3 rfl _ _ _) rfl ?_
      exact ⟨(HW1.out.trans HW2.out).trans HW3.out, .inr ⟨HM0.out, 0, 0, HFI.out, fun _ => rfl, .inr ⟨rfl, bo, g, rfl, HH.out⟩⟩⟩
    · have hb2 : (bad != 0) = true := by simpa using hb
      have HW2 := Lib.hid hw2
      have HMP := Lib.hid hmp
      have HF := Lib.hid hf
      have HFI := Lib.hid hfi
      have HZ := Lib.hid hz
      have HB := Lib.hid hb
      clear hw2 hmp hf hfi hz hb
      go_wp2_with fail
      refine bodyPost_ret (results_tmp3 rfl _ _ _) rfl ?_
      exact ⟨HW1.out.trans HW2.out, .inr ⟨HM0.out, bad, at_, HFI.out, HZ.out, .inl ⟨HB.out, rfl⟩⟩⟩
  · have h02 : ((may l locks).1 != 0) = true := by simpa using h0
    obtain ⟨m1, hm1⟩ : ∃ m, m = (may l locks).1 := ⟨_, rfl⟩
    obtain ⟨m2, hm2⟩ : ∃ m, m = (may l locks).2 := ⟨_, rfl⟩
    rw [← hm1, ← hm2] at hmay
    rw [← hm1] at h02
    have HM1 := Lib.hid hm1
    have HM2 := Lib.hid hm2
    have H0 := Lib.hid h0
    clear hm1 hm2 h0
    have HMAY := Lib.hid hmay
    have HL := Lib.hid hl
    have HLN := Lib.hid hln
    clear hmay hl hln
    go_enter Try.func15, Try.ntmps15
    go_wp2_with fail
    refine HMAY.out.mono ?_
    rintro e w1 ⟨rfl, hw1⟩
    have HW1 := Lib.hid hw1
    clear hw1
    go_wp2_with fail
    refine bodyPost_ret (results_tmp3 rfl _ _ _) rfl ?_
    exact ⟨HW1.out, .inl ⟨H0.out, by rw [← HM1.out, ← HM2.out]; rfl⟩⟩
end Go.Proofs.Ytjhiaicpgajeoaa.Valid
