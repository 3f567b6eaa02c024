/- The walks of chapter 6's laws: CodeNames, CodeMays, CodeReads. -/
import Derived.Test.YtfffjlcifokdmaaCodeA
namespace Go.Proofs.Ytfffjlcifokdmaa.Code
open Go.RowKit Go.Fb Go.BytesP Go.CodeP Go.ReaderP
set_option linter.unusedVariables false

theorem short_ins (A : Option Addr) (n c : Nat) (w : World) (hn : n ≤ c) (hc : c ≤ 9223372036854775807) : Calls Try.prog 15 #[.slice A n c] w fun e w' => e = .returned (.slice A (min n 1048576) (min n 1048576)) ∧ w = w' := by
  have E := Lib.hid (show min n 1048576 = (min (n : Int) 1048576).toNat by omega)
  go_enter Try.func15, Try.ntmps15
  go_wp2
  go_ret
  rw [E.out]
  exact ⟨rfl, rfl⟩
theorem short_byte (A : Option Addr) (n c : Nat) (w : World) (hn : n ≤ c) (hc : c ≤ 9223372036854775807) : Calls Try.prog 23 #[.slice A n c] w fun e w' => e = .returned (.slice A (min n 1048576) (min n 1048576)) ∧ w = w' := by
  have E := Lib.hid (show min n 1048576 = (min (n : Int) 1048576).toNat by omega)
  go_enter Try.func23, Try.ntmps23
  go_wp2
  go_ret
  rw [E.out]
  exact ⟨rfl, rfl⟩
theorem short_of {α : Type} {R : Rep α} {w : World} {B n c : Nat} {A : Option Addr} {l : List α} (h : SliceOf R w B A n c l) : SliceOf R w B A (min n 1048576) (min n 1048576) (l.take (min n 1048576)) :=
  h.take (Nat.min_le_left _ _) (Nat.le_refl _) (by have := h.bound; unfold maxLen; omega)
set_option maxRecDepth 100000 in
set_option maxHeartbeats 1000000 in
theorem mays_walk (A : Option Addr) (n c : Nat) (l : List Ins) (locks : Int) (w : World) (hl : SliceOf repIns w w.heap.size A n c l) :
    Calls Try.prog 5 #[.slice A n c, .int .i64 locks] w fun e w' => e = .returned (.bool true) ∧ New w w' := by
  have hs := short_of hl
  have hbd := hl.bound
  clear hl
  have HS := Lib.hid hs
  clear hs
  go_enter Try.func5, Try.ntmps5
  go_wp2_with (first | (go_at_call 10; refine (awake_any _).mono ?_; rintro e w1 ⟨rfl, hw1⟩) | (go_at_call 15; refine (short_ins _ _ _ _ hbd.1 hbd.2).mono ?_; rintro e w' ⟨rfl, rfl⟩))
  generalize min n 1048576 = m at *
  generalize l.take m = k at *
  have HW1 := Lib.hid hw1
  clear hw1
  refine (may_any A m m k locks w1 (news HS.out HW1.out)).mono ?_
  rintro e w2 ⟨rfl, hw2⟩
  have HW2 := Lib.hid (HW1.out.trans hw2)
  clear hw2
  have hrm := fun W h => ref_may A m m k locks W (news HS.out h)
  generalize may k locks = v at *
  have HRM := Lib.hid hrm
  clear hrm
  go_wp2_with fail
  refine (HRM.out w2 HW2.out).mono ?_
  rintro e w3 ⟨rfl, hw3⟩
  have HW3 := Lib.hid (HW2.out.trans hw3)
  clear hw3
  go_wp2_with fail
  refine (encode_any A m m k w3 (news HS.out HW3.out)).mono ?_
  rintro e w4 ⟨r4, A4, n4, c4, rfl, hr4, _, hw4⟩
  have HW4 := Lib.hid (HW3.out.trans hw4)
  have HR4 := Lib.hid hr4
  clear hr4
  clear hw4
  have hre := fun W h => ref_encode A m m k W (news HS.out h)
  unfold Encd at hre
  have HEB : ∀ b : List UInt8, b = encB k → Hid (b = encB k) := fun b h => Lib.hid h
  generalize may k 8 = u at *
  have HRE := Lib.hid hre
  clear hre
  clear HEB
  go_wp2_with fail
  refine (HRE.out w4 HW4.out).mono ?_
  rintro e w5 ⟨r5, A5, n5, c5, rfl, hr5, _, hw5⟩
  have s1 := str_of (P := Try.prog) (rowB_read (HR4.out.new (by decide) hw5)) 35 9 5 rfl rfl rfl
  have s2 := str_of (P := Try.prog) (rowB_read hr5) 35 9 5 rfl rfl rfl
  have HW5 := Lib.hid (HW4.out.trans hw5)
  clear hr5 hw5
  go_wp2_with fail
  go_ret
  exact ⟨rfl, HW5.out⟩
set_option maxRecDepth 100000 in
set_option maxHeartbeats 1000000 in
theorem reads_walk (A : Option Addr) (n c : Nat) (bs : List UInt8) (w : World) (hb : SliceOf Rep.byte w w.heap.size A n c bs) :
    Calls Try.prog 6 #[.slice A n c] w fun e w' => e = .returned (.bool true) ∧ New w w' := by
  have HB := Lib.hid hb
  clear hb
  go_enter Try.func6, Try.ntmps6
  go_wp2_with (go_at_call 10; refine (awake_any _).mono ?_; rintro e w1 ⟨rfl, hw1⟩)
  have HW1 := Lib.hid hw1
  clear hw1
  refine (decode_any A n c bs w1 (news HB.out HW1.out)).mono ?_
  rintro e w2 ⟨r2, A2, c2, rfl, hr2, _, hwf, hw2⟩
  have hm2 := rowI_read hr2 hwf
  have hrd := fun W h => ref_decode A n c bs W (news HB.out h)
  unfold Decd at hrd
  have HW2 := Lib.hid (HW1.out.trans hw2)
  generalize decE bs = v at *
  generalize decL bs = l at *
  have HM2 := Lib.hid hm2
  have HRD := Lib.hid hrd
  clear hm2 hrd
  clear hw2 hr2 hwf
  go_wp2_with fail
  refine (HRD.out w2 HW2.out).mono ?_
  rintro e w3 ⟨r3, A3, c3, rfl, hr3, _, hwf3, hw3⟩
  have hm3 := rowI_read hr3 hwf3
  have hm23 := news HM2.out hw3
  have HW3 := Lib.hid (HW2.out.trans hw3)
  have HM3 := Lib.hid hm3
  have HM23 := Lib.hid hm23
  clear hm3 hm23
  clear hw3 hr3 hwf3
  go_wp2_with (go_at_call 22; refine (same_true _ _ _ _ _ _ _ _ l _ HM23.out HM3.out).mono ?_; rintro e w4 ⟨rfl, hw4⟩)
  go_ret
  exact ⟨rfl, HW3.out.trans hw4⟩
end Go.Proofs.Ytfffjlcifokdmaa.Code
