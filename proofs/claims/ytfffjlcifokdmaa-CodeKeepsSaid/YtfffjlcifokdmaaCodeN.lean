/- The walks of chapter 6's laws: CodeNames, CodeReturns. -/
import Derived.Test.YtfffjlcifokdmaaCodeL
namespace Go.Proofs.Ytfffjlcifokdmaa.Code
open Go.RowKit Go.Fb Go.BytesP Go.CodeP Go.ReaderP
set_option linter.unusedVariables false

def upto35 : List Int := [0, 1, 2, 3, 4, 5, 6, 7, 8, 9, 10, 11, 12, 13, 14, 15, 16, 17, 18, 19, 20, 21, 22, 23, 24, 25, 26, 27, 28, 29, 30, 31, 32, 33, 34]
theorem upto35_get (k : Nat) (h : k < 35) : upto35[k]? = some (k : Int) := by
  rcases (by omega : k = 0 ∨ k = 1 ∨ k = 2 ∨ k = 3 ∨ k = 4 ∨ k = 5 ∨ k = 6 ∨ k = 7 ∨ k = 8 ∨ k = 9 ∨ k = 10 ∨ k = 11 ∨ k = 12 ∨ k = 13 ∨ k = 14 ∨ k = 15 ∨ k = 16 ∨ k = 17 ∨ k = 18 ∨ k = 19 ∨ k = 20 ∨ k = 21 ∨ k = 22 ∨ k = 23 ∨ k = 24 ∨ k = 25 ∨ k = 26 ∨ k = 27 ∨ k = 28 ∨ k = 29 ∨ k = 30 ∨ k = 31 ∨ k = 32 ∨ k = 33 ∨ k = 34) with rfl | rfl | rfl | rfl | rfl | rfl | rfl | rfl | rfl | rfl | rfl | rfl | rfl | rfl | rfl | rfl | rfl | rfl | rfl | rfl | rfl | rfl | rfl | rfl | rfl | rfl | rfl | rfl | rfl | rfl | rfl | rfl | rfl | rfl | rfl <;> rfl
set_option maxRecDepth 100000 in
set_option maxHeartbeats 1000000 in
theorem names_walk (w : World) : Calls Try.prog 3 #[] w fun e w' => e = .returned (.bool true) ∧ New w w' := by
  go_enter Try.func3, Try.ntmps3
  go_wp2_with fail
  have hb : Blk (w.alloc (.cells (upto35.map (Value.int .i64)).toArray 3)) w.heap.size 3 (upto35.map (Value.int .i64)).toArray := Blk.made _ _ _
  have hw : New w (w.alloc (.cells (upto35.map (Value.int .i64)).toArray 3)) := (Kept.refl _ _).alloc _
  change (Code.wp _ _ _ _ (w.alloc (.cells (upto35.map (Value.int .i64)).toArray 3)))
  generalize w.alloc (.cells (upto35.map (Value.int .i64)).toArray 3) = W at *
  have HB := Lib.hid hb
  have HW := Lib.hid hw
  clear hb hw
  go_loop [7] (fun i => ∃ k : Nat, k ≤ 35 ∧ i = .int .i64 k) (fun i => (35 - intOf i).toNat)
  case atStart => exact ⟨0, by omega, rfl⟩
  case round =>
    obtain ⟨k, hk, rfl⟩ := hrel
    by_cases hlt : k < 35
    · have hc : W.cell? ⟨w.heap.size, k, none⟩ = some (.int .i64 k) := by
        rw [HB.out.cell]
        simp [upto35_get k hlt]
      have hq : ((k : Int) != (k : Int)) = false := by simp
      go_wp2_with fail
      go_round
      case rel => exact ⟨k + 1, by omega, by go_num⟩
      case measure => simp [intOf]; omega
    · obtain rfl : k = 35 := by omega
      go_wp2_with (go_at_call 10; refine (awake_any _).mono ?_; rintro e w1 ⟨rfl, hw1⟩)
      go_ret
      exact ⟨rfl, HW.out.trans hw1⟩
theorem may_at (l : List Ins) : 0 ≤ (may l 8).2 ∧ (may l 8).2 ≤ l.length := by
  unfold may
  split
  · simp
  · split
    · simp; omega
    · have := mayFrom_err (n := l.length) (locks := 8) l 0; omega
set_option maxRecDepth 100000 in
set_option maxHeartbeats 1000000 in
theorem returns_walk (A A2 : Option Addr) (n c n2 c2 : Nat) (l : List Ins) (b : List UInt8) (w : World) (hl : SliceOf repIns w w.heap.size A n c l) (hb : SliceOf Rep.byte w w.heap.size A2 n2 c2 b) :
    Calls Try.prog 7 #[.slice A n c, .slice A2 n2 c2] w fun e w' => e = .returned (.bool true) ∧ New w w' := by
  have hs := short_of hl
  have hbd := hl.bound
  have hbd2 := hb.bound
  clear hl
  have HS := Lib.hid hs
  have HB := Lib.hid hb
  clear hs hb
  go_enter Try.func7, Try.ntmps7
  go_wp2_with (first | (go_at_call 10; refine (awake_any _).mono ?_; rintro e w1 ⟨rfl, hw1⟩) | (go_at_call 15; refine (short_ins _ _ _ _ hbd.1 hbd.2).mono ?_; rintro e w' ⟨rfl, rfl⟩))
  have hmx : min n 1048576 ≤ 1048576 := Nat.min_le_right _ _
  generalize min n 1048576 = m at *
  generalize l.take m = k at *
  have HW1 := Lib.hid hw1
  clear hw1
  have hkl := HS.out.len
  refine (encode_any A m m k w1 (news HS.out HW1.out)).mono ?_
  rintro e w2 ⟨r2, A3, n3, c3, rfl, hr2, _, hw2⟩
  have HW2 := Lib.hid (HW1.out.trans hw2)
  have hn3 := rowB_len hr2
  have hbd3 := hr2.bound
  by_cases hm : may k 8 = (0, 0)
  case' pos =>
    obtain ⟨_, _, hk256, _⟩ := may_ok hm
    have hd := dec_encode hm (ins_inV (ins_wf HS.out))
    have he : encB k = encode k := by unfold encB; rw [if_pos hm]
    rw [hm]
    rw [he] at hr2 hn3
    have hle := length_encode k
    have hn12 : n3 = 12 * m := by omega
    subst hn12
    have hm256 : m ≤ 256 := by omega
    have hdl : decL (encode k) = k ∧ decE (encode k) = (0, 0) := by unfold decL decE; rw [hd]; exact ⟨rfl, rfl⟩
    have hrb := rowB_read hr2
    have hm12 : (((12 * m : Nat) : Int) != 12 * (m : Int)) = false := by rw [bne_eq_false_iff_eq]; omega
    have HM := Lib.hid hm
    have HD := Lib.hid hd
    have HE := Lib.hid he
    have HLE := Lib.hid hle
    have HDL := Lib.hid hdl
    have HRB := Lib.hid hrb
    have HR2 := Lib.hid hr2
    have HKL := Lib.hid hkl
    have HN3 := Lib.hid hn3
    clear hm hd he hle hdl hrb hr2 hkl hn3
    clear hw2
    go_wp2_with fail
    refine (decode_any _ _ _ (encode k) _ HRB.out).mono ?_
    rintro e w3 ⟨r3, A4, c4, rfl, hr3, _, hwf3, hw3⟩
    rw [HDL.out.1, HDL.out.2] at *
    have hm3 := rowI_read hr3 hwf3
    have HWx := Lib.hid (HW2.out.trans hw3)
    have hkx := news HS.out HWx.out
    have HM3 := Lib.hid hm3
    have HKX := Lib.hid hkx
    clear hm3 hkx
    clear hw3 hr3 hwf3
    go_wp2_with (go_at_call 22; refine (same_true _ _ _ _ _ _ _ _ k _ HM3.out HKX.out).mono ?_; rintro e wz ⟨rfl, hwz⟩)
    have HWz := Lib.hid (HWx.out.trans hwz)
    clear hwz
  case' neg =>
    have hm1 : ((may k 8).1 == 0) = false := by
      simp only [beq_eq_false_iff_ne, ne_eq]
      exact fun h => hm (may_zero h)
    have he : encB k = [] := by unfold encB; rw [if_neg hm]
    rw [he] at hn3
    obtain rfl : n3 = 0 := hn3
    obtain ⟨g1, g2⟩ := may_at k
    have g3 : (may k 8).2 ≤ (m : Int) := by omega
    generalize may k 8 = v at *
    have HE := Lib.hid he
    clear he
    clear hm hr2 hw2 hbd3 g2
    go_wp2_with fail
    have HWz := Lib.hid HW2.out
  all_goals
    refine (decode_any A2 n2 c2 b _ (news HB.out HWz.out)).mono ?_
    rintro e w4 ⟨r4, A5, c5, rfl, hr4, _, hwf4, hw4⟩
    have HW4 := Lib.hid (HWz.out.trans hw4)
    clear hw4
    cases hdb : dec b with
    | error z =>
      obtain ⟨z1, z2, z3⟩ := dec_err hdb
      have e1 : decL b = [] := by unfold decL; rw [hdb]
      have e2 : decE b = z := by unfold decE; rw [hdb]
      rw [e1, e2] at *
      have hln := HB.out.len
      have z1' : (z.1 != 0) = true := by simpa using z1
      have z4 : z.2 ≤ (n2 : Int) := by omega
      clear z1 hdb e1 e2 hr4 hwf4 z3 hln
      go_wp2_with fail
      go_ret
      exact ⟨rfl, HW4.out⟩
    | ok y =>
      obtain ⟨m1, m2, m3⟩ := encode_dec hdb
      have e1 : decL b = y := by unfold decL; rw [hdb]
      have e2 : decE b = (0, 0) := by unfold decE; rw [hdb]
      rw [e1] at hr4 hwf4
      rw [e1, e2]
      have hm4 := rowI_read hr4 hwf4
      have he : encB y = b := by unfold encB; rw [if_pos m1, m3]
      have HM4 := Lib.hid hm4
      have HE_ := Lib.hid he
      have M1 := Lib.hid m1
      clear hm4 he m1
      clear hdb e1 e2 hr4 hwf4 m2 m3
      go_wp2_with fail
      refine (encode_any _ _ _ y _ HM4.out).mono ?_
      rintro e w5 ⟨r5, A6, n6, c6, rfl, hr5, _, hw5⟩
      rw [M1.out]
      have hm5 := news HM4.out hw5
      have HW5 := Lib.hid (HW4.out.trans hw5)
      have HR5 := Lib.hid hr5
      have HM5 := Lib.hid hm5
      clear hr5 hm5
      clear hw5
      go_wp2_with fail
      refine (may_any _ _ _ y 8 _ HM5.out).mono ?_
      rintro e w6 ⟨rfl, hw6⟩
      rw [M1.out]
      have HW6 := Lib.hid (HW5.out.trans hw6)
      have s1 := str_of (P := Try.prog) (rowB_read (HR5.out.new (by decide) hw6)) 35 9 5 rfl rfl rfl
      have s2 := str_of (P := Try.prog) (news HB.out HW6.out) 35 9 5 rfl rfl rfl
      rw [HE_.out] at s1
      clear hw6
      go_wp2_with fail
      go_ret
      exact ⟨rfl, HW6.out⟩
end Go.Proofs.Ytfffjlcifokdmaa.Code
