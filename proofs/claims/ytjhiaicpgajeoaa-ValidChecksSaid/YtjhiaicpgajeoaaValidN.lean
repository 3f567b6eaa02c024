/- The walks of the law's ins, fixed and ValidNames (layer 8). -/
import Derived.Test.YtjhiaicpgajeoaaValidD
namespace Go.Proofs.Ytjhiaicpgajeoaa.Valid
open Go.RowKit Go.Fb Go.BytesP Go.CodeP Go.ValidP
open Go.Proofs.Ytjhiaicpgajeoaa.Code (repIns ins_at ins_wf cellsI Wf)
set_option linter.unusedVariables false
theorem ins_any (op x : Int) (w : World) : Calls Try.prog 8 #[.int .i64 op, .int .i64 x] w fun e w' => e = .returned (.agg #[.int .i64 op, .int .i64 0, .int .i64 0, .int .i64 0, .int .i64 x]) ∧ New w w' := by
  go_enter Try.func8, Try.ntmps8
  go_wp2_with fail
  refine bodyPost_ret (v := .agg #[.int .i64 op, .int .i64 0, .int .i64 0, .int .i64 0, .int .i64 x]) (by simp [results, go_sem]) rfl ?_
  exact ⟨rfl, (Kept.refl _ _).alloc _⟩
theorem good_wf : ∀ x ∈ good, Wf x := by
  intro x hx
  simp only [good, insN, List.mem_cons, List.not_mem_nil, or_false] at hx
  rcases hx with rfl | rfl | rfl | rfl | rfl <;> exact ⟨by decide, by decide, by decide, by decide, by decide⟩
theorem poor_wf : ∀ x ∈ poor, Wf x := by
  intro x hx
  simp only [poor, insN, List.mem_cons, List.not_mem_nil, or_false] at hx
  rcases hx with rfl | rfl <;> exact ⟨by decide, by decide, by decide, by decide, by decide⟩
theorem made_ins (w : World) (l : List Ins) (hw : ∀ x ∈ l, Wf x) (h0 : 0 < l.length) (h9 : l.length ≤ 1000) : SliceOf repIns (w.alloc (.cells (l.flatMap cellsI).toArray 25)) (w.alloc (.cells (l.flatMap cellsI).toArray 25)).heap.size (some ⟨w.heap.size, 0, none⟩) l.length l.length l :=
  (Row.of_made (size := 5) (c := l.length) w (l.flatMap cellsI) (flatMap_len l fun _ _ => rfl) (by unfold maxLen; omega) h0).slice (R := repIns) (by decide) rfl fun x hx => ⟨rfl, hw x hx⟩
set_option maxHeartbeats 2000000 in
theorem fixed_any (w : World) : Calls Try.prog 7 #[] w fun e w' => e = .returned (.bool true) ∧ New w w' := by
  have H := fun W op x => ins_any op x W
  have hN : New w w := Kept.refl _ _
  have HG := Lib.hid (fun W => made_ins W good good_wf (by decide) (by decide))
  have HP := Lib.hid (fun W => made_ins W poor poor_wf (by decide) (by decide))
  go_enter Try.func7, Try.ntmps7
  go_wp2_with (refine (H _ _ _).mono ?_; rintro e w1 ⟨rfl, hw⟩; have hN1 := hN.trans hw; clear hw hN; have hN := hN1; clear hN1)
  have hs1 := HG.out w1
  have hn1 : New w (w1.alloc (.cells (good.flatMap cellsI).toArray 25)) := hN.alloc _
  clear hN
  refine (long_any (locks := 2) hs1).mono ?_
  rintro e w2 ⟨hw2, m, er, at_, rfl, hr⟩
  obtain ⟨rfl, rfl, rfl⟩ := hr.det good_longest
  have hs2 := (hs1.kept hw2 (Nat.le_refl _) fun _ _ h => h).more hw2.size
  have hn2 := hn1.trans hw2
  generalize w1.heap.size = g at *
  clear hs1 hn1 hw2 hr
  have HS2 := Lib.hid hs2
  have HN2 := Lib.hid hn2
  clear hs2 hn2
  go_wp2_with fail
  refine (check_any (locks := 2) (hold := 2) HS2.out (by decide)).mono ?_
  rintro e w3 ⟨hw3, er, at_, rfl, hr⟩
  obtain ⟨rfl, rfl⟩ := hr.det good_two
  have hs3 := (HS2.out.kept hw3 (Nat.le_refl _) fun _ _ h => h).more hw3.size
  have hN := HN2.out.trans hw3
  have hN3 : New w3 w3 := Kept.refl _ _
  clear hr hw3 HS2 HN2
  have HS3 := Lib.hid hs3
  clear hs3
  go_wp2_with (refine (H _ _ _).mono ?_; rintro e w4 ⟨rfl, hw⟩; have hN1 := hN.trans hw; have hN4 := hN3.trans hw; clear hw hN hN3; have hN := hN1; have hN3 := hN4; clear hN1 hN4)
  have hs4 := HP.out w4
  have hn4 : New w (w4.alloc (.cells (poor.flatMap cellsI).toArray 25)) := hN.alloc _
  have hn34 : New w3 (w4.alloc (.cells (poor.flatMap cellsI).toArray 25)) := hN3.alloc _
  clear hN hN3
  refine (check_any (locks := 2) (hold := 5) hs4 (by decide)).mono ?_
  rintro e w5 ⟨hw5, er, at_, rfl, hr⟩
  obtain ⟨rfl, rfl⟩ := hr.det poor_five
  have hn5 := hn4.trans hw5
  have hs5 := (HS3.out.kept (hn34.trans hw5) (Nat.le_refl _) fun _ _ h => h).more (hn34.trans hw5).size
  clear hs4 hn4 hn34 hw5 hr
  generalize w4.heap.size = g2 at *
  have HS5 := Lib.hid hs5
  have HN5 := Lib.hid hn5
  clear hs5 hn5
  go_wp2_with fail
  refine (check_any (locks := 2) (hold := 3) HS5.out (by decide)).mono ?_
  rintro e w6 ⟨hw6, er, at_, rfl, hr⟩
  obtain ⟨rfl, rfl⟩ := hr.det good_three
  have hn6 := HN5.out.trans hw6
  clear hr hw6
  have HN6 := Lib.hid hn6
  clear hn6
  go_wp2_with fail
  go_ret
  exact ⟨rfl, HN6.out⟩
theorem names_walk (w : World) : Calls Try.prog 3 #[] w fun e w' => e = .returned (.bool true) ∧ New w w' := by
  have hfix := fixed_any w
  have HFIX := Lib.hid hfix
  clear hfix
  go_enter Try.func3, Try.ntmps3
  go_wp2_with fail
  refine HFIX.out.mono ?_
  rintro e w1 ⟨rfl, hw1⟩
  have HW1 := Lib.hid hw1
  clear hw1
  go_wp2_with fail
  go_ret
  exact ⟨rfl, HW1.out⟩
end Go.Proofs.Ytjhiaicpgajeoaa.Valid
