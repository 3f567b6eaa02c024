/- The walks of slices.Delete of one who waits, of package lane's Leave, of the reference's (layer 9). -/
import Derived.Test.YtnfaafdgfafcjaaLaneK
import Derived.Deep.RegionLaw
namespace Go.Proofs.Ytnfaafdgfafcjaa.Lane
open Go.RowKit Go.Fb
set_option linter.unusedVariables false
theorem run_clear_one {P : Program} (w : World) (t e ty : TypeId) (z : Value) (cs : List Value) (ht : P.underlying t = some (.slice e)) (hv : ∀ w, (zeroValue e).run P w = .ok z w) (hz : (Builtin.zeroCells z.cells 1).toList = cs) (h1 : ∀ v ∈ cs, v.oneCell' = true) (b o c : Nat)
    (hc : ∀ j, j < cs.length → (w.cell? ⟨b, o + j, none⟩).isSome = true) (hf : ∀ j, j < cs.length → w.frozen? ⟨b, o + j, none⟩ = false) :
    (Builtin.clear_ #[t] ty #[.slice (some ⟨b, o, none⟩) 1 c]).run P w = .ok (.tuple #[]) (w.setCells b o cs) := by
  have hst := run_storeCells_cells (P := P) b o cs 0 w (by simpa using hc) (by simpa using hf) h1
  simp only [Nat.add_zero] at hst
  simp [Builtin.clear_, run_underlying ht, hv, hz, hst]
set_option maxHeartbeats 2000000 in
theorem delete_any {w : World} {r : Option Nat} {A : Option Addr} {n c : Nat} {l : List (Int × Int)} (h : Row w 2 r A n c (l.flatMap cellsW)) (hn : n = l.length) (i : Nat) (hi : i < n) :
    Calls Try.prog 65 #[.slice A n c, .int .i64 (i : Int), .int .i64 ((i : Int) + 1)] w fun e w' => ∃ k, k = (l.eraseIdx i).length ∧ e = .returned (.slice A k c) ∧ Row w' 2 r A k c ((l.eraseIdx i).flatMap cellsW) ∧ Kept (fun k => r = some k) w w' := by
  have hbd := h.bound
  have hxl := h.length
  obtain ⟨g, o, rfl, rfl, h5, h6⟩ := h.at_pos (by omega)
  obtain ⟨i0, hi0, hz0, hz1, hz2⟩ := info_parts (P := Try.prog) (e := 36) (z := .agg #[.int .i64 0, .int .i64 0]) (size := 2) (bytes := 16) (by kernel_rfl)
  obtain ⟨m, hm⟩ : ∃ m, n = i + 1 + m := ⟨n - (i + 1), by omega⟩
  obtain ⟨k, hk⟩ : ∃ k, i + m = k := ⟨_, rfl⟩
  have hfl : ∀ x ∈ l, (cellsW x).length = 2 := fun x _ => rfl
  obtain ⟨news, hnews⟩ : ∃ news, news = (l.drop (i + 1)).flatMap cellsW := ⟨_, rfl⟩
  have hnl : news.length = m * 2 := by rw [hnews, flatMap_len (size := 2) _ (fun x _ => rfl), List.length_drop]; omega
  have hsplit : l.flatMap cellsW = (l.take (i + 1)).flatMap cellsW ++ news := by rw [hnews, ← List.flatMap_append, List.take_append_drop]
  have htl : ((l.take (i + 1)).flatMap cellsW).length = (i + 1) * 2 := by rw [flatMap_len (size := 2) _ (fun x _ => rfl), List.length_take]; congr 1; omega
  have hget : ∀ t, t < m * 2 → w.cell? ⟨g, o + (i + 1) * 2 + t, none⟩ = news[t]? := fun t ht => by
    rw [Nat.add_assoc, h5 _ (by omega), hsplit, List.getElem?_append_right (by omega), htl]
    congr 1; omega
  have hel : (Program.elem Try.prog 27) = 36 := by simp [Program.elem, Try.underlying27]
  have hue : (Program.underlying Try.prog 27) = some (.slice (Program.elem Try.prog 27)) := by rw [hel]; exact Try.underlying27
  have hsz : ∀ W, (sizeOf 36).run Try.prog W = .ok 2 W := fun W => by kernel_rfl
  have hsl1 : ∀ W, (Instr.slice 27 (.slice (some ⟨g, o, none⟩) n c) none (some (.int .i64 (i : Int))) none).run Try.prog W = .ok (.slice (some ⟨g, o, none⟩) i c) W := fun W => by
    rw [run_slice_h (P := Try.prog) W 27 _ n c hue .i64 (i : Int) (by omega) (by omega), hel, hsz]
    by_cases e : c = 0 <;> simp [Result.andThen, sliced, add_eq, e]
  obtain ⟨ad, had, hsl2⟩ : ∃ ad : Addr, (ad = ⟨g, o + (i + 1) * 2, none⟩ ∨ m = 0) ∧ ∀ W, (Instr.slice 27 (.slice (some ⟨g, o, none⟩) n c) (some (.int .i64 ((i : Int) + 1))) none none).run Try.prog W = .ok (.slice (some ad) m (c - (i + 1))) W := by
    refine ⟨if c = i + 1 then ⟨g, o, none⟩ else ⟨g, o + (i + 1) * 2, none⟩, ?_, fun W => ?_⟩
    · by_cases e : c = i + 1
      · exact .inr (by omega)
      · rw [if_neg e]; exact .inl rfl
    · have e1 : ((i : Int) + 1).toNat = i + 1 := by omega
      have e2 : n - (i + 1) = m := by omega
      rw [run_slice_l (P := Try.prog) W 27 _ n c hue .i64 ((i : Int) + 1) (by omega) (by omega), hel, hsz, e1]
      by_cases e : c = i + 1 <;> simp [Result.andThen, sliced, add_eq, e, e2]
  obtain ⟨A0, hsl0⟩ : ∃ A0, ∀ W, (Instr.slice 27 (.slice (some ⟨g, o, none⟩) n c) (some (.int .i64 (i : Int))) (some (.int .i64 ((i : Int) + 1))) (some (.int .i64 (n : Int)))).run Try.prog W = .ok A0 W := by
    refine ⟨sliced (some ⟨g, o, none⟩) i (i + 1) n 2, fun W => ?_⟩
    have e1 : ((i : Int) + 1).toNat = i + 1 := by omega
    have e2 : ((n : Int)).toNat = n := by omega
    have e3 : ((i : Int)).toNat = i := by omega
    rw [run_slice_lhm (P := Try.prog) W 27 _ n c hue .i64 .i64 .i64 (i : Int) ((i : Int) + 1) (n : Int) (by omega) (by omega) (by omega) (by omega), hel, hsz, e1, e2, e3]
    rfl
  have hsl3 : ∀ W, (Instr.slice 27 (.slice (some ⟨g, o, none⟩) k c) (some (.int .i64 (k : Int))) (some (.int .i64 (n : Int))) none).run Try.prog W = .ok (.slice (some ⟨g, o + k * 2, none⟩) 1 (c - k)) W := fun W => by
    have e1 : ((k : Int)).toNat = k := by omega
    have e2 : ((n : Int)).toNat = n := by omega
    rw [run_slice_lh (P := Try.prog) W 27 _ k c hue .i64 .i64 (k : Int) (n : Int) (by omega) (by omega) (by omega), hel, hsz, e1, e2]
    have e3 : ¬ c = k := by omega
    have e4 : n - k = 1 := by omega
    simp [Result.andThen, sliced, add_eq, e3, e4]
  have hsrc : ∀ t u, news[t]? = some u → w.drew.cell? (ad.add t) = some u := by
    intro t u hu
    have ht : t < m * 2 := by
      rcases Nat.lt_or_ge t news.length with h | h
      · omega
      · rw [List.getElem?_eq_none h] at hu; cases hu
    rcases had with rfl | h0
    · rw [add_eq]
      exact (hget t ht).trans hu
    · subst h0; omega
  have h1c : ∀ u ∈ news, u.oneCell' = true := by
    intro u hu
    rw [hnews] at hu
    obtain ⟨x, _, hx⟩ := List.mem_flatMap.1 hu
    simp only [cellsW, List.mem_cons, List.not_mem_nil, or_false] at hx
    rcases hx with rfl | rfl <;> rfl
  have hspare : ∀ j, j < news.length → (w.drew.cell? ⟨g, o + i * 2 + j, none⟩).isSome = true ∧ w.drew.frozen? ⟨g, o + i * 2 + j, none⟩ = false := fun j hj => by
    rw [Nat.add_assoc]
    exact h6 (i * 2 + j) (by omega)
  obtain ⟨W1, hW1⟩ : ∃ W1, W1 = w.drew.setCells g (o + i * 2) news := ⟨_, rfl⟩
  have hsome1 : ∀ j, j < c * 2 → (W1.cell? ⟨g, o + j, none⟩).isSome = true ∧ W1.frozen? ⟨g, o + j, none⟩ = false := fun j hj => by
    rw [hW1]
    exact ⟨isSome_setCells _ _ _ _ _ (h6 j hj).1, by rw [World.frozen?_setCells]; exact (h6 j hj).2⟩
  have hcl : ∀ ty, (Builtin.clear_ #[27] ty #[.slice (some ⟨g, o + k * 2, none⟩) 1 (c - k)]).run Try.prog W1 = .ok (.tuple #[]) (W1.setCells g (o + k * 2) [.int .i64 0, .int .i64 0]) := fun ty =>
    run_clear_one W1 27 36 ty (.agg #[.int .i64 0, .int .i64 0]) [.int .i64 0, .int .i64 0] Try.underlying27 (fun W => by kernel_rfl) (by kernel_rfl) (by simp [Value.oneCell']) g (o + k * 2) (c - k) (fun j hj => by rw [Nat.add_assoc]; exact (hsome1 _ (by simp at hj; omega)).1) (fun j hj => by rw [Nat.add_assoc]; exact (hsome1 _ (by simp at hj; omega)).2)
  have hne : ((i : Int) == (i : Int) + 1) = false := by simp; omega
  have hkk : Kept (fun k => some g = some k) w (W1.setCells g (o + k * 2) [.int .i64 0, .int .i64 0]) := by
    rw [hW1]
    exact Kept.setCells _ _ _ (Kept.setCells _ _ _ ((Kept.refl _ _).drew) (.inr rfl)) (.inr rfl)
  have hel2 : (l.eraseIdx i).length = k := by rw [List.length_eraseIdx, if_pos (by omega)]; omega
  have hrow : Row (W1.setCells g (o + k * 2) [.int .i64 0, .int .i64 0]) 2 (some g) (some ⟨g, o, none⟩) k c ((l.eraseIdx i).flatMap cellsW) := by
    have hti : ((l.take i).flatMap cellsW).length = i * 2 := by rw [flatMap_len (size := 2) _ (fun x _ => rfl), List.length_take]; congr 1; omega
    refine ⟨by rw [flatMap_len (size := 2) _ (fun x _ => rfl), hel2], .inr ⟨by omega, g, o, rfl, rfl, by omega, h.max, fun j hj => ?_, fun j hj => ⟨isSome_setCells _ _ _ _ _ (hsome1 j hj).1, by rw [World.frozen?_setCells]; exact (hsome1 j hj).2⟩⟩⟩
    rw [List.eraseIdx_eq_take_drop_succ, List.flatMap_append, ← hnews]
    rw [World.cell?_setCells_out g _ (o + k * 2) W1 ⟨g, o + j, none⟩ (fun _ _ => .inl (by simp only; omega)), hW1]
    by_cases hj1 : j < i * 2
    · rw [World.cell?_setCells_out g news _ w.drew ⟨g, o + j, none⟩ (fun _ _ => .inl (by simp only; omega)), List.getElem?_append_left (by omega)]
      have e : (l.flatMap cellsW) = (l.take i).flatMap cellsW ++ (l.drop i).flatMap cellsW := by rw [← List.flatMap_append, List.take_append_drop]
      have := h5 j (by omega)
      rw [e, List.getElem?_append_left (by omega)] at this
      exact this
    · rw [show o + j = o + i * 2 + (j - i * 2) by omega, World.cell?_setCells_in g news _ w.drew (fun j hj => (hspare j hj).1) (j - i * 2) (by omega), List.getElem?_append_right (by omega), hti, List.getElem?_eq_getElem (by omega)]
  have HW : Hid (w.drew.setCells g (o + i * 2) news = W1) := Lib.hid hW1.symm
  have HK : Hid (i + m = k) := Lib.hid hk
  have g1 : i ≤ c := by omega
  have g2 : i + m ≤ c := by omega
  have g3 : k < n := by omega
  have HE := Lib.hid hel2
  have HSRC := Lib.hid hsrc
  have H1C := Lib.hid h1c
  have HSPARE := Lib.hid hspare
  have HNL := Lib.hid hnl
  have HROW := Lib.hid hrow
  have HKK := Lib.hid hkk
  clear hsrc h1c hspare hnl hrow hkk
  clear h hxl h5 h6 hm hk hnews hsplit htl hget had hsome1 hfl hW1 hel hue hsz hel2 hn
  go_enter Try.func65, Try.ntmps65
  go_wp2_with fail
  go_region_law (refine step_append_room rfl (.tmp 22) (.tmp 25) 27 rfl 36 i0 2 Try.underlying27 hi0 hz1 g o i c (by simp [Act.eval, Act.put]) ad m (c - (i + 1)) news (by simp [Act.eval, Act.put]) HNL.out HSRC.out H1C.out g2 HSPARE.out ?_; rw [HW.out, HK.out])
  go_wp2_with fail
  go_ret
  exact ⟨k, HE.out.symm, by simp [Array.getD], HROW.out, HKK.out⟩
end Go.Proofs.Ytnfaafdgfafcjaa.Lane
