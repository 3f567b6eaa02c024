/- Numbers in memory of their own, with marks behind them: the walks of the law's room and kept (layer 12). -/
import Derived.Test.YtjjlemkmdldljaaLocksK
namespace Go.Proofs.Ytjjlemkmdldljaa.Locks
open Go.RowKit Go.Fb
set_option linter.unusedVariables false
/-- The numbers lie at a block's head, the marks behind them. -/
def RoomAt (w : World) (r : Option Nat) (A : Option Addr) (n c : Nat) (l : List Int) : Prop :=
  n = l.length ∧ Row w 1 r A (n + 2) c ((l ++ [-77, -78]).map (Value.int .i64))
section
variable {w w' : World} {r : Option Nat} {A : Option Addr} {n c : Nat} {l : List Int}
theorem RoomAt.kept {G : Nat → Prop} (h : RoomAt w r A n c l) (hk : Kept G w w') (hg : ∀ k, r = some k → ¬ G k) : RoomAt w' r A n c l := ⟨h.1, h.2.of_kept (by decide) hk hg⟩
theorem RoomAt.row (h : RoomAt w r A n c l) : Row w 1 r A n c (l.map (Value.int .i64)) := by
  obtain ⟨h1, h3⟩ := h
  have := h3.head (k := n) (by omega)
  rw [Nat.mul_one, List.map_append, List.take_left' (by rw [List.length_map]; exact h1.symm)] at this
  exact this
theorem RoomAt.marks (h : RoomAt w r A n c l) : ∃ g o, r = some g ∧ A = some ⟨g, o, none⟩ ∧ w.cell? ⟨g, o + n, none⟩ = some (.int .i64 (-77)) ∧ w.cell? ⟨g, o + (n + 1), none⟩ = some (.int .i64 (-78)) := by
  obtain ⟨h1, h3⟩ := h
  obtain ⟨g, o, e1, e2, h5, h6⟩ := h3.at_pos (by have := h3.le; omega)
  refine ⟨g, o, e1, e2, ?_, ?_⟩
  · rw [h5 n (by omega), List.getElem?_map, List.getElem?_append_right (by omega), ← h1, Nat.sub_self]; rfl
  · rw [h5 (n + 1) (by omega), List.getElem?_map, List.getElem?_append_right (by omega), ← h1, Nat.add_sub_cancel_left]; rfl
end
theorem intsrc {w : World} {B : Nat} {A : Option Addr} {n c : Nat} {l : List Int} (h : SliceOf (Rep.int .i64) w B A n c l) : Go.Src Try.prog 1 35 (.slice A n c) n (l.map (Value.int .i64)) w := by
  have := SliceOf.src (R := Rep.int .i64) (f := fun x => [Value.int .i64 x]) (by intro w B x cs h; exact h.1) (by intro x u hu; rw [List.mem_singleton.1 hu]; rfl) (P := Try.prog) Try.underlying35 h
  have e : l.map (Value.int .i64) = l.flatMap fun x => [Value.int .i64 x] := by clear this h; induction l <;> simp_all [List.flatMap_cons]
  rw [e]; exact this
set_option maxHeartbeats 1000000 in
theorem room_any {w : World} {B : Nat} {A : Option Addr} {n c : Nat} {l : List Int} (h : SliceOf (Rep.int .i64) w B A n c l) (hB : B ≤ w.heap.size) (hn : n ≤ 1048576) : Calls Try.prog 18 #[.slice A n c] w fun e w' =>
    ∃ r' A' c', e = .returned (.slice A' n c') ∧ RoomAt w' r' A' n c' l ∧ (∀ k, r' = some k → w.heap.size ≤ k) ∧ New w w' := by
  have hl := h.len
  have HSRC : Hid (∀ W, New w W → Go.Src Try.prog 1 35 (.slice A n c) n (l.map (Value.int .i64)) W) := Lib.hid fun W hW => intsrc (h.kept hW hB fun _ _ h => h)
  have hb := h.bound
  obtain ⟨z, cs, hz, hcs, hcl, hmk⟩ := run_make_ty (P := Try.prog) tyInts (li := 0) (ci := (n : Int) + 2) 0 (n + 2) rfl (by omega) (by omega) (by omega) (by omega)
  obtain ⟨r0, hr0, hf0⟩ := Row.of_make (T := 3) (size := 1) w cs (n + 2) hcl (by unfold maxLen; omega)
  have hn0 : New w (w.alloc (.cells cs.toArray 3)) := (Kept.refl _ _).alloc _
  clear hcs hz h
  have HL := Lib.hid hl
  have HR0 := Lib.hid hr0
  have HF0 := Lib.hid hf0
  have HN0 := Lib.hid hn0
  clear hl hr0 hf0 hn0
  go_enter Try.func18, Try.ntmps18
  go_upto_region 2 with (at_builtin; refine wpList_append_row tyInts rfl (.tmp 7) (.tmp 8) rfl rfl HR0.out rfl (HSRC.out _ HN0.out) (by unfold maxLen; omega) (by omega) ?_; intro r2 A2 c2 w2 hr2 hk2 hn2; have HR2 := Lib.hid hr2; have HN2 : Hid (New w w2) := Lib.hid (HN0.out.step hk2 fun k hk e => by have := HF0.out k e; omega); have HF2 : Hid (∀ k, r2 = some k → w.heap.size ≤ k) := Lib.hid fun k e => (hn2 k e).elim (fun e => Nat.le_of_eq (HF0.out k e).symm) (fun e => Nat.le_trans HN0.out.size e); clear hr2 hk2 hn2)
  rw [List.nil_append, Nat.zero_add] at HR2
  go_wp2_with (at_builtin; refine wpList_append_many (cs := [.int .i64 (-77), .int .i64 (-78)]) (m := 2) tyInts rfl (.tmp 10) (.tmp 11) rfl rfl HR2.out rfl rfl (by rfl) (by intro u hu; simp only [List.mem_cons, List.not_mem_nil, or_false] at hu; rcases hu with rfl | rfl <;> rfl) (by unfold maxLen; omega) (by omega) ?_; intro r3 A3 c3 w3 hr3 hk3 hn3; have hb3 := hr3.bound; obtain ⟨g3, o3, e3, rfl, -, -⟩ := hr3.at_pos (by omega); have HR3 := Lib.hid hr3; have HN3 : Hid (New w w3) := Lib.hid (HN2.out.step hk3 fun k hk e => by have := HF2.out k e; omega); have HF3 : Hid (∀ k, r3 = some k → w.heap.size ≤ k) := Lib.hid fun k e => (hn3 k e).elim (fun e => HF2.out k e) (fun e => Nat.le_trans HN2.out.size e); clear hr3 hk3 hn3 e3)
  go_ret
  exact ⟨r3, _, c3, rfl, ⟨HL.out, by rw [List.map_append]; exact HR3.out⟩, HF3.out, HN3.out⟩
set_option maxHeartbeats 1000000 in
theorem ints_read {w : World} {A1 A2 : Option Addr} {n1 n2 c1 c2 : Nat} {a b : List Int} (l1 : a.length = n1) (l2 : b.length = n2) (hb1 : n1 ≤ c1 ∧ c1 ≤ 9223372036854775807) (hb2 : n2 ≤ c2 ∧ c2 ≤ 9223372036854775807)
    (h1 : ∀ j, j < n1 → ∃ g o, A1 = some ⟨g, o, none⟩ ∧ w.cell? ⟨g, o + j, none⟩ = some (.int .i64 (a.getD j 0))) (h2 : ∀ j, j < n2 → ∃ g o, A2 = some ⟨g, o, none⟩ ∧ w.cell? ⟨g, o + j, none⟩ = some (.int .i64 (b.getD j 0))) :
    Calls Try.prog 28 #[.slice A1 n1 c1, .slice A2 n2 c2] w fun e w' => e = .returned (.bool (decide (a = b))) ∧ ∃ q, w' = w.drewN q := by
  by_cases hn : n1 = n2
  · subst hn
    have R1 := Lib.hid (fun j (hj : j < n1) => h1 j hj)
    have R2 := Lib.hid (fun j (hj : j < n1) => h2 j hj)
    have H1 := Lib.hid (fun j (hj : j < n1) (ht : a.take j = b.take j) (e : a.getD j 0 = b.getD j 0) => show a.take (j + 1) = b.take (j + 1) from
      take_eq_succ (by omega) (by omega) ht (by simpa [List.getD_eq_getElem?_getD, List.getElem?_eq_getElem (show j < a.length by omega), List.getElem?_eq_getElem (show j < b.length by omega)] using e))
    have H2 := Lib.hid (fun j (hj : j < n1) (e : a.getD j 0 ≠ b.getD j 0) => show decide (a = b) = false from decide_eq_false fun h => e (by rw [h]))
    have H3 := Lib.hid (fun (ht : a.take n1 = b.take n1) => show decide (a = b) = true from decide_eq_true (by
      rw [List.take_of_length_le (by omega), List.take_of_length_le (by omega)] at ht; exact ht))
    generalize decide (a = b) = res at *
    have G1 := Lib.hid h1
    have G2 := Lib.hid h2
    have L1 := Lib.hid l1
    have L2 := Lib.hid l2
    clear h1 h2 l1 l2
    go_enter Try.func28, Try.ntmps28
    go_wp2_with fail
    go_loopw [5] (fun i wr => ∃ j : Nat, j ≤ n1 ∧ i = .int .i64 j ∧ (∃ q, wr = w.drewN q) ∧ Hid (a.take j = b.take j)) (fun i _ => (n1 - intOf i).toNat)
    case atStart => exact ⟨0, Nat.zero_le _, rfl, ⟨0, rfl⟩, Lib.hid rfl⟩
    case round =>
      obtain ⟨j, hj, rfl, ⟨q, rfl⟩, D⟩ := hrel
      by_cases hlt : j < n1
      · obtain ⟨g, o, rfl, x1⟩ := R1.out j hlt
        obtain ⟨g', o', rfl, x2⟩ := R2.out j hlt
        have D2 := Lib.hid (fun e => H1.out j hlt D.out e)
        have D3 := Lib.hid (fun e => H2.out j hlt e)
        generalize a.getD j 0 = u at *
        generalize b.getD j 0 = v at *
        have e2 : (0 : Int) ≤ (j : Int) := by omega
        have e3 : (j : Int) < (n1 : Int) := by omega
        by_cases he : u = v
        · subst he
          have D4 := Lib.hid (D2.out rfl)
          go_wp2_with fail
          go_quiet (fail)
          go_wp2_with fail
          go_roundw
          case rel => exact ⟨j + 1, by omega, by go_num, ⟨_, by first | rfl | exact World.drewN_drewN _ _ _⟩, D4⟩
          case measure => simp [intOf]; omega
        · have E := Lib.hid (D3.out he)
          have he' : (u != v) = true := by simpa using he
          clear he
          go_wp2_with fail
          go_quiet (fail)
          go_wp2_with fail
          go_ret
          exact ⟨by rw [E.out]; rfl, _, by first | rfl | exact World.drewN_drewN _ _ _⟩
      · obtain rfl : j = n1 := by omega
        have E := Lib.hid (H3.out D.out)
        go_wp2_with fail
        go_ret
        exact ⟨by rw [E.out]; rfl, q, rfl⟩
  · have E := Lib.hid (show decide (a = b) = false from decide_eq_false fun h => hn (by rw [← l1, ← l2, h]))
    have hn' : (n1 != n2) = true := by simpa using hn
    have hn2 : ((n1 : Int) != (n2 : Int)) = true := by simp; omega
    have H1 := Lib.hid h1
    have H2 := Lib.hid h2
    have L1 := Lib.hid l1
    have L2 := Lib.hid l2
    clear h1 h2 l1 l2
    clear hn
    go_enter Try.func28, Try.ntmps28
    go_wp2_with fail
    go_ret
    exact ⟨by rw [E.out]; rfl, 0, rfl⟩
theorem ints_rd {w : World} {r : Option Nat} {A : Option Addr} {n c : Nat} {q : List Int} (h : Row w 1 r A n c (q.map (Value.int .i64))) (j : Nat) (hj : j < n) : ∃ g o, A = some ⟨g, o, none⟩ ∧ w.cell? ⟨g, o + j, none⟩ = some (.int .i64 (q.getD j 0)) := by
  obtain ⟨g, o, -, h1, h2, -⟩ := ints_at h j hj
  exact ⟨g, o, h1, h2⟩
theorem ints_sl {w : World} {B : Nat} {A : Option Addr} {n c : Nat} {q : List Int} (h : SliceOf (Rep.int .i64) w B A n c q) (j : Nat) (hj : j < n) : ∃ g o, A = some ⟨g, o, none⟩ ∧ w.cell? ⟨g, o + j, none⟩ = some (.int .i64 (q.getD j 0)) := by
  obtain ⟨g, o, h1, _, h2⟩ := h.ints (by omega)
  have hl := h.len
  exact ⟨g, o, h1, by rw [h2 j (by omega), getD_nat _ _ _ (by omega)]⟩
set_option maxHeartbeats 1000000 in
theorem kept_any {w : World} {B : Nat} {r A' : Option Addr} {c' : Nat} {A : Option Addr} {n c : Nat} {l : List Int} {r' : Option Nat} (hr : RoomAt w r' A' n c' l) (h : SliceOf (Rep.int .i64) w B A n c l) : Calls Try.prog 20 #[.slice A' n c', .slice A n c] w fun e w' => e = .returned (.bool true) ∧ ∃ q, w' = w.drewN q := by
  have hi := ints_read (a := l) (b := l) h.len.symm h.len.symm hr.row.bound h.bound (fun j hj => ints_rd hr.row j hj) (fun j hj => ints_sl h j hj)
  rw [decide_eq_true rfl] at hi
  obtain ⟨g, o, -, rfl, x0, x1⟩ := hr.marks
  have hb := hr.2.bound
  have hw : IntKind.i64.wrap ((n : Int) + 2) = (n : Int) + 2 := IntWalk.i64_in _ (by omega)
  have hw1 : IntKind.i64.wrap ((n : Int) + 1) = (n : Int) + 1 := IntWalk.i64_in _ (by omega)
  have HI := Lib.hid hi
  clear hi
  clear hr h
  go_enter Try.func20, Try.ntmps20
  go_wp2_with fail
  refine HI.out.mono ?_
  rintro e w1 ⟨rfl, q, rfl⟩
  go_wp2_with fail
  go_ret
  exact ⟨rfl, q, rfl⟩
end Go.Proofs.Ytjjlemkmdldljaa.Locks
