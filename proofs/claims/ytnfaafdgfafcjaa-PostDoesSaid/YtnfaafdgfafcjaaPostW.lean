/- The walks of post's New and the reference's (layer 10). -/
import Derived.Test.YtnfaafdgfafcjaaPostV
namespace Go.Proofs.Ytnfaafdgfafcjaa.Lane
open Go.RowKit Go.Fb
set_option linter.unusedVariables false
theorem made_flat (z : Array Value) (n : Nat) (hz : 0 < z.size) : (madeCells z (n * z.size)).toList = (List.replicate n ()).flatMap fun _ => z.toList := by
  refine List.ext_getElem? fun j => ?_
  have hl : ((List.replicate n ()).flatMap fun _ => z.toList).length = n * z.size := by
    rw [flatMap_len (f := fun _ => z.toList) (size := z.size) _ (by intro x hx; simp)]; simp
  by_cases hj : j < n * z.size
  · have hi : j / z.size < n := Nat.div_lt_of_lt_mul (by rw [Nat.mul_comm]; exact hj)
    have hm := Nat.mod_lt j hz
    have h1 := flatMap_get (f := fun _ : Unit => z.toList) (size := z.size) (List.replicate n ()) (by intro x hx; simp) (j / z.size) (by simpa using hi) (j % z.size) hm
    have he : j / z.size * z.size + j % z.size = j := by rw [Nat.mul_comm]; exact Nat.div_add_mod j z.size
    rw [he] at h1
    rw [h1]
    simp [madeCells, hj, hm]
  · rw [List.getElem?_eq_none (by simp [size_madeCells]; omega), List.getElem?_eq_none (by omega)]
/-- A list that was just made, of zero things. -/
theorem OSl_zeros {α : Type} {O : ORep α} {w : World} {T : TypeId} {x : α} {cs : List Value} (n : Nat) (hm : n ≤ maxLen) (hl : cs.length = O.size) (hx : ∀ w, O.own w (fun _ => False) x cs) :
    OSl O (w.alloc (.cells ((List.replicate n ()).flatMap fun _ => cs).toArray T)) (fun k => k = w.heap.size) (some ⟨w.heap.size, 0, none⟩) n n (List.replicate n x) := by
  have hlen : ((List.replicate n ()).flatMap fun _ => cs).length = n * O.size := by
    rw [flatMap_len (f := fun _ => cs) (size := O.size) _ (by intro x hx; exact hl)]; simp
  have he : (List.replicate n x).flatMap (fun _ => cs) = (List.replicate n ()).flatMap fun _ => cs := by
    induction n with
    | zero => rfl
    | succ n ih => simp only [List.replicate_succ, List.flatMap_cons]; rw [ih (by omega) (by
        rw [flatMap_len (f := fun _ => cs) (size := O.size) _ (by intro x hx; exact hl)]; simp)]
  by_cases h0 : 0 < n
  · have hr := Row.of_made (T := T) w _ hlen hm h0
    rw [← he] at hr ⊢
    exact OSl.of_row (f := fun _ => cs) hr (fun _ _ => hl) (by simp) (fun k e => by injection e with e; exact e.symm) (fun y hy => by rw [List.eq_of_mem_replicate hy]; exact hx _)
  · obtain rfl : n = 0 := by omega
    exact ⟨none, [], fun _ _ => False, ⟨by simp, .inl ⟨rfl, rfl, rfl⟩⟩, rfl, by simp, by simp, by simp, fun i hi => absurd hi (Nat.not_lt_zero _)⟩
def zLaneC : List Value := tellC (empty 1) none 0 none 0
theorem own_zLane (w : World) : tellO.own w (fun _ => False) (empty 1) zLaneC := ⟨none, none, 0, none, none, 0, rfl, ⟨rfl, .inl ⟨rfl, rfl, rfl⟩⟩, ⟨rfl, .inl ⟨rfl, rfl, rfl⟩⟩, by simp, by simp, by simp⟩
theorem make_lanes (n : Nat) (hn : n ≤ 1048576) : ∀ w, (Instr.makeSlice 22 (.int .i64 n) (.int .i64 n)).run Try.prog w = .ok (.slice (some ⟨w.heap.size, 0, none⟩) n n) (w.alloc (.cells ((List.replicate n ()).flatMap fun _ => zLaneC).toArray 29)) := by
  obtain ⟨z, cs, ⟨i, hi, hz⟩, hcs, hl, hmk⟩ := run_make_ty (P := Try.prog) tyLanes (li := (n : Int)) (ci := (n : Int)) n n rfl rfl (Nat.le_refl _) (by omega) (by omega)
  have hz2 : ((Try.prog.info? 29).bind (·.zero)).map (·.cells) = some zLaneC.toArray := by kernel_rfl
  rw [hi] at hz2
  have hz3 : z.cells = zLaneC.toArray := by simpa [hz] using hz2
  have e : cs = (List.replicate n ()).flatMap fun _ => zLaneC := by
    rw [hcs, hz3]
    exact made_flat zLaneC.toArray n (by decide)
  rw [← e]
  exact hmk
theorem zero_lanes (w : World) (T : TypeId) (n : Nat) (hn : n ≤ 1048576) : SliceOf repT (w.alloc (.cells ((List.replicate n ()).flatMap fun _ => zLaneC).toArray T)) (w.alloc (.cells ((List.replicate n ()).flatMap fun _ => zLaneC).toArray T)).heap.size (some ⟨w.heap.size, 0, none⟩) n n (List.replicate n (empty 1)) :=
  OSl.read tell_reads (OSl_zeros (O := tellO) n (by unfold maxLen; omega) rfl own_zLane)
theorem lay_zeros {n : Nat} {room : Int} (h : 1 ≤ n ∧ n ≤ 9 ∧ 1 ≤ room ∧ room ≤ 64) : layPErr room (List.replicate n (empty 1)) 0 = 0 := by
  refine layP_ok (by rw [List.length_replicate]; omega) (by rw [List.length_replicate]; omega) fun L hL => ?_
  rw [List.eq_of_mem_replicate hL]
  refine ⟨by show (0 : Int) ≤ room; omega, .inl rfl, ⟨by show (0 : Int) ≤ 0; omega, by show (0 : Int) ≤ 65535; omega⟩, ⟨by show (0 : Int) ≤ 0; omega, by show (0 : Int) ≤ 65535; omega⟩, rfl⟩
def NewPostP (TP TL : TypeId) (w : World) (n room : Int) (e : Ending) (w' : World) : Prop := New w w' ∧ (((1 ≤ n ∧ n ≤ 9 ∧ 1 ≤ room ∧ room ≤ 64) ∧ ∃ b F, e = .returned (.tuple #[.pointer (some ⟨b, 0, none⟩), .int .i64 0]) ∧ PAtT TP TL w' b F (List.replicate n.toNat (empty room)) 0 ∧ ∀ k, F k → w.heap.size ≤ k) ∨
  (¬ (1 ≤ n ∧ n ≤ 9 ∧ 1 ≤ room ∧ room ≤ 64) ∧ e = .returned (.tuple #[.pointer none, .int .i64 1])))
set_option maxHeartbeats 2000000 in
theorem pnew_any (n room : Int) (w : World) : Calls Try.prog 14 #[.int .i64 n, .int .i64 room] w (NewPostP 58 87 w n room) := by
  by_cases h : 1 ≤ n ∧ n ≤ 9 ∧ 1 ≤ room ∧ room ≤ 64
  · obtain ⟨h1, h2, h3, h4⟩ := h
    obtain ⟨m, rfl⟩ : ∃ m : Nat, n = m := ⟨n.toNat, by omega⟩
    have HMK := Lib.hid (make_lanes m (by omega))
    have HL := Lib.hid (play_any room 0 (zero_lanes w 29 m (by omega)) (Nat.le_refl _) (fun L hL q hq => by rw [List.eq_of_mem_replicate hL] at hq; cases hq) (fun L hL => by rw [List.eq_of_mem_replicate hL]; exact ⟨by show 0 ≤ _; omega, by show 0 ≤ _; omega⟩))
    have HZ := Lib.hid (lay_zeros (n := m) (room := room) ⟨by omega, by omega, h3, h4⟩)
    have n1 : New w (w.alloc (.cells ((List.replicate m ()).flatMap fun _ => zLaneC).toArray 29)) := (Kept.refl _ _).alloc _
    have hm1 := HMK.out w
    generalize ((List.replicate m ()).flatMap fun _ => zLaneC).toArray = cs at *
    have N1 := Lib.hid n1
    clear n1
    clear HMK
    go_enter Try.func14, Try.ntmps14
    go_wp2_with fail
    refine HL.out.mono ?_
    rintro e w2 ⟨hn2, ⟨h0, b, F, rfl, hA, hF⟩ | ⟨h0, rfl⟩⟩
    · have hs := N1.out.size
      rw [List.map_replicate] at hA
      have HA := Lib.hid hA
      have HN2 := Lib.hid (N1.out.trans hn2)
      have HF := Lib.hid (fun k hk => Nat.le_trans hs (hF k hk))
      clear hA hn2 hF h0
      go_wp2_with fail
      go_ret2
      exact ⟨HN2.out, .inl ⟨⟨by omega, h2, h3, h4⟩, b, F, rfl, HA.out, HF.out⟩⟩
    · exact absurd HZ.out h0
  · go_enter Try.func14, Try.ntmps14
    go_wp2
    all_goals (first | (go_ret2; exact ⟨Kept.refl _ _, .inr ⟨h, by rfl⟩⟩) | (exfalso; omega))
set_option maxHeartbeats 2000000 in
theorem rpnew_any (n room : Int) (w : World) : Calls Try.prog 15 #[.int .i64 n, .int .i64 room] w (NewPostP 72 91 w n room) := by
  by_cases h : 1 ≤ n ∧ n ≤ 9 ∧ 1 ≤ room ∧ room ≤ 64
  · obtain ⟨h1, h2, h3, h4⟩ := h
    obtain ⟨m, rfl⟩ : ∃ m : Nat, n = m := ⟨n.toNat, by omega⟩
    have HMK := Lib.hid (make_lanes m (by omega))
    have HL := Lib.hid (rplay_any room 0 (zero_lanes w 29 m (by omega)) (Nat.le_refl _) (fun L hL => by rw [List.eq_of_mem_replicate hL]; exact ⟨by show 0 ≤ _; omega, by show 0 ≤ _; omega⟩))
    have HZ := Lib.hid (lay_zeros (n := m) (room := room) ⟨by omega, by omega, h3, h4⟩)
    have n1 : New w (w.alloc (.cells ((List.replicate m ()).flatMap fun _ => zLaneC).toArray 29)) := (Kept.refl _ _).alloc _
    have hm1 := HMK.out w
    generalize ((List.replicate m ()).flatMap fun _ => zLaneC).toArray = cs at *
    have N1 := Lib.hid n1
    clear n1
    clear HMK
    go_enter Try.func15, Try.ntmps15
    go_wp2_with fail
    refine HL.out.mono ?_
    rintro e w2 ⟨hn2, ⟨h0, b, F, rfl, hA, hF⟩ | ⟨h0, rfl⟩⟩
    · have hs := N1.out.size
      rw [List.map_replicate] at hA
      have HA := Lib.hid hA
      have HN2 := Lib.hid (N1.out.trans hn2)
      have HF := Lib.hid (fun k hk => Nat.le_trans hs (hF k hk))
      clear hA hn2 hF h0
      go_wp2_with fail
      go_ret2
      exact ⟨HN2.out, .inl ⟨⟨by omega, h2, h3, h4⟩, b, F, rfl, HA.out, HF.out⟩⟩
    · exact absurd HZ.out h0
  · go_enter Try.func15, Try.ntmps15
    go_wp2
    all_goals (first | (go_ret2; exact ⟨Kept.refl _ _, .inr ⟨h, by rfl⟩⟩) | (exfalso; omega))
end Go.Proofs.Ytnfaafdgfafcjaa.Lane
