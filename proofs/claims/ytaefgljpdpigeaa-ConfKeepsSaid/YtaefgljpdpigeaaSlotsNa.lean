/- The walk of package slots' New, where nothing else of the package is there (layers 3, 14). -/
import Derived.Test.YtaefgljpdpigeaaSlotsP
import Derived.Test.YtaefgljpdpigeaaConfW
import Derived.Test.YtaefgljpdpigeaaKeep
import Derived.WalkSpells
namespace Go.Proofs.Ytaefgljpdpigeaa.Slots
open Go.RowKit Go.Fb Go.SlotsP
set_option linter.unusedVariables false

theorem tyInts : SliceTy Try.prog 23 3 1 8 := by
  obtain ⟨i, hi, hz, hs, hb⟩ := info_parts (P := Try.prog) (e := 3) (z := .int .i64 0) (size := 1) (bytes := 8) (by kernel_rfl)
  exact ⟨Try.underlying23, ⟨i, _, hi, hz, hs, hb, rfl⟩, by decide⟩
theorem map_flat (T : List Int) : T.map (Value.int .i64) = T.flatMap fun x => [Value.int .i64 x] := by induction T <;> simp_all [List.flatMap_cons]
theorem ints_src {w : World} {B : Nat} {A : Option Addr} {n c : Nat} {T : List Int} (h : SliceOf (Rep.int .i64) w B A n c T) : Go.Src Try.prog 1 23 (.slice A n c) n (T.map (Value.int .i64)) w := by
  rw [map_flat]
  exact SliceOf.src (R := Rep.int .i64) (f := fun x => [Value.int .i64 x]) (fun h => h.1) (by intro x u hu; rw [List.mem_singleton.1 hu]; rfl) Try.underlying23 h
theorem row_ints {w : World} {r : Option Nat} {A : Option Addr} {n c : Nat} {T : List Int} (h : Row w 1 r A n c (T.map (Value.int .i64))) (hn : 0 < n) :
    n = T.length ∧ ∃ g o, r = some g ∧ A = some ⟨g, o, none⟩ ∧ ∀ i (hi : i < T.length), w.cell? ⟨g, o + i, none⟩ = some (.int .i64 T[i]) := by
  have hl := h.length
  rw [List.length_map, Nat.mul_one] at hl
  obtain ⟨g, o, e1, e2, h5, _⟩ := h.at_pos (by have := h.le; omega)
  refine ⟨hl.symm, g, o, e1, e2, fun i hi => ?_⟩
  rw [h5 i (by omega), List.getElem?_map, List.getElem?_eq_getElem hi]
  rfl
theorem clone_any (A : Option Addr) (n c : Nat) (T : List Int) (w : World) (hl : SliceOf (Rep.int .i64) w w.heap.size A n c T) (hpos : 0 < n) (hn : n ≤ 1048576) :
    Calls Try.prog 67 #[.slice A n c] w fun e w' => ∃ r A' c', e = .returned (.slice A' n c') ∧ Row w' 1 r A' n c' (T.map (Value.int .i64)) ∧ (∀ k, r = some k → w.heap.size ≤ k) ∧ New w w' := by
  obtain ⟨b, o, rfl, hb', hc⟩ := hl.ints hpos
  have hbd := hl.bound
  have hsrc := ints_src (hl.alloc (Nat.le_refl _) (.cells #[] 3))
  have q := fun (w : World) => Lib.run_eql_slice_nil (P := Try.prog) w 23 3 (some ⟨b, o, none⟩) n c 0 0 Try.underlying23
  have hrow0 : Row (w.alloc (.cells #[] 3)) 1 none (some ⟨w.heap.size, 0, none⟩) 0 0 [] := ⟨rfl, .inl ⟨rfl, rfl, rfl⟩⟩
  have HL := Lib.hid hl
  have HC := Lib.hid hc
  have HSRC := Lib.hid hsrc
  have HROW0 := Lib.hid hrow0
  clear hl hc hsrc hrow0
  go_enter Try.func67, Try.ntmps67
  go_wp2_with (at_builtin; refine wpList_append_row tyInts rfl (.tmp 5) (.tmp 6) rfl rfl HROW0.out rfl HSRC.out (by unfold maxLen; omega) (by omega) ?_; intro r2 A2 c2 w2 hr2 hk2 hn2; rw [Nat.zero_add, List.nil_append] at hr2; have HR2 := Lib.hid hr2; have HK2 := Lib.hid hk2; have HN2 := Lib.hid hn2; clear hr2 hk2 hn2)
  go_ret
  refine ⟨r2, A2, c2, by simp [Array.getD], HR2.out, fun k hk => ?_, ((Kept.refl _ _).alloc _).step HK2.out fun i hi e => by cases e⟩
  rcases HN2.out k hk with h | h
  · cases h
  · rw [← size1] at h; omega
def bad (parts x : Int) : Bool := decide (x < 0) || decide (parts ≤ x)
theorem bad_any (parts x : Int) (pb : Nat) (w : World) (hp : w.cell? ⟨pb, 0, none⟩ = some (.int .i64 parts)) : Calls Try.prog 66 #[.int .i64 x, .pointer (some ⟨pb, 0, none⟩)] w fun e w' => e = .returned (.bool (bad parts x)) ∧ w = w' := by
  by_cases h0 : x < 0
  · have E := Lib.hid (show bad parts x = true by simp [bad, h0])
    go_enter Try.func66, Try.ntmps66
    go_wp2
    go_ret
    exact ⟨by rw [E.out]; rfl, rfl⟩
  · have E := Lib.hid (show bad parts x = decide (parts ≤ x) by simp [bad, h0])
    have h1 : 0 ≤ x := by omega
    clear h0
    go_enter Try.func66, Try.ntmps66
    go_wp2
    go_ret
    exact ⟨by rw [E.out]; simp [Array.getD]; omega, rfl⟩
/-- What is wrong with a table, and where. -/
def newE (T : List Int) (parts : Int) : Int × Int :=
  if parts < 1 ∨ 8 < parts ∨ T.length = 0 then (1, 0) else if 64 < T.length then (3, 64)
  else if T.findIdx (bad parts) < T.length then (2, (T.findIdx (bad parts) : Nat)) else (0, 0)
/-- Where the first wrong entry is; below 0: nowhere. -/
def badAt (parts : Int) (T : List Int) : Int := if T.findIdx (bad parts) < T.length then (T.findIdx (bad parts) : Nat) else -1
theorem badAt_hit {parts : Int} {T : List Int} {k : Nat} (hk : k < T.length) (h1 : ∀ j (hj : j < T.length), j < k → bad parts T[j] = false) (h2 : bad parts T[k] = true) : T.findIdx (bad parts) = k := by
  refine (List.findIdx_eq hk).2 ⟨h2, fun j hj => by rw [h1 j (by omega) hj]⟩
theorem badAt_miss {parts : Int} {T : List Int} (h1 : ∀ j (hj : j < T.length), bad parts T[j] = false) : T.findIdx (bad parts) = T.length := by
  refine List.findIdx_eq_length.2 fun x hx => ?_
  obtain ⟨j, hj, rfl⟩ := List.mem_iff_getElem.1 hx
  rw [h1 j hj]
theorem indexFunc_any (A : Option Addr) (n c : Nat) (T : List Int) (parts : Int) (pb : Nat) (w : World) (hl : SliceOf (Rep.int .i64) w w.heap.size A n c T) (hp : w.cell? ⟨pb, 0, none⟩ = some (.int .i64 parts)) (hpos : 0 < n) :
    Calls Try.prog 65 #[.slice A n c, .func (.func 66) #[] #[.pointer (some ⟨pb, 0, none⟩)]] w fun e w' => e = .returned (.int .i64 (badAt parts T)) ∧ w = w' := by
  obtain ⟨b, o, rfl, hb', hc⟩ := hl.ints hpos
  have hbd := hl.bound
  have hn := hl.len
  have hcall := fun x => bad_any parts x pb w hp
  have HL := Lib.hid hl
  have HC := Lib.hid hc
  have HN := Lib.hid hn
  have HCALL := Lib.hid hcall
  clear hl hc hn hcall
  clear hp
  go_enter Try.func65, Try.ntmps65
  go_wp2
  go_loop [8] (fun i => ∃ j : Nat, j ≤ n ∧ i = .int .i64 j ∧ Hid (∀ i (hi : i < T.length), i < j → bad parts T[i] = false)) (fun i => (n - intOf i).toNat)
  case atStart => exact ⟨0, Nat.zero_le _, rfl, Lib.hid fun i hi h => absurd h (Nat.not_lt_zero _)⟩
  case round =>
    obtain ⟨j, hj, rfl, A⟩ := hrel
    by_cases hlt : j < n
    · have hjl : j < T.length := by have := HN.out; omega
      have hcell := HC.out j hjl
      have hC := Lib.hid (HCALL.out T[j])
      cases hq : bad parts T[j] with
      | true =>
        have E := Lib.hid (show badAt parts T = j by unfold badAt; rw [badAt_hit hjl A.out hq, if_pos hjl])
        generalize T[j] = v at *
        rw [hq] at hC
        clear hq
        go_wp2_with (go_at_call 66; refine hC.out.mono ?_; rintro e w' ⟨rfl, rfl⟩)
        go_ret
        exact ⟨by rw [E.out]; rfl, rfl⟩
      | false =>
        have A2 := Lib.hid (show ∀ i (hi : i < T.length), i < j + 1 → bad parts T[i] = false from fun i hi h => by
          by_cases e : i = j
          · subst e; exact hq
          · exact A.out i hi (by omega))
        generalize T[j] = v at *
        rw [hq] at hC
        clear hq
        go_wp2_with (go_at_call 66; refine hC.out.mono ?_; rintro e w' ⟨rfl, rfl⟩)
        go_round
        case rel => exact ⟨j + 1, by omega, by go_num, A2⟩
        case measure => simp [intOf]; omega
    · obtain rfl : j = n := by omega
      have E := Lib.hid (show badAt parts T = -1 by
        unfold badAt; rw [badAt_miss fun i hi => A.out i hi (by have := HN.out; omega), if_neg (Nat.lt_irrefl _)])
      go_wp2
      go_ret
      exact ⟨by rw [E.out]; rfl, rfl⟩
theorem clone_box (A : Option Addr) (n c : Nat) (T : List Int) (parts : Int) (w W : World) (hl : SliceOf (Rep.int .i64) w w.heap.size A n c T) (hpos : 0 < n) (hn : n ≤ 1048576) (hW : New (w.alloc (.cells #[.int .i64 parts] 3)) W) :
    Calls Try.prog 67 #[.slice A n c] W fun e w' => ∃ r A' c', e = .returned (.slice A' n c') ∧ Row w' 1 r A' n c' (T.map (Value.int .i64)) ∧ (∀ k, r = some k → w.heap.size ≤ k) ∧ New w w' ∧ w.heap.size + 1 ≤ w'.heap.size ∧ w'.cell? ⟨w.heap.size, 0, none⟩ = some (.int .i64 parts) := by
  have hw1 : New w (w.alloc (.cells #[.int .i64 parts] 3)) := (Kept.refl _ _).alloc _
  have hpc : (w.alloc (.cells #[.int .i64 parts] 3)).cell? ⟨w.heap.size, 0, none⟩ = some (.int .i64 parts) := (Blk.made w _ _).cell 0
  have hs : w.heap.size + 1 ≤ W.heap.size := by have := hW.size; rw [← size1] at this; exact this
  refine (clone_any A n c T W ((hl.kept (hw1.trans hW) (Nat.le_refl _) fun _ _ h => h).more (hw1.trans hW).size) hpos hn).mono ?_
  rintro e w' ⟨r, A', c', h1, h2, h3, h4⟩
  refine ⟨r, A', c', h1, h2, fun k hk => by have := h3 k hk; omega, hw1.trans (hW.trans h4), by have := h4.size; omega, ?_⟩
  rw [(hW.trans h4).cell (p := ⟨w.heap.size, 0, none⟩) (by rw [← size1]; exact Nat.lt_succ_self _) id]; exact hpc
/-- What New answers: a table in memory of its own, or what is wrong. -/
def NewR (w : World) (T : List Int) (parts : Int) (e : Ending) (w' : World) : Prop :=
  New w w' ∧ ((newE T parts = (0, 0) ∧ ∃ b, e = .returned (.tuple #[.pointer (some ⟨b, 0, none⟩), .int .i64 0, .int .i64 0])) ∨
    (newE T parts ≠ (0, 0) ∧ e = .returned (.tuple #[.pointer none, .int .i64 (newE T parts).1, .int .i64 (newE T parts).2])))
theorem new_any (A : Option Addr) (n c : Nat) (T : List Int) (parts : Int) (w : World) (hl : SliceOf (Rep.int .i64) w w.heap.size A n c T) : Calls Try.prog 42 #[.slice A n c, .int .i64 parts] w (NewR w T parts) := by
  have hn := hl.len
  have hb := hl.bound
  by_cases h0 : parts < 1 ∨ 8 < parts ∨ n = 0
  · have E := Lib.hid (show newE T parts = (1, 0) by unfold newE; rw [if_pos (by omega)])
    have HL := Lib.hid hl
    have HN := Lib.hid hn
    clear hl hn
    rcases h0 with h0 | h0 | h0
    · go_enter Try.func42, Try.ntmps42
      go_wp2_with fail
      all_goals (go_ret3; exact ⟨(Kept.refl _ _).alloc _, .inr ⟨by rw [E.out]; decide, by rw [E.out]; rfl⟩⟩)
    · go_enter Try.func42, Try.ntmps42
      go_wp2_with fail
      all_goals (go_ret3; exact ⟨(Kept.refl _ _).alloc _, .inr ⟨by rw [E.out]; decide, by rw [E.out]; rfl⟩⟩)
    · subst h0
      go_enter Try.func42, Try.ntmps42
      go_wp2_with fail
      all_goals (go_ret3; exact ⟨(Kept.refl _ _).alloc _, .inr ⟨by rw [E.out]; decide, by rw [E.out]; rfl⟩⟩)
  by_cases h1 : 64 < n
  · have E := Lib.hid (show newE T parts = (3, 64) by unfold newE; rw [if_neg (by omega), if_pos (by omega)])
    have HL := Lib.hid hl
    have HN := Lib.hid hn
    clear hl hn
    have g1 : 1 ≤ parts := by omega
    have g2 : parts ≤ 8 := by omega
    clear h0
    have g5 : ((n : Int) == 0) = false := by simp; omega
    go_enter Try.func42, Try.ntmps42
    go_wp2_with fail
    all_goals (go_ret3; exact ⟨(Kept.refl _ _).alloc _, .inr ⟨by rw [E.out]; decide, by rw [E.out]; rfl⟩⟩)
  have g1 : 1 ≤ parts := by omega
  have g2 : parts ≤ 8 := by omega
  have g3 : 0 < n := by omega
  have g4 : n ≤ 64 := by omega
  have hif := indexFunc_any A n c T parts w.heap.size (w.alloc (.cells #[.int .i64 parts] 3)) ((hl.alloc (Nat.le_refl _) _).more (by rw [← size1]; omega)) ((Blk.made w _ _).cell 0) g3
  have hE : newE T parts = if badAt parts T < 0 then (0, 0) else (2, badAt parts T) := by
    unfold newE badAt
    rw [if_neg (by omega), if_neg (by omega)]
    split
    · rw [if_neg (by omega)]
    · rw [if_pos (by omega)]
  by_cases h2 : 0 ≤ badAt parts T
  · have E := Lib.hid (show newE T parts = (2, badAt parts T) by rw [hE, if_neg (by omega)])
    clear hE
    have HL := Lib.hid hl
    have HN := Lib.hid hn
    have HIF := Lib.hid hif
    clear hl hn hif
    clear h0 h1
    have g5 : ((n : Int) == 0) = false := by simp; omega
    generalize badAt parts T = q at *
    go_enter Try.func42, Try.ntmps42
    go_wp2_with (go_at_call 65; refine HIF.out.mono ?_; rintro e w' ⟨rfl, rfl⟩)
    all_goals (go_ret3; exact ⟨(Kept.refl _ _).alloc _, .inr ⟨by rw [E.out]; simp, by rw [E.out]; rfl⟩⟩)
  · have E := Lib.hid (show newE T parts = (0, 0) by rw [hE, if_pos (by omega)])
    have hok : ∀ x ∈ T, 0 ≤ x ∧ x < 8 := by
      intro x hx
      have h3 : ¬ T.findIdx (bad parts) < T.length := by
        intro h
        apply h2
        unfold badAt; rw [if_pos h]; omega
      have := List.findIdx_eq_length.1 (Nat.le_antisymm List.findIdx_le_length (Nat.le_of_not_lt h3)) x hx
      simp [bad] at this
      omega
    clear hE
    have hcl := fun W hW => clone_box A n c T parts w W hl g3 (by omega) hW
    have HL := Lib.hid hl
    have HN := Lib.hid hn
    have HIF := Lib.hid hif
    have HOK := Lib.hid hok
    have HCL := Lib.hid hcl
    clear hl hn hif hok hcl
    clear h0 h1
    have g5 : ((n : Int) == 0) = false := by simp; omega
    have h2 : badAt parts T < 0 := by omega
    generalize badAt parts T = q at *
    go_enter Try.func42, Try.ntmps42
    go_wp2_with (go_at_call 65; refine HIF.out.mono ?_; rintro e w' ⟨rfl, rfl⟩)
    go_region_with (first | (go_at_call 67; (first | refine (HCL.out _ (by with_reducible first | exact Kept.refl _ _ | exact Kept.drew (Kept.refl _ _))).mono ?_); rintro e w' ⟨r2, A2, c2, rfl, hr2, hf2, hw2, hs2, hc2⟩; have HR2 := Lib.hid hr2; have HF2 := Lib.hid hf2; clear hr2 hf2))
    all_goals
      go_wp2_with fail
      go_ret3
      exact ⟨by first | exact hw2.alloc _ | exact (hw2.alloc _).drew, .inl ⟨E.out, _, rfl⟩⟩
end Go.Proofs.Ytaefgljpdpigeaa.Slots
