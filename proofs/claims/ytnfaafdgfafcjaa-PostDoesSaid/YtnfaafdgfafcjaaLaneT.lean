/- The walks of package lane's End, more, Take (layer 9). -/
import Derived.Test.YtnfaafdgfafcjaaLaneQ
import Derived.Test.YtnfaafdgfafcjaaCopy
import Derived.StillTailTactics
import Derived.RegionTactic
namespace Go.Proofs.Ytnfaafdgfafcjaa.Lane
open Go.RowKit Go.Fb
set_option linter.unusedVariables false
theorem row_clip {w : World} {size : Nat} {r : Option Nat} {A : Option Addr} {n c : Nat} {xs : List Value} (h : Row w size r A n c xs) : ∃ r', Row w size r' A n n xs ∧ ∀ k, r' = some k → r = some k := by
  by_cases h0 : n = 0
  · subst h0
    have := h.length
    rw [Nat.zero_mul] at this
    exact ⟨none, ⟨by rw [this, Nat.zero_mul], .inl ⟨rfl, rfl, rfl⟩⟩, by intro k hk; cases hk⟩
  · have hle := h.le
    rcases h.lies with ⟨_, e, _⟩ | ⟨hc, g, o, e1, e2, h3, h4, h5, h6⟩
    · exact absurd e h0
    · refine ⟨r, ⟨h.length, .inr ⟨by omega, g, o, e1, e2, Nat.le_refl _, by unfold maxLen at *; omega, h5, fun j hj => h6 j ?_⟩⟩, fun _ h => h⟩
      exact Nat.lt_of_lt_of_le hj (Nat.mul_le_mul_right _ hle)
theorem size_setCells (b : Nat) : ∀ (vs : List Value) (o : Nat) (w : World), (w.setCells b o vs).heap.size = w.heap.size
  | [], _, _ => rfl
  | v :: vs, o, w => (size_setCells b vs (o + 1) (w.setCell ⟨b, o, none⟩ v)).trans (size_set w ⟨b, o, none⟩ v).symm
theorem take_copy {P : Program} {W : World} {T E : TypeId} (hu : P.underlying T = some (.slice E)) (hs : (P.info? E).map (·.size) = some 1) {g o n c : Nat} {v : Int} {rest : List Int} (hrow : Row W 1 (some g) (some ⟨g, o, none⟩) (n + 1) c ((v :: rest).map (Value.int .i64))) (hn : rest.length = n) (A1 : Option Addr) (hA : A1 = some ⟨g, o + 1, none⟩ ∨ n = 0) :
    ∃ W', (∀ ty, (Builtin.copy_ #[T, T] ty #[.slice (some ⟨g, o, none⟩) (n + 1) c, .slice A1 n (c - 1)]).run P W = .ok (.int .i64 n) W') ∧ Row W' 1 (some g) (some ⟨g, o, none⟩) n c (rest.map (Value.int .i64)) ∧ Kept (fun k => k = g) W W' ∧ W'.heap.size = W.heap.size := by
  have hle := hrow.le
  by_cases h0 : n = 0
  · subst h0
    obtain rfl : rest = [] := List.eq_nil_of_length_eq_zero hn
    refine ⟨W, fun ty => run_copy_none W T T ty E _ A1 1 c 0 (c - 1) hu hs (by simp), ?_, Kept.refl _ _, rfl⟩
    have := hrow.head (k := 0) (by omega)
    simpa using this
  · obtain rfl : A1 = some ⟨g, o + 1, none⟩ := hA.resolve_right h0
    rcases hrow.lies with ⟨e, _⟩ | ⟨hc, g', o', e1, e2, h3, h4, h5, h6⟩
    · cases e
    injection e2 with e2
    injection e2 with e3 e4
    subst e3; subst e4
    have hlen : (rest.map (Value.int .i64)).length = n := by rw [List.length_map, hn]
    have hsome : ∀ j, j < (rest.map (Value.int .i64)).length → (W.cell? ⟨g, o + j, none⟩).isSome = true := fun j hj => (h6 j (by omega)).1
    have hfr : ∀ j, j < (rest.map (Value.int .i64)).length → W.frozen? ⟨g, o + j, none⟩ = false := fun j hj => (h6 j (by omega)).2
    refine ⟨W.setCells g o (rest.map (Value.int .i64)), fun ty => ?_, ?_, Kept.setCells _ _ _ (Kept.refl _ _) (.inr rfl), ?_⟩
    · have := run_copy_cells (P := P) W T T ty E g o (n + 1) c ⟨g, o + 1, none⟩ n (c - 1) (rest.map (Value.int .i64)) hu hs (by rw [hlen]; show n = min n (n + 1); omega) (fun j u hj => by
        have hjn : j < n := by
          rcases Nat.lt_or_ge j n with h | h
          · exact h
          · rw [List.getElem?_eq_none (by omega)] at hj; cases hj
        rw [add_eq, Nat.add_assoc, Nat.add_comm 1 j, h5 (j + 1) (by omega), List.map_cons, List.getElem?_cons_succ]
        exact hj) hsome hfr (fun u hu => by obtain ⟨x, _, rfl⟩ := List.mem_map.1 hu; rfl)
      rw [this, hlen]; rfl
    · refine ⟨by rw [hlen, Nat.mul_one], .inr ⟨hc, g, o, rfl, rfl, by omega, h4, fun j hj => ?_, fun j hj => ⟨isSome_setCells _ _ _ _ _ (h6 j hj).1, by rw [World.frozen?_setCells]; exact (h6 j hj).2⟩⟩⟩
      rw [Nat.mul_one] at hj
      rw [World.cell?_setCells_in g (rest.map (Value.int .i64)) o W hsome j (by omega)]
      exact (List.getElem?_eq_getElem (by omega)).symm
    · exact size_setCells _ _ _ _
section
variable {w : World} {b : Nat} {F : Nat → Prop} {L : Lane}
def moreI (n : Int) : Int := min (wrap64 (n + 1)) 65535
theorem more_any (n : Int) (w : World) (h0 : 0 ≤ n) (h1 : n ≤ 65535) : Calls Try.prog 48 #[.int .i64 n] w fun e w' => e = .returned (.int .i64 (min (n + 1) 65535)) ∧ w = w' := by
  go_enter Try.func48, Try.ntmps48
  go_wp2
  all_goals (go_ret; exact ⟨by simp [Array.getD]; omega, rfl⟩)
theorem end_any (h : At w b F L) : Calls Try.prog 60 #[.pointer (some ⟨b, 0, none⟩)] w fun e w' => ∃ r A F', e = .returned (.slice A L.waits.length L.waits.length) ∧ Row w' 2 r A L.waits.length L.waits.length (L.waits.flatMap cellsW) ∧ At w' b F' { L with waits := [] } ∧
    (∀ k, F' k → F k) ∧ (∀ k, r = some k → F k ∧ ¬ F' k) ∧ Kept F w w' := by
  obtain ⟨⟨rv, Av, cv, rw, Aw, cw, hp, h1, h2⟩, h3, h4⟩ := h
  obtain ⟨c0, c1, c2, c3, c4⟩ := hp.cells
  have hb := hp.waits.bound
  have f2 := hp.blk.free 2
  obtain ⟨r', hr', hr2⟩ := row_clip hp.waits
  have hq := fun q => (PartsT.put_waits (w2 := w.drewN q) (rw := rw) (r' := none) (A' := none) (c' := 0) (ws := []) hp (Row.nil _ _) ((Kept.refl _ _).drewN q) (by simp))
  have hrow := fun q => (hr'.drewN q).of_kept (by decide) (Kept.set1 (w.drewN q) b 2 (.slice none 0 0)) (fun k h e => by subst e; exact hp.d2 (hr2 k h))
  have hlt := hp.vals.lt (by decide)
  have hbl := hp.b_lt
  have hd1 := hp.d1
  have hd3 := hp.d3
  have hd2 := hp.d2
  obtain ⟨nw, hnw⟩ : ∃ n, n = L.waits.length := ⟨_, rfl⟩
  rw [← hnw] at c2 hb hrow ⊢
  have HQ := Lib.hid hq
  have HROW := Lib.hid hrow
  have H1 := Lib.hid h1
  have H2 := Lib.hid h2
  have H3 := Lib.hid h3
  have H4 := Lib.hid h4
  have HR2 := Lib.hid hr2
  have HLT := Lib.hid hlt
  have HD1 := Lib.hid hd1
  have HD2 := Lib.hid hd2
  have HD3 := Lib.hid hd3
  have HNW := Lib.hid hnw
  have HBL := Lib.hid hbl
  clear hq hrow h1 h2 h3 h4 hr2 hlt hd1 hd2 hd3 hnw hbl
  clear hp hr'
  go_enter Try.func60, Try.ntmps60
  go_wp2_with fail
  go_quiet (fail)
  go_wp2_with fail
  go_ret
  refine ⟨r', Aw, fun k => k = b ∨ rv = some k, by simp [Array.getD], HROW.out _, ⟨⟨rv, Av, cv, none, none, 0, HQ.out _, fun k hk => .inr hk, by simp⟩, .inl rfl, ?_⟩, ?_, ?_, ((Kept.refl F w).drewN _).setCell (.inr H3.out) _⟩
  · rintro k (rfl | hk)
    · rw [← size_set]; exact HBL.out
    · rw [← size_set]; exact HLT.out k hk
  · rintro k (rfl | hk)
    · exact H3.out
    · exact H1.out k hk
  · intro k hk
    refine ⟨H2.out k (HR2.out k hk), ?_⟩
    rintro (rfl | h)
    · exact HD2.out (HR2.out k hk)
    · exact HD3.out k h (HR2.out k hk)
end
end Go.Proofs.Ytnfaafdgfafcjaa.Lane
