/- A process of a config is given another program (layer 14). -/
import Derived.Test.YtaefgljpdpigeaaConfWe
namespace Go.Proofs.Ytaefgljpdpigeaa.Conf
open Go.RowKit Go.Fb Go.CodeP Go.BytesP Go.ReaderP
set_option linter.unusedVariables false
theorem procs_put {w : World} {F : Nat → Prop} {A : Option Addr} {cap : Nat} {ps : List (Int × List Ins)} {B : Nat} {L : Option Addr} {ln lc : Nat} {l : List Ins} (h : OSl wprocO.or w F A (ps.length + 2) cap (ps.map .inl ++ roomP)) (hl : SliceOf Code.repIns w B L ln lc l) (hB : B ≤ w.heap.size) (hF : ∀ k, F k → B ≤ k) {i : Nat} (hi : i < ps.length) :
    ∃ g o v, A = some ⟨g, o, none⟩ ∧ F g ∧ g < w.heap.size ∧ w.cell? ⟨g, o + i * 2 + 1, none⟩ = some v ∧ w.frozen? ⟨g, o + i * 2 + 1, none⟩ = false ∧ SliceOf repProc (w.setCell ⟨g, o + i * 2 + 1, none⟩ (.slice L ln lc)) w.heap.size A ps.length cap (ps.set i (ps[i].1, l)) := by
  have hbd := h.bound
  have hget : ∀ j (hj : j < ps.length), (ps.map Sum.inl ++ roomP)[j]'(by rw [List.length_append, List.length_map]; omega) = .inl ps[j] := fun j hj => by
    rw [List.getElem_append_left (by rw [List.length_map]; exact hj), List.getElem_map]
  have hlen : (ps.map Sum.inl ++ roomP).length = ps.length + 2 := by rw [List.length_append, List.length_map]; rfl
  obtain ⟨g, o, cs, Fi, hA, hg, hFi, hown, hc⟩ := h.at_ i (by omega)
  rw [hget i hi] at hown
  obtain ⟨Ac, cc, rfl, hos, hwf⟩ := hown
  have hlt : g < w.heap.size := by
    obtain ⟨r, xs, Fj, h1, h2, h3, h4, h5, h6⟩ := h
    obtain ⟨g', o', e1, e2, -⟩ := h1.at_pos (by omega)
    rw [hA] at e2
    injection e2 with e2
    injection e2 with e3 e4
    subst e3
    exact h1.lt (by decide) g e1
  have c0 := (hc 0 (by decide)).1
  have c1 := (hc 1 (by decide)).1
  have f1 := (hc 1 (by decide)).2
  have hk : Kept (fun k => k = g) w (w.setCell ⟨g, o + i * 2 + 1, none⟩ (.slice L ln lc)) := Kept.set1 _ _ _ _
  have hsz : (w.setCell ⟨g, o + i * 2 + 1, none⟩ (.slice L ln lc)).heap.size = w.heap.size := (size_set _ _ _).symm
  have hln := hl.len
  refine ⟨g, o, _, hA, hg, hlt, c1, f1, by rw [List.length_set], by omega, by unfold maxLen; omega, .inr ⟨g, o, hA, hlt, fun j hj => ?_⟩⟩
  rw [List.length_set] at hj
  by_cases e : j = i
  · subst e
    refine ⟨[.int .i64 ps[j].1, .slice L ln lc], fun t ht => ?_, ?_⟩
    · have ht2 : t < 2 := ht
      rcases (by omega : t = 0 ∨ t = 1) with rfl | rfl
      · rw [World.cell?_setCell_other _ _ _ _ (by intro e; injection e with e1 e2; simp only [repProc] at e2; omega)]
        exact c0
      · exact World.cell?_setCell_same' _ _ _ (by show (w.cell? ⟨g, o + j * 2 + 1, none⟩).isSome = true; rw [show w.cell? ⟨g, o + j * 2 + 1, none⟩ = _ from c1]; rfl)
    · rw [List.getElem_set_self]
      exact ⟨L, lc, by rw [hln], (by rw [← hln]; exact (hl.kept hk hB (fun k hkB e => by have := hF g hg; omega)).more hB), hwf⟩
  · obtain ⟨g', o', cs', Fj, e2, hg', hFj, hown', hc'⟩ := h.at_ j (by omega)
    rw [hA] at e2
    injection e2 with e2
    injection e2 with e3 e4
    subst e3; subst e4
    rw [hget j hj] at hown'
    obtain ⟨Ad, cd, rfl, hos', hwf'⟩ := hown'
    refine ⟨[.int .i64 ps[j].1, .slice Ad ps[j].2.length cd], fun t ht => ?_, ?_⟩
    rotate_left
    · rw [List.getElem_set_ne (fun h => e h.symm)]
      have := (OSl.front (hos'.kept hk (fun k hk' e' => (hFj k hk').2 e')) rfl).read reads_ins
      rw [hsz] at this
      exact ⟨Ad, cd, rfl, this, hwf'⟩
    · have ht2 : t < 2 := ht
      rw [World.cell?_setCell_other _ _ _ _ (by intro e'; injection e' with e1 e2; simp only [repProc] at e2; omega)]
      exact (hc' t ht).1
theorem skel_put (c : Cf) {i : Nat} (hi : i < c.procs.length) (l : List Ins) : skel { c with procs := c.procs.set i (c.procs[i].1, l) } = skel c := by
  unfold skel
  simp only [List.map_set, Prod.mk.injEq, true_and]
  refine List.ext_getElem (by rw [List.length_set]) fun j h1 h2 => ?_
  by_cases e : i = j
  · subst e; rw [List.getElem_set_self, List.getElem_map]
  · rw [List.getElem_set_ne e]
end Go.Proofs.Ytaefgljpdpigeaa.Conf
