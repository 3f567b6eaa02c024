/- What both Ends leave (layer 10). -/
import Derived.Test.YtnfaafdgfafcjaaPostPd
namespace Go.Proofs.Ytnfaafdgfafcjaa.Lane
open Go.RowKit Go.Fb
set_option linter.unusedVariables false
/-- The first ones written over. -/
def marks (i : Nat) (l : List (Int × Int)) : List (Int × Int) := List.replicate i (-9, 0) ++ l.drop i
theorem marks_len {i : Nat} {l : List (Int × Int)} (h : i ≤ l.length) : (marks i l).length = l.length := by unfold marks; rw [List.length_append, List.length_replicate, List.length_drop]; omega
theorem marks_get {i : Nat} {l : List (Int × Int)} (h : i < l.length) : (marks i l)[i]'(by rw [marks_len (by omega)]; exact h) = l[i] := by
  unfold marks
  rw [List.getElem_append_right (by simp)]
  simp
theorem marks_set {i : Nat} {l : List (Int × Int)} (h : i < l.length) : (marks i l).set i (-9, 0) = marks (i + 1) l := by
  unfold marks
  rw [List.set_append_right _ _ (by simp), List.length_replicate, Nat.sub_self, List.drop_eq_getElem_cons h, List.set_cons_zero, List.replicate_succ', List.append_assoc]
  rfl
theorem row_mark {w : World} {r : Option Nat} {g o n c i : Nat} {l : List (Int × Int)} (hr : Row w 2 r (some ⟨g, o, none⟩) n c ((marks i l).flatMap cellsW)) (hn : n = l.length) (hi : i < n) :
    Row ((w.setCell ⟨g, o + i * 2, none⟩ (.int .i64 (-9))).setCell ⟨g, o + i * 2 + 1, none⟩ (.int .i64 0)) 2 r (some ⟨g, o, none⟩) n c ((marks (i + 1) l).flatMap cellsW) := by
  have hml : (marks i l).length = l.length := marks_len (by omega)
  have h1 := hr.set rfl (j := i * 2 + 0) (by omega) (.int .i64 (-9))
  rw [flatMap_set (size := 2) (f := cellsW) (marks i l) (fun x _ => rfl) i (by omega) 0 (by decide) (.int .i64 (-9)) (-9, ((marks i l)[i]'(by omega)).2) rfl] at h1
  have h2 := h1.set rfl (j := i * 2 + 1) (by omega) (.int .i64 0)
  rw [flatMap_set (size := 2) (f := cellsW) _ (fun x _ => rfl) i (by rw [List.length_set]; omega) 1 (by decide) (.int .i64 0) (-9, 0) (by rw [List.getElem_set_self]; rfl), List.set_set, marks_set (by omega)] at h2
  exact h2
section
variable {w w1 w2 w3 : World} {b c : Nat} {F G F' G' : Nat → Prop} {Ls : List Lane} {cur : Int} {q q2 : Option Nat} {D D2 : Option Addr} {m d m2 d2 : Nat}
/-- Behind both Ends, and behind what is written into the first one's answer. -/
theorem ended_both (hn : New w w1) (hf : ∀ k, F k → w.heap.size ≤ k) (hg : ∀ k, G k → w.heap.size ≤ k) (hd : ∀ k, F k → ¬ G k) (hfl : ∀ k, F k → k < w1.heap.size) (hgl : ∀ k, G k → k < w1.heap.size)
    (hF : PAt w2 b F' (endP Ls).1 cur) (hF' : ∀ k, F' k → grow F w1 w2 k) (hq : ∀ k, q = some k → w1.heap.size ≤ k ∧ ¬ F' k) (hql : ∀ k, q = some k → k < w2.heap.size) (hk1 : Kept F w1 w2)
    (hG : PAtR w3 c G' (endP Ls).1 cur) (hG' : ∀ k, G' k → grow G w2 w3 k) (hk2 : Kept G w2 w3) (W : World) (hW : Kept (fun k => q = some k) w3 W) :
    BothP w W b c (endP Ls).1 cur (endP Ls).1 cur := by
  have s1 := hk1.size
  have s2 := hk2.size
  have s0 := hn.size
  have hGG : ∀ k, F' k → ¬ G k := fun k e e' => by
    rcases (hF' k e).1 with h | h
    · exact hd k h e'
    · have := hgl k e'; omega
  refine ⟨F', G', (hF.kept hk2 hGG).kept hW (fun k e e' => (hq k e').2 e), hG.kept hW (fun k e e' => ?_), fun k e => ?_, fun k e => ?_, fun k e e' => ?_, ?_, fun _ _ h => h, fun _ h => h.elim⟩
  · rcases (hG' k e).1 with h | h
    · have := hgl k h; have := (hq k e').1; omega
    · have := hql k e'; omega
  · rcases (hF' k e).1 with h | h
    · exact hf k h
    · omega
  · rcases (hG' k e).1 with h | h
    · exact hg k h
    · omega
  · rcases (hG' k e').1 with h | h
    · exact hGG k e h
    · have := (hF' k e).2; omega
  · refine ((hn.step hk1 fun k hk e => ?_).step hk2 fun k hk e => ?_).step hW fun k hk e => ?_
    · have := hf k e; omega
    · have := hg k e; omega
    · have := (hq k e).1; omega
end
end Go.Proofs.Ytnfaafdgfafcjaa.Lane
