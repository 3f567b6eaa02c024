/- ViewFollows' walk, over what the arguments read as (layer 18). -/
import Derived.Test.YtgdmajockejpgaaViewY
namespace Go.Proofs.Ytgdmajockejpgaa.View
open Go.RowKit Go.Fb
theorem list7 {α : Type} {l : List α} (h : l.length = 7) : ∃ x0 x1 x2 x3 x4 x5 x6, l = [x0, x1, x2, x3, x4, x5, x6] := by
  match l, h with
  | [a, b, c, d, e, f, g], _ => exact ⟨_, _, _, _, _, _, _, rfl⟩
theorem follows_law {w : World} {c : Config} {s : State} {cs ss : Array Value} (h : repConf.cells w w.heap.size c cs.toList) (hs : (repState.few SmallS).cells w w.heap.size s ss.toList) (a a2 p : Int) :
    Calls Try.prog 4 #[.agg cs, .agg ss, .int .u64 a, .int .u64 a2, .int .i64 p] w fun e w' => e = .returned (.bool true) ∧ New w w' := by
  obtain ⟨l⟩ := cs
  obtain ⟨m⟩ := ss
  obtain ⟨x0, x1, x2, x3, x4, x5, x6, rfl⟩ := list7 (repConf.length h)
  obtain ⟨y0, y1, y2, rfl⟩ := list3 (repState.length hs.1)
  exact follows_walk h hs.1 hs.2 a a2 p
end Go.Proofs.Ytgdmajockejpgaa.View
