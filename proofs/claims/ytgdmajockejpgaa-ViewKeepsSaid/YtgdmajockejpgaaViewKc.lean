/- ViewKeeps, of any cells (layer 18). -/
import Derived.Test.YtgdmajockejpgaaViewKb
import Derived.Test.YtgdmajockejpgaaViewFl
namespace Go.Proofs.Ytgdmajockejpgaa.View
open Go.RowKit Go.Fb
theorem keeps_law {w : World} {c : Config} {s : State} {cs ss : Array Value} (h : repConf.cells w w.heap.size c cs.toList) (hs : (repState.few SmallS).cells w w.heap.size s ss.toList) (a : Int) (hwa : wfU a) :
    Calls Try.prog 5 #[.agg cs, .agg ss, .int .u64 a] w fun e w' => e = .returned (.bool true) ∧ New w w' := by
  obtain ⟨l⟩ := cs
  obtain ⟨m⟩ := ss
  obtain ⟨x0, x1, x2, x3, x4, x5, x6, rfl⟩ := list7 (repConf.length h)
  obtain ⟨y0, y1, y2, rfl⟩ := list3 (repState.length hs.1)
  exact keeps_walk h hs.1 hs.2 a hwa
end Go.Proofs.Ytgdmajockejpgaa.View
