/- ViewTells, of any cells (layer 18). -/
import Derived.Test.YtgdmajockejpgaaViewSg
import Derived.Test.YtgdmajockejpgaaViewFl
namespace Go.Proofs.Ytgdmajockejpgaa.View
open Go.RowKit Go.Fb
theorem tells_law {w : World} {c : Config} {s t : State} {cs ss ts : Array Value} (h : repConf.cells w w.heap.size c cs.toList) (hs : (repState.few SmallS).cells w w.heap.size s ss.toList) (ht : (repState.few SmallS).cells w w.heap.size t ts.toList) (p a : Int) (hwa : wfU a) :
    Calls Try.prog 3 #[.agg cs, .agg ss, .agg ts, .int .i64 p, .int .u64 a] w fun e w' => e = .returned (.bool true) ∧ New w w' := by
  obtain ⟨l⟩ := cs
  obtain ⟨m⟩ := ss
  obtain ⟨n⟩ := ts
  obtain ⟨x0, x1, x2, x3, x4, x5, x6, rfl⟩ := list7 (repConf.length h)
  obtain ⟨y0, y1, y2, rfl⟩ := list3 (repState.length hs.1)
  obtain ⟨z0, z1, z2, rfl⟩ := list3 (repState.length ht.1)
  exact tells_walk h hs.1 hs.2 ht.1 ht.2 p a hwa
end Go.Proofs.Ytgdmajockejpgaa.View
