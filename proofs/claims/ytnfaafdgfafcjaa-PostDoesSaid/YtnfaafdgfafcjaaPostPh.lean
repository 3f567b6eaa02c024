/- PostDoes' walk, over what the arguments read as (layer 10). -/
import Derived.Test.YtnfaafdgfafcjaaPostPg
import Derived.Test.YtnfaafdgfafcjaaSizedS
namespace Go.Proofs.Ytnfaafdgfafcjaa.Lane
open Go.RowKit Go.Fb
theorem pstep_bytes : Program.bytesOf Try.prog 50 = 32 := by kernel_rfl
theorem pdoes_law {w : World} (room cur : Int) {A : Option Addr} {n c : Nat} {Ls : List Lane} {S : Option Addr} {sn sc : Nat} {l : List (Int × Int × Int × Int)} (hl : SliceOf repA w w.heap.size A n c Ls) (hs : SliceOf repSP w w.heap.size S sn sc l) (hn : sn * Program.bytesOf Try.prog 50 ≤ reachBytes) :
    Calls Try.prog 4 #[.int .i64 room, .slice A n c, .int .i64 cur, .slice S sn sc] w fun e w' => e = .returned (.bool true) ∧ New w w' := by
  rw [pstep_bytes] at hn
  exact pdoes_walk room cur hl hs (Nat.le_trans hn (by decide))
end Go.Proofs.Ytnfaafdgfafcjaa.Lane
