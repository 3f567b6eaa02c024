/- LaneDoes' walk, over what the arguments read as (layer 9). -/
import Derived.Test.YtnmocdgngkjflaaLaneDo
import Derived.Test.YtnmocdgngkjflaaSizedS
namespace Go.Proofs.Ytnmocdgngkjflaa.Lane
open Go.RowKit Go.Fb
theorem step_bytes : Program.bytesOf Try.prog 51 = 24 := by kernel_rfl
theorem does_law {w : World} {cs : Array Value} {L : Lane} (room : Int) (hs : repA.cells w w.heap.size L cs.toList) {A : Option Addr} {n c : Nat} {l : List (Int × Int × Int)} (hl : SliceOf repS w w.heap.size A n c l) (hn : n * Program.bytesOf Try.prog 51 ≤ reachBytes) :
    Calls Try.prog 4 #[.int .i64 room, .agg cs, .slice A n c] w fun e w' => e = .returned (.bool true) ∧ New w w' := by
  rw [step_bytes] at hn
  exact does_walk room hs hl hn
end Go.Proofs.Ytnmocdgngkjflaa.Lane
