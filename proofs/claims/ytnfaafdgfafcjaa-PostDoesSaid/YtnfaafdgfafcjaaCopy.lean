/- copy into a block of the call's own. Over any program. -/
import Derived.Test.YtnfaafdgfafcjaaOwn
import Derived.Laws.CopyOwn
import Derived.Laws.MakeOwn
namespace Go.Fb
open Go.RowKit
theorem Kept.setRow {g : Nat} (w : World) (cs : Array Value) : Kept (fun k => k = g) w (w.setRow g cs) :=
  ⟨rfl, rfl, rfl, by simp [World.setRow], fun k hk hn => setRow_other w g k cs (by omega)⟩
theorem run_copy_sp {P : Program} (w : World) (dT sT elem : TypeId) (hu : P.underlying dT = some (.slice elem)) (hs : (P.info? elem).map (·.size) = some 1) (g dLen dCap : Nat) (A : Option Addr) (n c : Nat) (cur : List Value) (Ty : TypeId)
    (hg : Blk w g Ty cur.toArray) (cs : List Value) (hn : cs.length = n) (hle : n ≤ dLen) (hsrc : 0 < n → ∃ b o, A = some ⟨b, o, none⟩ ∧ ∀ j v, cs[j]? = some v → w.cell? ⟨b, o + j, none⟩ = some v) (hfit : n ≤ cur.length) (h1 : ∀ v ∈ cs, v.oneCell' = true) :
    ∃ w', (∀ ty, (Builtin.copy_ #[dT, sT] ty #[.slice (some ⟨g, 0, none⟩) dLen dCap, .slice A n c]).run P w = .ok (.int .i64 n) w') ∧ Blk w' g Ty (cs ++ cur.drop n).toArray ∧ Kept (fun k => k = g) w w' ∧ w'.heap.size = w.heap.size := by
  by_cases h0 : n = 0
  · subst h0
    obtain rfl : cs = [] := List.eq_nil_of_length_eq_zero hn
    exact ⟨w, fun ty => run_copy_none w dT sT ty elem _ A dLen dCap 0 c hu hs (by simp), by simpa using hg, Kept.refl _ _, rfl⟩
  · obtain ⟨b, o, rfl, hc⟩ := hsrc (by omega)
    refine ⟨w.setRow g ((cur.toArray.toList.take 0 ++ cs ++ cur.toArray.toList.drop (0 + cs.length)).toArray), fun ty => ?_, ?_, Kept.setRow _ _, by simp [World.setRow]⟩
    · have := run_copy_row (P := P) w dT sT ty elem g 0 dLen dCap ⟨b, o, none⟩ n c cur.toArray Ty cs hu hs hg (by rw [hn]; show n = min n dLen; omega) (fun j v hv => by rw [add_eq]; exact hc j v hv) (by rw [List.size_toArray]; omega) h1
      rw [this, hn]
      rfl
    · have := setRow_heap w g cur.toArray (cur.toArray.toList.take 0 ++ cs ++ cur.toArray.toList.drop (0 + cs.length)).toArray Ty (0, 0) hg
      unfold Blk
      rw [this, ← hn]
      simp
theorem made_zero (v : Value) (m : Nat) : (madeCells #[v] m).toList = List.replicate m v := by
  rw [List.eq_replicate_iff]
  refine ⟨by simp [madeCells], fun x hx => ?_⟩
  simp only [madeCells, Array.toList_map, List.mem_map] at hx
  obtain ⟨i, _, rfl⟩ := hx
  simp [Nat.mod_one]
end Go.Fb
