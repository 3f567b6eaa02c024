/- A map of a place and a set of bits to int that a call has made, as a function. -/
import Derived.Test.YtjhiaicpgajeoaaMem
import Derived.Test.YtjhiaicpgajeoaaProg
import Derived.Maps.OwnSet
import Derived.DeepKeys4
namespace Go.Fb
open Go.RowKit Go.Maps
set_option linter.unusedVariables false
/-- A key, as a value and as it is read. -/
def sval (s : Nat × Nat) : Value := .agg #[.int .i64 s.1, .int .u64 s.2]
def slit (s : Nat × Nat) : Lit := .string (keyBytes [.int .i64 s.1, .int .u64 s.2])
/-- It fits. -/
def OkS (s : Nat × Nat) : Prop := s.1 ≤ 9223372036854775807 ∧ s.2 ≤ 18446744073709551615
theorem sval_inj {s t : Nat × Nat} (h : sval s = sval t) : s = t := by
  unfold sval at h
  simp only [Value.agg.injEq, Array.mk.injEq, List.cons.injEq, Value.int.injEq, true_and, and_true] at h
  exact Prod.ext (by omega) (by omega)
/-- What is asked of the type of the keys. -/
structure KeyS (P : Program) (K : TypeId) : Prop where
  keyed : Keyed P K
  of : ∀ s, OkS s → keyOf P K (sval s) = some (slit s)
theorem KeyS.inj {P : Program} {K : TypeId} (h : KeyS P K) {s t : Nat × Nat} (hs : OkS s) (ht : OkS t) (e : slit s = slit t) : s = t :=
  sval_inj (h.keyed.inj (h.of s hs) ((h.of t ht).trans (by rw [e])))
/-- Block b is a map of at most n entries that reads as f. -/
def MapS (P : Program) (K E : TypeId) (w : World) (b n : Nat) (f : Nat × Nat → Option Int) : Prop :=
  ∃ D : DataW Unit, w.ownsMap P K (plainElem P E) b n D ∧ IsMap D ∧ ∀ s, OkS s → has D (slit s) = (f s).isSome ∧ ∀ v, f s = some v → D.atKey (slit s) (.lit (.int .i64 0)) = .lit (.int .i64 v)
namespace MapS
variable {P : Program} {K E T : TypeId} {w w' : World} {b n : Nat} {f : Nat × Nat → Option Int}
theorem made (w : World) : MapS P K E (w.alloc (.map #[] 0)) w.heap.size 0 (fun _ => none) :=
  ⟨.map [], World.ownsMap_made w P K _, isMap_empty, fun x hx => ⟨rfl, fun v hv => by cases hv⟩⟩
theorem lt (h : MapS P K E w b n f) : b < w.heap.size := by
  obtain ⟨D, h1, -⟩ := h
  exact h1.lt
theorem kept {G : Nat → Prop} (h : MapS P K E w b n f) (hk : Kept G w w') (hg : ¬ G b) : MapS P K E w' b n f := by
  have hlt := h.lt
  obtain ⟨D, ⟨es, clock, hb, h1⟩, h2⟩ := h
  exact ⟨D, ⟨es, clock, (hk.block b hlt hg).trans hb, h1⟩, h2⟩
theorem new (h : MapS P K E w b n f) (hk : New w w') : MapS P K E w' b n f := h.kept hk id
theorem update (h : MapS P K E w b n f) (hT : P.underlying T = some (.map K E)) (hK : KeyS P K) (hE : P.underlying E = some (.int .i64)) (hn : n < maxLen) {s : Nat × Nat} {v : Int} (hs : OkS s) (hv : (Lit.int .i64 v).wf = true) :
    ∃ w', (Instr.mapUpdate T (.map (some b)) (.agg #[.int .i64 s.1, .int .u64 s.2]) (.int .i64 v)).run P w = .ok () w' ∧ MapS P K E w' b (n + 1) (fun y => if y = s then some v else f y) ∧ Kept (fun k => k = b) w w' := by
  obtain ⟨D, h1, h2, h3⟩ := h
  obtain ⟨w', hrun, ho, hg⟩ := h1.update hK.keyed hT hn (hK.of s hs) (plainElem_int hE hv)
  have hg' := ho
  refine ⟨w', hrun, ⟨_, ho, h2.put _ _, fun y hy => ?_⟩, ⟨hg.os, hg.tape, hg.output, hg.size, fun k hk hn => hg.block k hk (fun e => hn (by injection e))⟩⟩
  dsimp only
  by_cases e : y = s
  · subst e
    rw [if_pos rfl]
    refine ⟨has_put_same h2 (hK.keyed.key (hK.of y hs)) _, fun u hu => ?_⟩
    injection hu with hu
    subst hu
    exact atKey_put_same h2 (hK.keyed.key (hK.of y hs)) _ _
  · rw [if_neg e]
    have hne : slit y ≠ slit s := fun h => e (hK.inj hy hs h)
    refine ⟨by rw [has_put_other hne]; exact (h3 y hy).1, fun u hu => ?_⟩
    rw [atKey_put_other hne]
    exact (h3 y hy).2 u hu
theorem look (h : MapS P K E w b n f) (hT : P.underlying T = some (.map K E)) (hK : KeyS P K) (hE : P.underlying E = some (.int .i64)) (hz : ∀ W, (zeroValue E).run P W = .ok (.int .i64 0) W) {s : Nat × Nat} (hs : OkS s) :
    ∃ c, (Instr.lookup T (.map (some b)) (.agg #[.int .i64 s.1, .int .u64 s.2]) true).run P w = .ok (.tuple #[.int .i64 c, .bool (f s).isSome]) w ∧ (Lit.int .i64 c).wf = true ∧ ∀ v, f s = some v → c = v := by
  obtain ⟨D, h1, h2, h3⟩ := h
  obtain ⟨v, ps, hrun, hv⟩ := h1.look_ok hK.keyed hT (hz w) (plainElem_int hE (by decide)) (hK.of s hs)
  obtain ⟨c, rfl, hc, hwc⟩ := plainElem_int_inv hE hv
  refine ⟨c, by rw [← (h3 s hs).1]; exact hrun, hwc, fun u hu => ?_⟩
  have := (h3 s hs).2 u hu
  have h4 := congrArg Prod.fst hc
  simp only at h4
  rw [this] at h4
  injection h4 with h4
  injection h4 with _ h4
  exact h4.symm
theorem len (h : MapS P K E w b n f) (hT : P.underlying T = some (.map K E)) : ∃ k : Nat, k ≤ n ∧ ∀ ty, (Builtin.len_ #[T] ty #[.map (some b)]).run P w = .ok (.int .i64 k) w := by
  obtain ⟨D, h1, -⟩ := h
  exact ⟨_, h1.size_le, fun ty => h1.len hT ty⟩
end MapS
end Go.Fb
namespace Go.Proofs.Ytjhiaicpgajeoaa.Valid
open Go.RowKit Go.Fb Go.Maps
theorem keyS : KeyS Try.prog 61 where
  keyed := Keyed.of_law (deep_law_laid (by kernel_rfl) (m := 2) (by omega) (of_decide_eq_true (by kernel_rfl)) (by kernel_rfl) (by rw [Try.underlying61]))
  of s hs := by
    have h1 : (Lit.int .i64 (s.1 : Int)).wf = true := by simp [Lit.wf, IntKind.min, IntKind.max, IntKind.signed, IntKind.bits]; have := hs.1; omega
    have h2 : (Lit.int .u64 (s.2 : Int)).wf = true := by simp [Lit.wf, IntKind.min, IntKind.max, IntKind.signed, IntKind.bits]; have := hs.2; omega
    have hf : (sval s).formed Try.prog 61 = true := by simp [sval, Value.formed, Try.underlying61, show (Try.prog).cellsOf 61 = 2 by kernel_rfl]
    have hk : (Try.prog).keyType 61 = true := by kernel_rfl
    have hl : (Try.prog).keyLits ((Try.prog).types.size + 1) 61 (sval s).cells.toList = some [.int .i64 s.1, .int .u64 s.2] := by
      obtain ⟨d, hd⟩ : ∃ d, (Try.prog).types.size + 1 = d + 2 := ⟨(Try.prog).types.size - 1, by kernel_rfl⟩
      rw [hd]
      clear hd hk hf
      unfold Program.keyLits
      simp only [Try.underlying61, sval, Value.cells]
      rw [if_pos ⟨by simp [show (Try.prog).cellsOf 61 = 2 by kernel_rfl], by kernel_rfl⟩]
      simp [show (Try.prog).cellsOf 3 = 1 by kernel_rfl, show (Try.prog).cellsOf 37 = 1 by kernel_rfl, Program.keyLits, Try.underlying3, Try.underlying37, h1, h2]
    unfold keyOf
    simp only [Try.underlying61, hk, hf, Bool.and_self, if_true, hl, Option.map_some, slit]
end Go.Proofs.Ytjhiaicpgajeoaa.Valid
