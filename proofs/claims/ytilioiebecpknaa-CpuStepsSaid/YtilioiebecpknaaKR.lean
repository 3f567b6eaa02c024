/- Rows that are written over, and lists that are copied. Over any program. -/
import Derived.Test.YtilioiebecpknaaOwn
import Derived.Test.YtilioiebecpknaaCodeI
namespace Go.Fb
open Go.RowKit
set_option linter.unusedVariables false

/-- The cells of the thing at a place. -/
theorem Row.at_index {w : World} {size : Nat} {r : Option Nat} {A : Option Addr} {n c : Nat} {xs : List Value} (h : Row w size r A n c xs) {k : Nat} (hk : k < n) :
    ∃ g o, r = some g ∧ A = some ⟨g, o, none⟩ ∧ ∀ j, j < size → ∃ v, xs[k * size + j]? = some v ∧ w.cell? ⟨g, o + k * size + j, none⟩ = some v ∧ w.frozen? ⟨g, o + k * size + j, none⟩ = false := by
  obtain ⟨g, o, e1, e2, h5, h6⟩ := h.at_pos (by have := h.le; omega)
  refine ⟨g, o, e1, e2, fun j hj => ?_⟩
  have k1 : k * size + size ≤ n * size := by rw [← Nat.succ_mul]; exact Nat.mul_le_mul_right _ hk
  have k2 : n * size ≤ c * size := Nat.mul_le_mul_right _ h.le
  have hl := h.length
  obtain ⟨q1, q2⟩ := h6 (k * size + j) (by omega)
  obtain ⟨v, hv⟩ := Option.isSome_iff_exists.1 q1
  have h5' := h5 (k * size + j) (by omega)
  rw [← Nat.add_assoc] at h5' hv q2
  exact ⟨v, h5'.symm.trans hv, hv, q2⟩
/-- A row, whatever it holds. -/
def RowX (w : World) (size : Nat) (r : Option Nat) (A : Option Addr) (n c : Nat) : Prop := ∃ xs, Row w size r A n c xs
theorem Row.x {w : World} {size : Nat} {r : Option Nat} {A : Option Addr} {n c : Nat} {xs : List Value} (h : Row w size r A n c xs) : RowX w size r A n c := ⟨xs, h⟩
theorem RowX.set {w : World} {size : Nat} {r : Option Nat} {A : Option Addr} {n c : Nat} (h : RowX w size r A n c) {g o k : Nat} (e2 : A = some ⟨g, o, none⟩) (hk : k < n) {j : Nat} (hj : j < size) (v : Value) : RowX (w.setCell ⟨g, o + k * size + j, none⟩ v) size r A n c := by
  obtain ⟨xs, h⟩ := h
  have k1 : k * size + size ≤ n * size := by rw [← Nat.succ_mul]; exact Nat.mul_le_mul_right _ hk
  have := h.set e2 (j := k * size + j) (by omega) v
  rw [← Nat.add_assoc] at this
  exact ⟨_, this⟩
theorem RowX.set0 {w : World} {size : Nat} {r : Option Nat} {A : Option Addr} {n c : Nat} (h : RowX w size r A n c) {g o k : Nat} (e2 : A = some ⟨g, o, none⟩) (hk : k < n) (hs : 0 < size) (v : Value) : RowX (w.setCell ⟨g, o + k * size, none⟩ v) size r A n c := h.set e2 hk hs v
/-- A row of integers. -/
def RowZ (w : World) (kd : IntKind) (r : Option Nat) (A : Option Addr) (n c : Nat) : Prop := ∃ zs : List Int, Row w 1 r A n c (zs.map (Value.int kd))
theorem RowZ.set {w : World} {kd : IntKind} {r : Option Nat} {A : Option Addr} {n c : Nat} (h : RowZ w kd r A n c) {g o k : Nat} (e2 : A = some ⟨g, o, none⟩) (hk : k < n) (v : Int) : RowZ (w.setCell ⟨g, o + k, none⟩ (.int kd v)) kd r A n c := by
  obtain ⟨zs, h⟩ := h
  have := h.set e2 (j := k) (by omega) (.int kd v)
  rw [← List.map_set] at this
  exact ⟨_, this⟩
theorem RowZ.at_index {w : World} {kd : IntKind} {r : Option Nat} {A : Option Addr} {n c : Nat} (h : RowZ w kd r A n c) {k : Nat} (hk : k < n) : ∃ g o z, r = some g ∧ A = some ⟨g, o, none⟩ ∧ w.cell? ⟨g, o + k, none⟩ = some (.int kd z) ∧ w.frozen? ⟨g, o + k, none⟩ = false := by
  obtain ⟨zs, h⟩ := h
  obtain ⟨g, o, e1, e2, hc⟩ := h.at_index hk
  obtain ⟨v, h1, h2, h3⟩ := hc 0 (by decide)
  rw [Nat.mul_one, Nat.add_zero] at h1 h2 h3
  rw [List.getElem?_map] at h1
  obtain ⟨z, _, rfl⟩ := Option.map_eq_some_iff.1 h1
  exact ⟨g, o, z, e1, e2, h2, h3⟩
/-- A slice that is read, as what is appended. -/
theorem SliceOf.src {α : Type} {R : Rep α} {f : α → List Value} (hf : ∀ {w B x cs}, R.cells w B x cs → cs = f x) (h1 : ∀ x, ∀ u ∈ f x, u.oneCell' = true) {P : Program} {t e : TypeId} (ht : P.underlying t = some (.slice e)) {w : World} {B : Nat} {A : Option Addr} {n c : Nat} {l : List α}
    (h : SliceOf R w B A n c l) : Go.Src P R.size t (.slice A n c) n (l.flatMap f) w := by
  have hn := h.len
  have hone : ∀ u ∈ l.flatMap f, u.oneCell' = true := by
    intro u hu
    obtain ⟨x, _, hx⟩ := List.mem_flatMap.1 hu
    exact h1 x u hx
  by_cases h0 : n = 0
  · subst h0
    obtain rfl : l = [] := List.eq_nil_of_length_eq_zero hn.symm
    cases A with
    | none => exact Go.Src.ofNil w ht c
    | some a => exact Go.Src.ofSlice w ht a 0 c [] (by simp) (by simp) (by simp)
  · obtain ⟨b, o, rfl, _, hc⟩ := h.get (by omega)
    have hlen : ∀ x ∈ l, (f x).length = R.size := by
      intro x hx
      obtain ⟨i, hi, rfl⟩ := List.mem_iff_getElem.1 hx
      obtain ⟨es, _, g⟩ := hc i hi
      rw [← hf g]; exact R.length g
    have hfl := flatMap_len l hlen
    refine Go.Src.ofSlice w ht ⟨b, o, none⟩ n c (l.flatMap f) (by rw [hfl, ← hn]) (fun j u hu => ?_) hone
    have hjl : j < l.length * R.size := by
      rcases Nat.lt_or_ge j (l.flatMap f).length with h | h
      · omega
      · rw [List.getElem?_eq_none h] at hu; cases hu
    have hs : 0 < R.size := by
      rcases Nat.eq_zero_or_pos R.size with h | h
      · rw [h] at hjl; omega
      · exact h
    have hi : j / R.size < l.length := Nat.div_lt_of_lt_mul (by rw [Nat.mul_comm]; exact hjl)
    obtain ⟨es, g1, g2⟩ := hc _ hi
    have g3 := hf g2
    subst g3
    have hm := Nat.mod_lt j hs
    have he : j / R.size * R.size + j % R.size = j := by rw [Nat.mul_comm]; exact Nat.div_add_mod j R.size
    have g4 := g1 _ hm
    rw [Nat.add_assoc, he, ← flatMap_get l hlen _ hi _ hm, he] at g4
    rw [add_eq, g4]
    exact hu
theorem SliceOf.srcB {P : Program} {t e : TypeId} (ht : P.underlying t = some (.slice e)) {w : World} {B : Nat} {A : Option Addr} {n c : Nat} {l : List UInt8} (h : SliceOf Rep.byte w B A n c l) : Go.Src P 1 t (.slice A n c) n (l.map bv) w := by
  have := SliceOf.src (f := fun c => [bv c]) (fun h => h) (by intro x u hu; rw [List.mem_singleton.1 hu]; rfl) ht h
  have e : l.map bv = l.flatMap fun c => [bv c] := by clear this h; induction l <;> simp_all [List.flatMap_cons]
  rw [e]; exact this
/-- Bytes of one's own, read. -/
theorem Row.bytes {w : World} {r : Option Nat} {A : Option Addr} {n c : Nat} {l : List UInt8} (h : Row w 1 r A n c (l.map bv)) : n = l.length ∧ SliceOf Rep.byte w w.heap.size A n c l := by
  have e : l.map bv = l.flatMap fun c => [bv c] := by clear h; induction l <;> simp_all [List.flatMap_cons]
  have hl := h.length
  rw [List.length_map] at hl
  rw [e] at h
  exact ⟨by omega, h.slice (R := Rep.byte) (by decide) (by omega) (fun x _ => rfl)⟩
theorem rowZ_of {w : World} {r : Option Nat} {A : Option Addr} {n c : Nat} {l : List UInt8} (h : Row w 1 r A n c (l.map bv)) : RowZ w .u8 r A n c := ⟨l.map fun c => (c.toNat : Int), by rw [List.map_map]; exact h⟩
theorem RowZ.head {w : World} {kd : IntKind} {r : Option Nat} {A : Option Addr} {n m c : Nat} (h : RowZ w kd r A m c) (hn : n ≤ m) : RowZ w kd r A n c := by
  obtain ⟨zs, h⟩ := h
  have := h.head hn
  rw [Nat.mul_one, ← List.map_take] at this
  exact ⟨_, this⟩
theorem RowX.head {w : World} {size : Nat} {r : Option Nat} {A : Option Addr} {n m c : Nat} (h : RowX w size r A m c) (hn : n ≤ m) : RowX w size r A n c := by
  obtain ⟨xs, h⟩ := h
  exact ⟨_, h.head hn⟩
theorem RowX.kept {G : Nat → Prop} {w w' : World} {size : Nat} {r : Option Nat} {A : Option Addr} {n c : Nat} (h : RowX w size r A n c) (hs : 0 < size) (hk : Kept G w w') (hg : ∀ k, r = some k → ¬ G k) : RowX w' size r A n c := by
  obtain ⟨xs, h⟩ := h
  exact ⟨_, h.of_kept hs hk hg⟩
theorem RowZ.kept {G : Nat → Prop} {w w' : World} {kd : IntKind} {r : Option Nat} {A : Option Addr} {n c : Nat} (h : RowZ w kd r A n c) (hk : Kept G w w') (hg : ∀ k, r = some k → ¬ G k) : RowZ w' kd r A n c := by
  obtain ⟨xs, h⟩ := h
  exact ⟨_, h.of_kept (by decide) hk hg⟩
theorem RowX.lt {w : World} {size : Nat} {r : Option Nat} {A : Option Addr} {n c : Nat} (h : RowX w size r A n c) (hs : 0 < size) : ∀ k, r = some k → k < w.heap.size := by obtain ⟨xs, h⟩ := h; exact h.lt hs
end Go.Fb

namespace Go.Proofs.Ytilioiebecpknaa.Code
open Go.RowKit Go.Fb Go.BytesP Go.CodeP
set_option linter.unusedVariables false
theorem tyIns : SliceTy Try.prog 26 32 5 40 := by
  obtain ⟨i, hi, hz, hs, hb⟩ := info_parts (P := Try.prog) (e := 32) (z := .agg #[.int .i64 0, .int .i64 0, .int .i64 0, .int .i64 0, .int .i64 0]) (size := 5) (bytes := 40) (by kernel_rfl)
  exact ⟨Try.underlying26, ⟨i, _, hi, hz, hs, hb, rfl⟩, by decide⟩
theorem cellsI_one (x : Ins) : ∀ u ∈ cellsI x, u.oneCell' = true := by
  intro u hu
  simp only [cellsI, List.mem_cons, List.not_mem_nil, or_false] at hu
  rcases hu with rfl | rfl | rfl | rfl | rfl <;> rfl
def InsAt (g o : Nat) (x : Ins) (W : World) : Prop := W.cell? ⟨g, o, none⟩ = some (.int .i64 x.op) ∧ W.cell? ⟨g, o + 1, none⟩ = some (.int .i64 x.a) ∧ W.cell? ⟨g, o + 2, none⟩ = some (.int .i64 x.b) ∧ W.cell? ⟨g, o + 3, none⟩ = some (.int .i64 x.c) ∧ W.cell? ⟨g, o + 4, none⟩ = some (.int .i64 x.imm)
theorem insAt_of {g o : Nat} {x : Ins} {W : World} (h : ∀ j, j < 5 → W.cell? ⟨g, o + j, none⟩ = (cellsI x)[j]?) : InsAt g o x W := ⟨h 0 (by decide), h 1 (by decide), h 2 (by decide), h 3 (by decide), h 4 (by decide)⟩
def m77 : Ins := ⟨77, 0, 0, 0, 0⟩
theorem ins_src {w : World} {B : Nat} {A : Option Addr} {n c : Nat} {l : List Ins} (h : SliceOf repIns w B A n c l) : Go.Src Try.prog 5 26 (.slice A n c) n (l.flatMap cellsI) w :=
  SliceOf.src (R := repIns) (f := cellsI) (fun h => h.1) cellsI_one Try.underlying26 h
theorem rowI_head {w : World} {r : Option Nat} {A : Option Addr} {n m c : Nat} {l t : List Ins} (h : Row w 5 r A m c ((l ++ t).flatMap cellsI)) (hn : n = l.length) (hm : n ≤ m) (hw : ∀ x ∈ l, Wf x) : SliceOf repIns w w.heap.size A n c l := by
  have := h.head hm
  have e : ((l ++ t).flatMap cellsI).take (n * 5) = l.flatMap cellsI := by
    rw [List.flatMap_append, List.take_append_of_le_length, List.take_of_length_le] <;> rw [flatMap_len (f := cellsI) (size := 5) l (fun x _ => rfl), hn] <;> exact Nat.le_refl _
  rw [e] at this
  exact this.slice (R := repIns) (by decide) hn.symm fun x hx => ⟨rfl, hw x hx⟩
end Go.Proofs.Ytilioiebecpknaa.Code
