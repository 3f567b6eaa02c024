/- How plain data lie in memory: a small typed vocabulary over worlds. No program of the set in sight: everything here is over any program. -/
import Derived.WalkKit
import Derived.ProofKit
import Derived.Deep.Slices
import Derived.Deep.Fields
import Derived.Deep.Draws
import Derived.Deep.AppendLies
import Derived.Lib.Hide
import Derived.OpenShut
import Derived.Lib.SmallJoins
import Derived.Lib.SlBytesConst
namespace Go.Fb
open Go.RowKit Go.ChangeShapes Go.WideShapes

/-- How an α lies in memory: in so many cells; what it leads to lies below block B. -/
structure Rep (α : Type) where
  size : Nat
  cells : World → Nat → α → List Value → Prop
  length : ∀ {w : World} {B : Nat} {x : α} {cs : List Value}, cells w B x cs → cs.length = size
  stays : ∀ {w w' : World} {B : Nat} {x : α} {cs : List Value}, (∀ p : Addr, p.block < B → w'.cell? p = w.cell? p) → cells w B x cs → cells w' B x cs
  more : ∀ {w : World} {B B' : Nat} {x : α} {cs : List Value}, B ≤ B' → cells w B x cs → cells w B' x cs

/-- An integer of a kind. -/
def Rep.int (k : IntKind) : Rep Int where
  size := 1
  cells _ _ n cs := cs = [.int k n] ∧ (Lit.int k n).wf = true
  length h := by rw [h.1]; rfl
  stays _ h := h
  more _ h := h
def Rep.bool : Rep Bool where
  size := 1
  cells _ _ b cs := cs = [.bool b]
  length h := by rw [h]; rfl
  stays _ h := h
  more _ h := h
/-- One thing behind another one. -/
def Rep.pair {α β : Type} (R : Rep α) (S : Rep β) : Rep (α × β) where
  size := R.size + S.size
  cells w B x cs := ∃ c d, cs = c ++ d ∧ R.cells w B x.1 c ∧ S.cells w B x.2 d
  length h := by obtain ⟨c, d, rfl, h1, h2⟩ := h; rw [List.length_append, R.length h1, S.length h2]
  stays hw h := by obtain ⟨c, d, e, h1, h2⟩ := h; exact ⟨c, d, e, R.stays hw h1, S.stays hw h2⟩
  more hB h := by obtain ⟨c, d, e, h1, h2⟩ := h; exact ⟨c, d, e, R.more hB h1, S.more hB h2⟩
/-- A thing told by another one. -/
def Rep.via {α β : Type} (R : Rep β) (f : α → β) : Rep α where
  size := R.size
  cells w B x cs := R.cells w B (f x) cs
  length h := R.length h
  stays hw h := R.stays hw h
  more hB h := R.more hB h

/-- A slice (its address, length and capacity) holds a list. -/
def SliceOf {α : Type} (R : Rep α) (w : World) (B : Nat) (A : Option Addr) (n c : Nat) (l : List α) : Prop :=
  n = l.length ∧ n ≤ c ∧ c ≤ maxLen ∧ (n = 0 ∨ ∃ b o, A = some ⟨b, o, none⟩ ∧ b < B ∧
    ∀ i (h : i < l.length), ∃ es, (∀ j, j < R.size → w.cell? ⟨b, o + i * R.size + j, none⟩ = es[j]?) ∧ R.cells w B l[i] es)
theorem SliceOf.stays {α : Type} {R : Rep α} {w w' : World} {B : Nat} {A : Option Addr} {n c : Nat} {l : List α} (hw : ∀ p : Addr, p.block < B → w'.cell? p = w.cell? p) (h : SliceOf R w B A n c l) : SliceOf R w' B A n c l := by
  obtain ⟨h1, h2, h3, h4⟩ := h
  refine ⟨h1, h2, h3, h4.imp id fun ⟨b, o, e, hb, hc⟩ => ⟨b, o, e, hb, fun i hi => ?_⟩⟩
  obtain ⟨es, g1, g2⟩ := hc i hi
  exact ⟨es, fun j hj => (hw _ hb).trans (g1 j hj), R.stays hw g2⟩
theorem SliceOf.more {α : Type} {R : Rep α} {w : World} {B B' : Nat} {A : Option Addr} {n c : Nat} {l : List α} (hB : B ≤ B') (h : SliceOf R w B A n c l) : SliceOf R w B' A n c l := by
  obtain ⟨h1, h2, h3, h4⟩ := h
  refine ⟨h1, h2, h3, h4.imp id fun ⟨b, o, e, hb, hc⟩ => ⟨b, o, e, by omega, fun i hi => ?_⟩⟩
  obtain ⟨es, g1, g2⟩ := hc i hi
  exact ⟨es, g1, R.more hB g2⟩
theorem SliceOf.below {α : Type} {R : Rep α} {w w' : World} {B : Nat} {A : Option Addr} {n c : Nat} {l : List α} (hb : Below B w w') (h : SliceOf R w B A n c l) : SliceOf R w' B A n c l := h.stays fun _ hp => hb.cell hp
theorem SliceOf.nil {α : Type} (R : Rep α) (w : World) (B : Nat) : SliceOf R w B none 0 0 [] := ⟨rfl, Nat.le_refl _, Nat.zero_le _, .inl rfl⟩
theorem SliceOf.len {α : Type} {R : Rep α} {w : World} {B : Nat} {A : Option Addr} {n c : Nat} {l : List α} (h : SliceOf R w B A n c l) : n = l.length := h.1
theorem SliceOf.bound {α : Type} {R : Rep α} {w : World} {B : Nat} {A : Option Addr} {n c : Nat} {l : List α} (h : SliceOf R w B A n c l) : n ≤ c ∧ c ≤ 9223372036854775807 := ⟨h.2.1, h.2.2.1⟩
/-- The element at a place. -/
theorem SliceOf.get {α : Type} {R : Rep α} {w : World} {B : Nat} {A : Option Addr} {n c : Nat} {l : List α} (h : SliceOf R w B A n c l) (hn : 0 < n) :
    ∃ b o, A = some ⟨b, o, none⟩ ∧ b < B ∧ ∀ i (h : i < l.length), ∃ es, (∀ j, j < R.size → w.cell? ⟨b, o + i * R.size + j, none⟩ = es[j]?) ∧ R.cells w B l[i] es := by
  rcases h.2.2.2 with h | h
  · omega
  · exact h
/-- .. of one cell, an integer. -/
theorem SliceOf.ints {k : IntKind} {w : World} {B : Nat} {A : Option Addr} {n c : Nat} {l : List Int} (h : SliceOf (Rep.int k) w B A n c l) (hn : 0 < n) :
    ∃ b o, A = some ⟨b, o, none⟩ ∧ b < B ∧ ∀ i (h : i < l.length), w.cell? ⟨b, o + i, none⟩ = some (.int k l[i]) := by
  obtain ⟨b, o, e, hb, hc⟩ := h.get hn
  refine ⟨b, o, e, hb, fun i hi => ?_⟩
  obtain ⟨es, g1, g2, _⟩ := hc i hi
  have := g1 0 (Nat.zero_lt_one)
  rw [g2] at this
  simpa [Rep.int] using this
theorem SliceOf.wf {k : IntKind} {w : World} {B : Nat} {A : Option Addr} {n c : Nat} {l : List Int} (h : SliceOf (Rep.int k) w B A n c l) : ∀ x ∈ l, (Lit.int k x).wf = true := by
  intro x hx
  obtain ⟨i, hi, rfl⟩ := List.mem_iff_getElem.1 hx
  obtain ⟨b, o, e, hb, hc⟩ := h.get (by have := h.1; omega)
  obtain ⟨es, _, _, g⟩ := hc i hi
  exact g
/-- A slice, as one cell. -/
def Rep.slice {α : Type} (R : Rep α) : Rep (List α) where
  size := 1
  cells w B l cs := ∃ A n c, cs = [.slice A n c] ∧ SliceOf R w B A n c l
  length h := by obtain ⟨A, n, c, rfl, _⟩ := h; rfl
  stays hw h := by obtain ⟨A, n, c, e, h⟩ := h; exact ⟨A, n, c, e, h.stays hw⟩
  more hB h := by obtain ⟨A, n, c, e, h⟩ := h; exact ⟨A, n, c, e, h.more hB⟩

/-! ### Arguments: what can be read as data lies so. -/
/-- Whatever reads as data of type T lies as R says. -/
def Opens {α : Type} (P : Program) (R : Rep α) (T : TypeId) : Prop :=
  ∀ (H : Type) (enc : TypeId × Value → H) (w : World) (fuel : Nat) (cs : List Value) (y : DataW H × List MemPlace), DataW.trod enc P w 0 (fun _ => true) true fuel T cs = some y → ∃ x, R.cells w w.heap.size x cs
theorem opens_int {P : Program} {T : TypeId} {k : IntKind} (h : P.underlying T = some (.int k)) : Opens P (Rep.int k) T := by
  intro H enc w fuel cs y hy
  obtain ⟨n, rfl, _, hn⟩ := DataW.trod_int h hy
  exact ⟨n, rfl, hn⟩
theorem opens_bool {P : Program} {T : TypeId} (h : P.underlying T = some .bool) : Opens P Rep.bool T := by
  intro H enc w fuel cs y hy
  obtain ⟨b, rfl, _⟩ := DataW.trod_bool h hy
  exact ⟨b, rfl⟩
theorem lt_of_cell {w : World} {p : Addr} {v : Value} (h : w.cell? p = some v) : p.block < w.heap.size ∧ p.spot = none := by
  unfold World.cell? at h
  split at h
  · rename_i c e f hb
    refine ⟨(Array.getElem?_eq_some_iff.1 hb).1, ?_⟩
    cases hs : p.spot with
    | none => rfl
    | some x => simp [hs] at h
  · cases h
theorem add_eq {b o i : Nat} : (⟨b, o, none⟩ : Addr).add i = ⟨b, o + i, none⟩ := by
  unfold Addr.add
  split
  · rename_i h; subst h; rfl
  · rfl
theorem opens_slice {α : Type} {P : Program} {T E : TypeId} {R : Rep α} (ht : P.underlying T = some (.slice E)) (hE : P.cellsOf E = R.size) (hpos : 0 < R.size) (h : Opens P R E) : Opens P R.slice T := by
  intro H enc w fuel cs y hy
  rcases Go.Deep.open_slice ht hy with ⟨rfl, _⟩ | ⟨a, len, cap, m, n, D, Pl, rfl, _, hl, hm, hmm, _, hx⟩
  · exact ⟨[], none, 0, 0, rfl, SliceOf.nil R w _⟩
  · have hml : len ≤ m := by rw [hmm]; split <;> omega
    have hex : ∀ i, i < len → ∃ x cs', w.cells? 0 (a.add (i * P.cellsOf E)) (P.cellsOf E) = some cs' ∧ R.cells w w.heap.size x cs' := by
      intro i hi
      obtain ⟨cs', h1, h2⟩ := hx i (by omega)
      obtain ⟨x, hx⟩ := h H enc w n cs' _ h2
      exact ⟨x, cs', h1, hx⟩
    by_cases h0 : len = 0
    · subst h0
      exact ⟨[], some a, 0, cap, rfl, rfl, Nat.zero_le _, hm, .inl rfl⟩
    · have hinh : ∃ x : α, True := by obtain ⟨x, _⟩ := hex 0 (by omega); exact ⟨x, trivial⟩
      obtain ⟨x0, _⟩ := hinh
      have hch := Go.Deep.choose_lt (α := Option α) (n := len) (p := fun i x => ∃ y cs', x = some y ∧ w.cells? 0 (a.add (i * P.cellsOf E)) (P.cellsOf E) = some cs' ∧ R.cells w w.heap.size y cs')
        (fun i hi => by obtain ⟨x, cs', h1, h2⟩ := hex i hi; exact ⟨some x, x, cs', rfl, h1, h2⟩)
      obtain ⟨f, hf⟩ := hch
      have hspot : a.spot = none ∧ a.block < w.heap.size := by
        obtain ⟨y, cs', _, h1, h2⟩ := hf 0 (by omega)
        obtain ⟨_, hlen, hat⟩ := World.cells?_some h1
        have := hat 0 (by rw [hE]; exact hpos)
        rw [List.getElem?_eq_getElem (by rw [R.length h2]; exact hpos)] at this
        have e : ((a.add (0 * P.cellsOf E)).add 0) = a := by rw [Nat.zero_mul]; rfl
        rw [e] at this
        exact ⟨(lt_of_cell this).2, (lt_of_cell this).1⟩
      obtain ⟨b, o, s⟩ := a
      obtain ⟨hs, hb⟩ := hspot
      simp only at hs hb
      subst hs
      refine ⟨(List.range len).map fun i => (f i).getD x0, some ⟨b, o, none⟩, len, cap, rfl, by simp, hl, hm, .inr ⟨b, o, rfl, hb, fun i hi => ?_⟩⟩
      have hi' : i < len := by simpa using hi
      obtain ⟨y, cs', e, h1, h2⟩ := hf i hi'
      obtain ⟨_, hlen, hat⟩ := World.cells?_some h1
      refine ⟨cs', fun j hj => ?_, ?_⟩
      · have := hat j (by rw [hE]; exact hj)
        rw [add_eq, add_eq, hE] at this
        exact this
      · simpa [e] using h2
/-- Nothing, in no cell. -/
def Rep.unit : Rep Unit where
  size := 0
  cells _ _ _ cs := cs = []
  length h := by rw [h]; rfl
  stays _ h := h
  more _ h := h
/-- The fields of a struct from a cell on lie so. -/
def OpensAt {α : Type} (P : Program) (R : Rep α) (fs : List Field) (off : Nat) : Prop :=
  ∀ (H : Type) (enc : TypeId × Value → H) (w : World) (fuel : Nat) (cs : List Value),
    (∀ f ∈ fs, ∃ y, DataW.trod enc P w 0 (fun _ => true) true fuel f.type ((cs.drop f.offset).take (P.cellsOf f.type)) = some y) →
    ∃ x, R.cells w w.heap.size x ((cs.drop off).take R.size)
theorem opensAt_nil {P : Program} {off : Nat} : OpensAt P Rep.unit [] off := fun _ _ _ _ cs _ => ⟨(), by simp [Rep.unit]⟩
theorem opensAt_cons {α β : Type} {P : Program} {R : Rep α} {S : Rep β} {f : Field} {fs : List Field} {off : Nat} (ho : f.offset = off) (hc : P.cellsOf f.type = R.size) (h : Opens P R f.type) (hs : OpensAt P S fs (off + R.size)) :
    OpensAt P (R.pair S) (f :: fs) off := by
  intro H enc w fuel cs hf
  obtain ⟨y, hy⟩ := hf f (by simp)
  obtain ⟨x, hx⟩ := h H enc w fuel _ y hy
  obtain ⟨z, hz⟩ := hs H enc w fuel cs (fun g hg => hf g (by simp [hg]))
  refine ⟨(x, z), _, _, ?_, by rw [ho, hc] at hx; exact hx, hz⟩
  show (cs.drop off).take (R.size + S.size) = _
  rw [List.take_add, List.drop_drop]
theorem opens_struct {α : Type} {P : Program} {T : TypeId} {fs : Array Field} {R : Rep α} (ht : P.underlying T = some (.struct fs)) (hC : P.cellsOf T = R.size) (h : OpensAt P R fs.toList 0) : Opens P R T := by
  intro H enc w fuel cs y hy
  obtain ⟨xs, n, _, _, hlen, hsz, hf⟩ := DataW.trod_struct ht hy
  obtain ⟨x, hx⟩ := h H enc w n cs (fun f hfm => by
    obtain ⟨i, hi, e⟩ := List.mem_iff_getElem.1 hfm
    have hi' : i < fs.size := by simpa using hi
    have := hf i f (by rw [Array.getElem?_eq_getElem hi']; simpa using e)
    rw [List.getElem?_eq_getElem (by omega)] at this
    exact ⟨_, this⟩)
  refine ⟨x, ?_⟩
  rw [List.drop_zero, List.take_of_length_le (by omega)] at hx
  exact hx
theorem opens_via {α β : Type} {P : Program} {T : TypeId} {R : Rep β} {f : α → β} (g : β → α) (hfg : ∀ x, f (g x) = x) (h : Opens P R T) : Opens P (R.via f) T := by
  intro H enc w fuel cs y hy
  obtain ⟨x, hx⟩ := h H enc w fuel cs y hy
  exact ⟨g x, by show R.cells _ _ (f (g x)) _; rw [hfg]; exact hx⟩
/-- A byte. -/
def Rep.byte : Rep UInt8 where
  size := 1
  cells _ _ b cs := cs = [.int .u8 (b.toNat : Int)]
  length h := by rw [h]; rfl
  stays _ h := h
  more _ h := h
theorem opens_byte {P : Program} {T : TypeId} (h : P.underlying T = some (.int .u8)) : Opens P Rep.byte T := by
  intro H enc w fuel cs y hy
  obtain ⟨n, rfl, _, hn⟩ := DataW.trod_int h hy
  simp [Lit.wf, IntKind.min, IntKind.max, IntKind.signed, IntKind.bits] at hn
  refine ⟨UInt8.ofNat n.toNat, ?_⟩
  show [_] = [_]
  rw [UInt8.toNat_ofNat']
  congr 2
  omega
theorem SliceOf.bytes {w : World} {B : Nat} {A : Option Addr} {n c : Nat} {l : List UInt8} (h : SliceOf Rep.byte w B A n c l) (hn : 0 < n) :
    ∃ b o, A = some ⟨b, o, none⟩ ∧ b < B ∧ ∀ i (h : i < l.length), w.cell? ⟨b, o + i, none⟩ = some (.int .u8 (l[i].toNat : Int)) := by
  obtain ⟨b, o, e, hb, hc⟩ := h.get hn
  refine ⟨b, o, e, hb, fun i hi => ?_⟩
  obtain ⟨es, g1, g2⟩ := hc i hi
  have := g1 0 (Nat.zero_lt_one)
  rw [g2] at this
  simpa [Rep.byte] using this
/-- So many integers, in a row of cells. -/
def Rep.row (k : IntKind) (n : Nat) : Rep (List Int) where
  size := n
  cells _ _ l cs := cs = l.map (Value.int k) ∧ l.length = n ∧ ∀ x ∈ l, (Lit.int k x).wf = true
  length h := by rw [h.1, List.length_map]; exact h.2.1
  stays _ h := h
  more _ h := h
theorem opens_row {P : Program} {T E : TypeId} {k : IntKind} {n : Nat} (ht : P.underlying T = some (.array n E)) (he : P.underlying E = some (.int k)) (hE : P.cellsOf E = 1) (hT : P.cellsOf T = n) : Opens P (Rep.row k n) T := by
  intro H enc w fuel cs y hy
  obtain ⟨xs, m, _, _, hlen, hx, hi⟩ := DataW.trod_array ht hy
  have key : ∀ i (h : i < cs.length), ∃ z, cs[i] = .int k z ∧ (Lit.int k z).wf = true := by
    intro i hl
    have h1 := hi i (by omega)
    rw [hE, Nat.mul_one, List.drop_eq_getElem_cons hl, List.getElem?_eq_getElem (by omega)] at h1
    obtain ⟨z, e, _, hz⟩ := DataW.trod_int he h1
    simp only [List.take_succ_cons, List.take_zero, List.cons.injEq, and_true] at e
    exact ⟨z, e, hz⟩
  have main : ∀ l : List Value, (∀ v ∈ l, ∃ z, v = .int k z ∧ (Lit.int k z).wf = true) → ∃ zs : List Int, l = zs.map (Value.int k) ∧ ∀ z ∈ zs, (Lit.int k z).wf = true := by
    intro l
    induction l with
    | nil => intro _; exact ⟨[], rfl, by simp⟩
    | cons v l ih =>
      intro h
      obtain ⟨z, rfl, hz⟩ := h v (by simp)
      obtain ⟨zs, rfl, hzs⟩ := ih (fun u hu => h u (by simp [hu]))
      exact ⟨z :: zs, rfl, by simp only [List.mem_cons]; rintro u (rfl | hu) <;> first | exact hz | exact hzs u hu⟩
  obtain ⟨zs, e, hz⟩ := main cs (fun v hv => by obtain ⟨i, hi', rfl⟩ := List.mem_iff_getElem.1 hv; exact key i hi')
  exact ⟨zs, e, by rw [e, List.length_map] at hlen; omega, hz⟩

/-! ### What a step of a run keeps -/
/-- Of the blocks that were there only those of g may have turned; nothing has gone; the streams stand. -/
structure Kept (g : Nat → Prop) (w w' : World) : Prop where
  os : w'.os = w.os
  tape : w'.tape = w.tape
  output : w'.output = w.output
  size : w.heap.size ≤ w'.heap.size
  block : ∀ k, k < w.heap.size → ¬ g k → w'.heap[k]? = w.heap[k]?
/-- Only new memory. -/
abbrev New (w w' : World) : Prop := Kept (fun _ => False) w w'
namespace Kept
variable {g g' : Nat → Prop} {a b c w : World}
theorem refl (g : Nat → Prop) (w : World) : Kept g w w := ⟨rfl, rfl, rfl, Nat.le_refl _, fun _ _ _ => rfl⟩
theorem trans (h : Kept g a b) (k : Kept g b c) : Kept g a c :=
  ⟨k.os.trans h.os, k.tape.trans h.tape, k.output.trans h.output, Nat.le_trans h.size k.size, fun i hi hg => (k.block i (Nat.lt_of_lt_of_le hi h.size) hg).trans (h.block i hi hg)⟩
theorem mono (h : Kept g a b) (hg : ∀ k, k < a.heap.size → g k → g' k) : Kept g' a b := ⟨h.os, h.tape, h.output, h.size, fun k hk hn => h.block k hk fun x => hn (hg k hk x)⟩
/-- A second step that may turn what is new since a, too. -/
theorem step (h : Kept g a b) (k : Kept g' b c) (hg : ∀ i, i < a.heap.size → g' i → g i) : Kept g a c :=
  ⟨k.os.trans h.os, k.tape.trans h.tape, k.output.trans h.output, Nat.le_trans h.size k.size, fun i hi hn => (k.block i (Nat.lt_of_lt_of_le hi h.size) fun x => hn (hg i hi x)).trans (h.block i hi hn)⟩
theorem drew (h : Kept g a w) : Kept g a w.drew := ⟨h.os, h.tape, h.output, h.size, h.block⟩
theorem drewN (h : Kept g a w) (n : Nat) : Kept g a (w.drewN n) := ⟨h.os, h.tape, h.output, h.size, h.block⟩
theorem alloc (h : Kept g a w) (o : Obj) : Kept g a (w.alloc o) :=
  ⟨h.os, h.tape, h.output, Nat.le_trans h.size (by show w.heap.size ≤ (w.heap.push o).size; simp), fun k hk hg => (Below.heap_alloc w o k (Nat.lt_of_lt_of_le hk h.size)).trans (h.block k hk hg)⟩
theorem setCell (h : Kept g a w) {p : Addr} (hp : a.heap.size ≤ p.block ∨ g p.block) (v : Value) : Kept g a (w.setCell p v) :=
  ⟨h.os, h.tape, h.output, by simpa [World.setCell] using h.size, fun k hk hg => (Below.heap_setCell w p v k (by rintro rfl; rcases hp with hp | hp <;> first | omega | exact hg hp)).trans (h.block k hk hg)⟩
theorem grown {row : Option Nat} (h : Kept g a w) (hg : w.grownBy b row) (hr : ∀ k, row = some k → a.heap.size ≤ k ∨ g k) : Kept g a b :=
  ⟨hg.os.trans h.os, hg.tape.trans h.tape, hg.output.trans h.output, Nat.le_trans h.size hg.size, fun k hk hn => (hg.block k (Nat.lt_of_lt_of_le hk h.size) (fun e => by rcases hr k e.symm with x | x <;> first | omega | exact hn x)).trans (h.block k hk hn)⟩
theorem below (h : Kept g a b) {B : Nat} (hB : B ≤ a.heap.size) (hg : ∀ k, k < B → ¬ g k) : Below B a b := ⟨h.os, h.tape, h.output, h.size, fun k hk => h.block k (Nat.lt_of_lt_of_le hk hB) (hg k hk)⟩
theorem cell (h : Kept g a b) {p : Addr} (hp : p.block < a.heap.size) (hg : ¬ g p.block) : b.cell? p = a.cell? p := World.cell?_of_block (w := a) (h.block p.block hp hg)
theorem frozen (h : Kept g a b) {p : Addr} (hp : p.block < a.heap.size) (hg : ¬ g p.block) : b.frozen? p = a.frozen? p := World.frozen?_of_block (w := a) (h.block p.block hp hg)
end Kept
theorem New.below {a b : World} (h : New a b) : Below a.heap.size a b := Kept.below h (Nat.le_refl _) fun _ _ h => h
theorem New.of_below {a b : World} (h : Below a.heap.size a b) : New a b := ⟨h.os, h.tape, h.output, h.size, fun k hk _ => h.block k hk⟩
theorem SliceOf.kept {α : Type} {R : Rep α} {g : Nat → Prop} {w w' : World} {B : Nat} {A : Option Addr} {n c : Nat} {l : List α} (h : SliceOf R w B A n c l) (hk : Kept g w w') (hB : B ≤ w.heap.size) (hg : ∀ k, k < B → ¬ g k) : SliceOf R w' B A n c l :=
  h.below (hk.below hB hg)
/-- A block of the call's own, known whole. -/
def Blk (w : World) (b : Nat) (T : TypeId) (cs : Array Value) : Prop := w.heap[b]? = some (.cells cs T (0, 0))
theorem Blk.lt {w : World} {b : Nat} {T : TypeId} {cs : Array Value} (h : Blk w b T cs) : b < w.heap.size := (Array.getElem?_eq_some_iff.1 h).1
theorem Blk.cell {w : World} {b : Nat} {T : TypeId} {cs : Array Value} (h : Blk w b T cs) (i : Nat) : w.cell? ⟨b, i, none⟩ = cs[i]? := by
  unfold Blk at h; simp [World.cell?, h]
theorem Blk.free {w : World} {b : Nat} {T : TypeId} {cs : Array Value} (h : Blk w b T cs) (i : Nat) : w.frozen? ⟨b, i, none⟩ = false := by
  unfold Blk at h; simp [World.frozen?, h]
theorem Blk.kept {g : Nat → Prop} {w w' : World} {b : Nat} {T : TypeId} {cs : Array Value} (h : Blk w b T cs) (hk : Kept g w w') (hg : ¬ g b) : Blk w' b T cs := (hk.block b h.lt hg).trans h
theorem Blk.made (w : World) (T : TypeId) (cs : Array Value) : Blk (w.alloc (.cells cs T)) w.heap.size T cs := by
  show (w.heap.push _)[w.heap.size]? = _
  simp
theorem Blk.set {w : World} {b i : Nat} {T : TypeId} {cs : Array Value} (h : Blk w b T cs) (v : Value) : Blk (w.setCell ⟨b, i, none⟩ v) b T (cs.setIfInBounds i v) := by
  unfold Blk at *
  simp [World.setCell, Array.getElem?_modify, h]

/-! ### Slices of the call's own -/
/-- What append and make ask of a slice's type. -/
structure SliceTy (P : Program) (t e : TypeId) (size bytes : Nat) : Prop where
  under : P.underlying t = some (.slice e)
  info : ∃ i z, P.info? e = some i ∧ i.zero = some z ∧ i.size = size ∧ i.bytes = bytes ∧ z.cells.size = size
  pos : 0 < size
/-- Where a slice's row lies after an append: where it lay, or in new memory. -/
def Lain (v : Value) (H g : Nat) : Prop := v.ownBlock = some g ∨ H ≤ g
section
variable {P : Program} {w : World} {t e : TypeId} {size bytes : Nat}
theorem wpList_push (ty : SliceTy P t e size bytes) {ops : Array Oper} {rest : List Oper} {o : Oper} {a : Act} {Q : Exit → Act → World → Prop} (hgd : o.guard = none) (s x : Operand)
    (ho : o.op = .call { callee := .builtin .append, args := #[s, x], argTypes := #[t, t] })
    (base : Nat) {v : Value} {n : Nat} {xs : List Value} (hs : a.eval s = v) (hown : w.ownsRow base e size v n xs)
    (ad : Addr) (m c : Nat) (news : List Value) (hx : a.eval x = .slice (some ad) m c) (hl : news.length = m * size) (hnews : ∀ j u, news[j]? = some u → w.cell? (ad.add j) = some u) (h1 : ∀ u ∈ news, u.oneCell' = true)
    (hm : 0 < m) (h63 : n + m ≤ maxLen) (hbytes : (n + m) * bytes ≤ 140737488355328) (hbase : base ≤ w.heap.size)
    (h : ∀ g cap w', w'.ownsRow base e size (.slice (some ⟨g, 0, none⟩) (n + m) cap) (n + m) (xs ++ news) → w.grownBy w' v.ownBlock → Lain v w.heap.size g → g < w'.heap.size → wpList P ops Q rest (a.put o.dst (.slice (some ⟨g, 0, none⟩) (n + m) cap)) w') : wpList P ops Q (o :: rest) a w := by
  obtain ⟨i, z, hi, hz, hsize, hby, hzs⟩ := ty.info
  exact wpList_append_lies w hgd s x t ho base e i z size bytes ty.under hi hz hsize hby hzs ty.pos v n xs hs hown ad m c news hx hl hnews h1 hm h63 hbytes hbase _ rfl fun g cap w' a1 a2 a3 a4 => h g cap w' a1 a2 (a3.imp id fun e => Nat.le_of_eq e.symm) a4
end
/-- A byte as a cell. -/
def bv (c : UInt8) : Value := .int .u8 (c.toNat : Int)
theorem bv_one (l : List UInt8) : ∀ u ∈ l.map bv, u.oneCell' = true := by
  intro u hu
  obtain ⟨c, _, rfl⟩ := List.mem_map.1 hu
  rfl
theorem Kept.own {a w : World} {base : Nat} {e : TypeId} {size n : Nat} {v : Value} {xs : List Value} {g : Nat → Prop} (h : a.ownsRow base e size v n xs) (hk : Kept g a w) (hg : ∀ k, v.ownBlock = some k → ¬ g k) : w.ownsRow base e size v n xs := by
  obtain ⟨h1, h2⟩ := h
  refine ⟨h1, ?_⟩
  rcases h2 with h2 | ⟨b, cap, cur, hv, hb, hh, r⟩
  · exact .inl h2
  · exact .inr ⟨b, cap, cur, hv, hb, (hk.block b (Array.getElem?_eq_some_iff.1 hh).1 (hg b (by rw [hv]; rfl))).trans hh, r⟩
/-- a[:m] of an array behind a pointer. -/
theorem run_sliceAt_head {P : Program} (t e : TypeId) (n s : Nat) (a : Addr) (m : Nat) (ht : P.underlying t = some (.array n e)) (hs : ∀ W, (sizeOf e).run P W = .ok s W) (hm : m ≤ n) (W : World) :
    (Instr.sliceAt t (.pointer (some a)) none (some (.int .i64 (m : Int))) none).run P W = .ok (.slice (some a) m n) W := by
  have e1 : P.arrayLen t = n := by simp [Program.arrayLen, ht]
  have e2 : P.elem t = e := by simp [Program.elem, ht]
  rw [run_sliceAt_array_h W t a (by rw [e1, e2]; exact ht) .i64 _ (by omega) (by rw [e1]; omega), e2, hs, e1]
  simp [Result.andThen, slicedAt, Addr.add]
/-- Bytes of the call's own, from block B on (E: the type of a byte). -/
def OwnB (E : TypeId) (w : World) (B : Nat) (v : Value) (l : List UInt8) : Prop := w.ownsRow B E 1 v l.length (l.map bv)
theorem OwnB.alloc {E : TypeId} {w : World} {B : Nat} {v : Value} {l : List UInt8} (h : OwnB E w B v l) (o : Obj) : OwnB E (w.alloc o) B v l := World.ownsRow.alloc h o
theorem OwnB.kept {E : TypeId} {w w' : World} {B : Nat} {v : Value} {l : List UInt8} {g : Nat → Prop} (h : OwnB E w B v l) (hk : Kept g w w') (hg : ∀ k, v.ownBlock = some k → ¬ g k) : OwnB E w' B v l := Kept.own h hk hg
theorem OwnB.lt {E : TypeId} {w : World} {B : Nat} {v : Value} {l : List UInt8} (h : OwnB E w B v l) : ∀ k, v.ownBlock = some k → B ≤ k ∧ k < w.heap.size := World.ownsRow.lt h
/-- Bytes onto which one may append: the call's own, or such as are full. -/
def Src (E : TypeId) (w : World) (B : Nat) (v : Value) (l : List UInt8) : Prop := OwnB E w B v l ∨ ∃ A n, v = .slice A n n ∧ SliceOf Rep.byte w w.heap.size A n n l
theorem Src.kept {E : TypeId} {w w' : World} {B : Nat} {v : Value} {l : List UInt8} (h : Src E w B v l) (hk : New w w') : Src E w' B v l := by
  rcases h with h | ⟨A, n, rfl, h⟩
  · exact .inl (h.kept hk fun _ _ h => h)
  · exact .inr ⟨A, n, rfl, (h.kept hk (Nat.le_refl _) fun _ _ h => h).more hk.size⟩
section
variable {P : Program} {w : World} {t E : TypeId}
/-- append(b, c..) of bytes. -/
theorem wpList_bytes (ty : SliceTy P t E 1 1) {ops : Array Oper} {rest : List Oper} {o : Oper} {a : Act} {Q : Exit → Act → World → Prop} (hgd : o.guard = none) (s x : Operand)
    (ho : o.op = .call { callee := .builtin .append, args := #[s, x], argTypes := #[t, t] })
    (B : Nat) {v : Value} {l : List UInt8} (hs : a.eval s = v) (hsrc : Src E w B v l)
    (ad : Addr) (m c : Nat) (new : List UInt8) (hx : a.eval x = .slice (some ad) m c) (hl : new.length = m) (hnew : ∀ j u, (new.map bv)[j]? = some u → w.cell? (ad.add j) = some u) (hm : 0 < m)
    (hlen : l.length + m ≤ 140737488355328) (hbase : B ≤ w.heap.size)
    (h : ∀ g cap w', OwnB E w' B (.slice (some ⟨g, 0, none⟩) (l.length + m) cap) (l ++ new) → Kept (fun k => v.ownBlock = some k) w w' → Lain v w.heap.size g → wpList P ops Q rest (a.put o.dst (.slice (some ⟨g, 0, none⟩) (l.length + m) cap)) w') : wpList P ops Q (o :: rest) a w := by
  rcases hsrc with hown | ⟨A, n, rfl, hsl⟩
  · refine wpList_push ty hgd s x ho B hs hown ad m c (new.map bv) hx (by simp [hl]) hnew (bv_one _) hm (by unfold maxLen; omega) (by omega) hbase ?_
    intro g cap w' h1 h2 h3 _
    refine h g cap w' ?_ ((Kept.refl _ _).grown h2 fun k e => .inr e) h3
    unfold OwnB
    rw [List.length_append, List.map_append, hl]
    exact h1
  · obtain ⟨i, z, hi, hz, hsize, hby, hzs⟩ := ty.info
    obtain rfl : n = l.length := hsl.len
    refine wpList_append_grows w hgd s x t ho E i z 1 1 ty.under hi hz hsize hby hzs ty.pos A l.length l.length (l.map bv) hs ?_ (by simp) ?_ ad m c (new.map bv) hx (by simp [hl]) hnew (bv_one _) (by omega) (by unfold maxLen; omega) (by omega) ?_
    · intro e
      subst e
      rcases hsl.2.2.2 with h0 | ⟨b, o, e, _⟩
      · exact ⟨h0, h0⟩
      · cases e
    · intro b e j u hu
      by_cases h0 : 0 < l.length
      · obtain ⟨b', o', e', _, hc⟩ := hsl.bytes h0
        rw [e] at e'
        injection e' with e'
        subst e'
        have hj : j < l.length := by
          rcases Nat.lt_or_ge j l.length with h | h
          · exact h
          · rw [List.getElem?_eq_none (by simpa using h)] at hu; cases hu
        rw [add_eq, hc j hj]
        rw [List.getElem?_map, List.getElem?_eq_getElem hj] at hu
        exact hu
      · have : l = [] := List.eq_nil_of_length_eq_zero (by omega)
        subst this
        simp at hu
    · intro v' w' h1 h2
      obtain ⟨g, cap, rfl⟩ := Go.Joins.ownsRow_form h1 (by omega)
      have hg := h1.lt g rfl
      refine h g cap w' ?_ (((Kept.refl (fun _ => False) w).grown h2 fun k e => by cases e).mono fun _ _ h => h.elim) (.inr hg.1)
      unfold OwnB
      rw [List.length_append, List.map_append, hl]
      exact Go.Joins.ownsRow_le h1 hbase
/-- append(b, c) of one byte. -/
theorem wpList_byte (ty : SliceTy P t E 1 1) {ops : Array Oper} {rest : List Oper} {o : Oper} {a : Act} {Q : Exit → Act → World → Prop} (hgd : o.guard = none) (s x : Operand)
    (ho : o.op = .call { callee := .builtin .append, args := #[s, x], argTypes := #[t, t] })
    (B : Nat) {v : Value} {l : List UInt8} (hs : a.eval s = v) (hsrc : Src E w B v l)
    (ad : Addr) (c : Nat) (u : UInt8) (y : Value) (hx : a.eval x = .slice (some ad) 1 c) (hc : w.cell? ad = some y) (hy : y = bv u) (hlen : l.length ≤ 1073741824) (hbase : B ≤ w.heap.size)
    (h : ∀ g cap w', OwnB E w' B (.slice (some ⟨g, 0, none⟩) (l.length + 1) cap) (l ++ [u]) → Kept (fun k => v.ownBlock = some k) w w' → Lain v w.heap.size g → wpList P ops Q rest (a.put o.dst (.slice (some ⟨g, 0, none⟩) (l.length + 1) cap)) w') : wpList P ops Q (o :: rest) a w := by
  refine wpList_bytes ty hgd s x ho B hs hsrc ad 1 c [u] hx rfl ?_ (by decide) (by omega) hbase h
  intro j z hz
  cases j with
  | zero => simp at hz; subst hz; rw [← hy]; exact hc
  | succ j => simp at hz
/-- The cell of a block of one cell that was just made. -/
theorem new_cell (W : World) (x : Value) (T : TypeId) (n : Nat) (h : n = W.heap.size) : (W.alloc (.cells #[x] T)).cell? ⟨n, 0, none⟩ = some x := by
  subst h
  have hb : (W.alloc (.cells #[x] T)).heap[W.heap.size]? = some (.cells #[x] T) := by
    show (W.heap.push _)[W.heap.size]? = _
    simp
  unfold World.cell?
  simp only [hb]
  rfl
end
/-- A fresh literal of bytes. -/
theorem OwnB.made {E : TypeId} {w : World} {B : Nat} (hB : B ≤ w.heap.size) (l : List UInt8) (hl : l.length ≤ 1073741824) : OwnB E (w.alloc (.cells (l.map bv).toArray E)) B (.slice (some ⟨w.heap.size, 0, none⟩) l.length l.length) l := by
  refine ⟨by simp, .inr ⟨w.heap.size, l.length, (l.map bv).toArray, rfl, hB, ?_, Nat.le_refl _, by unfold maxLen; omega, by simp, by rw [Nat.mul_one]; exact List.take_of_length_le (by simp)⟩⟩
  show (w.heap.push _)[w.heap.size]? = _
  simp
theorem OwnB.read {E : TypeId} {w : World} {B g n c : Nat} {l : List UInt8} (h : OwnB E w B (.slice (some ⟨g, 0, none⟩) n c) l) : SliceOf Rep.byte w w.heap.size (some ⟨g, 0, none⟩) n c l := by
  obtain ⟨h1, h2⟩ := h
  rcases h2 with ⟨h2, _⟩ | ⟨b, cap, cur, hv, hb, hh, r1, r2, r3, r4⟩
  · cases h2
  · simp only [Value.slice.injEq, Option.some.injEq, Addr.mk.injEq, and_true] at hv
    obtain ⟨rfl, e2, rfl⟩ := hv
    refine ⟨e2, by omega, r2, ?_⟩
    by_cases h0 : n = 0
    · exact .inl h0
    · refine .inr ⟨g, 0, rfl, (Array.getElem?_eq_some_iff.1 hh).1, fun i hi => ⟨[bv l[i]], fun j hj => ?_, rfl⟩⟩
      have hj0 : j = 0 := Nat.lt_one_iff.1 hj
      subst hj0
      have e : (0 + i * Rep.byte.size + 0) = i := by show 0 + i * 1 + 0 = i; omega
      rw [e]
      have : cur[i]? = some (bv l[i]) := by
        have h4 : (cur.toList.take (l.length * 1))[i]? = (l.map bv)[i]? := by rw [r4]
        rw [List.getElem?_take, if_pos (by omega), List.getElem?_map, List.getElem?_eq_getElem hi] at h4
        simpa using h4
      simp [World.cell?, hh, this]
/-- A fresh block of bytes, whatever its mark. -/
theorem SliceOf.made {E : TypeId} {w : World} {fr : Nat × Nat} (l : List UInt8) (hl : l.length ≤ 1073741824) : SliceOf Rep.byte (w.alloc (.cells (l.map bv).toArray E fr)) (w.alloc (.cells (l.map bv).toArray E fr)).heap.size (some ⟨w.heap.size, 0, none⟩) l.length l.length l := by
  refine ⟨rfl, Nat.le_refl _, by unfold maxLen; omega, .inr ⟨w.heap.size, 0, rfl, by show _ < (w.heap.push _).size; simp, fun i hi => ⟨[bv l[i]], fun j hj => ?_, rfl⟩⟩⟩
  have hj0 : j = 0 := Nat.lt_one_iff.1 hj
  subst hj0
  have e : (0 + i * Rep.byte.size + 0) = i := by show 0 + i * 1 + 0 = i; omega
  have hb : (w.alloc (.cells (l.map bv).toArray E fr)).heap[w.heap.size]? = some (.cells (l.map bv).toArray E fr) := by
    show (w.heap.push _)[w.heap.size]? = _
    simp
  rw [e]
  unfold World.cell?
  simp only [hb]
  simp [hi]
theorem Blk.alloc {w : World} {b : Nat} {T : TypeId} {cs : Array Value} (h : Blk w b T cs) (o : Obj) : Blk (w.alloc o) b T cs := (Below.heap_alloc w o b h.lt).trans h
theorem Blk.made_at (w : World) (T : TypeId) (cs : Array Value) (n : Nat) (h : n = w.heap.size) : Blk (w.alloc (.cells cs T)) n T cs := by subst h; exact Blk.made _ _ _
theorem size1 (w : World) (o : Obj) : w.heap.size + 1 = (w.alloc o).heap.size := by show _ = (w.heap.push _).size; simp
/-- Another block behind a step that turned the bytes' own alone. -/
theorem Blk.far {T : TypeId} {w w' : World} {b g n c : Nat} {cs : Array Value} (h : Blk w b T cs) (hg : g ≠ b) (hk : Kept (fun k => (Value.slice (some ⟨g, 0, none⟩) n c).ownBlock = some k) w w') : Blk w' b T cs :=
  h.kept hk fun e => hg (by injection e)
theorem Lain.ne {g n c H g' b : Nat} (h : Lain (.slice (some ⟨g, 0, none⟩) n c) H g') (h1 : g ≠ b) (h2 : b < H) : g' ≠ b := by
  rcases h with h | h
  · simp only [Value.ownBlock, Option.some.injEq] at h; omega
  · omega
theorem New.step_own {a b w : World} (h : New a b) {g n c : Nat} (hg : a.heap.size ≤ g) (hk : Kept (fun k => (Value.slice (some ⟨g, 0, none⟩) n c).ownBlock = some k) b w) : New a w :=
  Kept.step h hk fun i hi e => by simp only [Value.ownBlock, Option.some.injEq] at e; omega
/-- a[k] of an array of bytes, as a value. -/
theorem run_index_bytes {P : Program} {T E : TypeId} {n : Nat} (ht : P.underlying T = some (.array n E)) (hs : ∀ W, (sizeOf E).run P W = .ok 1 W) (ha : ∀ W, (isAgg E).run P W = .ok false W) (L : List UInt8) (hL : L.length = n) (k : Nat) (hk : k < L.length) (W : World) :
    (Instr.index T (.agg (L.map bv).toArray) (.int .i64 (k : Int))).run P W = .ok (.int .u8 (L[k].toNat : Int)) W := by
  have h2 : k < n := by omega
  simp [Instr.index, run_underlying ht, hs, ha, part, asIntOf, h2, hk, bv]
/-- a[:] of an array behind a pointer. -/
theorem run_sliceAt_whole {P : Program} (t e : TypeId) (n s : Nat) (a : Addr) (ht : P.underlying t = some (.array n e)) (hs : ∀ W, (sizeOf e).run P W = .ok s W) (W : World) :
    (Instr.sliceAt t (.pointer (some a)) none none none).run P W = .ok (.slice (some a) n n) W := by
  have e1 : P.arrayLen t = n := by simp [Program.arrayLen, ht]
  have e2 : P.elem t = e := by simp [Program.elem, ht]
  rw [run_sliceAt_array_all W t a (by rw [e1, e2]; exact ht), e2, hs, e1]
  simp [Result.andThen, slicedAt, Addr.add]
theorem Blk.other {w : World} {b : Nat} {T : TypeId} {cs : Array Value} (h : Blk w b T cs) {p : Addr} (hp : b ≠ p.block) (v : Value) : Blk (w.setCell p v) b T cs := (Below.heap_setCell w p v b hp).trans h
theorem Kept.of_below {B : Nat} {a b : World} (h : Below B a b) : Kept (fun k => B ≤ k) a b := ⟨h.os, h.tape, h.output, h.size, fun k _ hn => h.block k (by omega)⟩
theorem Blk.below {B : Nat} {w w' : World} {b : Nat} {T : TypeId} {cs : Array Value} (h : Blk w b T cs) (hb : Below B w w') (hB : b < B) : Blk w' b T cs := (hb.block b hB).trans h
theorem SliceOf.drewN {α : Type} {R : Rep α} {w : World} {B : Nat} {A : Option Addr} {n c : Nat} {l : List α} (h : SliceOf R w B A n c l) (q : Nat) : SliceOf R (w.drewN q) B A n c l := SliceOf.stays (w := w) (w' := w.drewN q) (fun _ _ => rfl) h
theorem SliceOf.alloc {α : Type} {R : Rep α} {w : World} {B : Nat} {A : Option Addr} {n c : Nat} {l : List α} (h : SliceOf R w B A n c l) (hB : B ≤ w.heap.size) (o : Obj) : SliceOf R (w.alloc o) B A n c l := h.kept ((Kept.refl (fun _ => False) _).alloc _) hB fun _ _ h => h
/-- .. that a step leaves alone which turns one block, from B on. -/
theorem SliceOf.on {α : Type} {R : Rep α} {w w' : World} {B r : Nat} {A : Option Addr} {n c : Nat} {l : List α} (h : SliceOf R w B A n c l) (hk : Kept (fun k => k = r) w w') (hB : B ≤ r) (hr : r < w.heap.size) : SliceOf R w' B A n c l :=
  h.kept hk (by omega) fun k h1 h2 => by omega
/-- The cells of a block that was just made. -/
theorem new_cells (W : World) (cs : List Value) (T : TypeId) (n : Nat) (h : n = W.heap.size) : ∀ j u, cs[j]? = some u → (W.alloc (.cells cs.toArray T)).cell? ((⟨n, 0, none⟩ : Addr).add j) = some u := by
  intro j u hj
  rw [add_eq, Nat.zero_add, (Blk.made_at W T cs.toArray n h).cell j]
  simpa using hj
end Go.Fb
