/- Rows that may be written, anywhere in a block: read, written, cut, appended to. Over any program. -/
import Derived.Test.YtilioiebecpknaaMem
import Derived.Deep.AppendSrc
import Derived.Deep.Upon
import Derived.Laws.CopyOwn
namespace Go.Fb
open Go.RowKit
set_option linter.unusedVariables false

/-- A slice (address, length, capacity) whose cells lie in block r, from a place on, and may be written (none: it has no capacity). -/
structure Row (w : World) (size : Nat) (r : Option Nat) (A : Option Addr) (n c : Nat) (xs : List Value) : Prop where
  length : xs.length = n * size
  lies : (r = none ∧ n = 0 ∧ c = 0) ∨ (0 < c ∧ ∃ g o, r = some g ∧ A = some ⟨g, o, none⟩ ∧ n ≤ c ∧ c ≤ maxLen ∧ (∀ j, j < n * size → w.cell? ⟨g, o + j, none⟩ = xs[j]?) ∧
    ∀ j, j < c * size → (w.cell? ⟨g, o + j, none⟩).isSome = true ∧ w.frozen? ⟨g, o + j, none⟩ = false)

theorem isSome_setCells (b : Nat) : ∀ (vs : List Value) (o : Nat) (w : World) (x : Addr), (w.cell? x).isSome = true → ((w.setCells b o vs).cell? x).isSome = true
  | [], _, _, _, h => h
  | v :: vs, o, w, x, h => by
    refine isSome_setCells b vs (o + 1) _ x ?_
    by_cases e : (⟨b, o, none⟩ : Addr) = x
    · subst e; rw [World.cell?_setCell_same' _ _ _ h]; rfl
    · rw [World.cell?_setCell_other _ _ _ _ e]; exact h

namespace Row
variable {w w' : World} {size : Nat} {r : Option Nat} {A : Option Addr} {n c : Nat} {xs : List Value}
theorem le (h : Row w size r A n c xs) : n ≤ c := by
  rcases h.lies with ⟨_, h1, h2⟩ | ⟨_, _, _, _, _, h1, _⟩ <;> omega
theorem max (h : Row w size r A n c xs) : c ≤ maxLen := by
  rcases h.lies with ⟨_, h1, h2⟩ | ⟨_, _, _, _, _, _, h1, _⟩
  · rw [h2]; exact Nat.zero_le _
  · exact h1
theorem bound (h : Row w size r A n c xs) : n ≤ c ∧ c ≤ 9223372036854775807 := ⟨h.le, h.max⟩
theorem lt (h : Row w size r A n c xs) (hs : 0 < size) : ∀ g, r = some g → g < w.heap.size := by
  intro g hg
  rcases h.lies with ⟨h0, _⟩ | ⟨hc, g', o, h1, _, _, _, _, h2⟩
  · rw [h0] at hg; cases hg
  · rw [h1] at hg; cases hg
    have := (h2 0 (Nat.mul_pos hc hs)).1
    obtain ⟨v, hv⟩ := Option.isSome_iff_exists.1 this
    exact (lt_of_cell hv).1
theorem of_kept {G : Nat → Prop} (h : Row w size r A n c xs) (hs : 0 < size) (hk : Kept G w w') (hg : ∀ k, r = some k → ¬ G k) : Row w' size r A n c xs := by
  refine ⟨h.length, h.lies.imp id fun ⟨hc, g, o, h1, h2, h3, h4, h5, h6⟩ => ⟨hc, g, o, h1, h2, h3, h4, ?_⟩⟩
  have hl := h.lt hs g h1
  exact ⟨fun j hj => (hk.cell (p := ⟨g, o + j, none⟩) hl (hg g h1)).trans (h5 j hj), fun j hj => by
    rw [hk.cell (p := ⟨g, o + j, none⟩) hl (hg g h1), hk.frozen (p := ⟨g, o + j, none⟩) hl (hg g h1)]; exact h6 j hj⟩
theorem new (h : Row w size r A n c xs) (hs : 0 < size) (hk : New w w') : Row w' size r A n c xs := h.of_kept hs hk fun _ _ h => h
theorem drewN (h : Row w size r A n c xs) (q : Nat) : Row (w.drewN q) size r A n c xs := ⟨h.length, h.lies⟩
theorem nil (w : World) (size : Nat) : Row w size none none 0 0 [] := ⟨by simp, .inl ⟨rfl, rfl, rfl⟩⟩
theorem none_of (h : Row w size none A n c xs) : n = 0 ∧ c = 0 ∧ xs = [] := by
  rcases h.lies with ⟨_, h1, h2⟩ | ⟨_, _, _, h1, _⟩
  · have := h.length; subst h1; exact ⟨rfl, h2, List.eq_nil_of_length_eq_zero (by simpa using this)⟩
  · cases h1
/-- The cells. -/
theorem at_pos (h : Row w size r A n c xs) (hn : 0 < c) : ∃ g o, r = some g ∧ A = some ⟨g, o, none⟩ ∧ (∀ j, j < n * size → w.cell? ⟨g, o + j, none⟩ = xs[j]?) ∧ ∀ j, j < c * size → (w.cell? ⟨g, o + j, none⟩).isSome = true ∧ w.frozen? ⟨g, o + j, none⟩ = false := by
  rcases h.lies with ⟨_, h1, h2⟩ | ⟨_, g, o, h1, h2, h3, h4, h5, h6⟩
  · omega
  · exact ⟨g, o, h1, h2, h5, h6⟩
/-- .. of a block that is known whole. -/
theorem of_blk {T : TypeId} {g : Nat} {cur : Array Value} (h : Blk w g T cur) (o : Nat) (hn : n ≤ c) (hm : c ≤ maxLen) (hfit : o + c * size ≤ cur.size) (hpos : 0 < c) : Row w size (some g) (some ⟨g, o, none⟩) n c ((cur.toList.drop o).take (n * size)) := by
  have hle : n * size ≤ c * size := Nat.mul_le_mul_right _ hn
  refine ⟨by rw [List.length_take, List.length_drop, Array.length_toList]; omega, .inr ⟨hpos, g, o, rfl, rfl, hn, hm, fun j hj => ?_, fun j hj => ?_⟩⟩
  · rw [h.cell, List.getElem?_take, if_pos hj, List.getElem?_drop, Array.getElem?_toList]
  · rw [h.cell, h.free]
    rw [Array.getElem?_eq_getElem (by omega)]
    exact ⟨rfl, rfl⟩
theorem of_made {T : TypeId} (w : World) (cur : List Value) (hc : cur.length = c * size) (hm : c ≤ maxLen) (hpos : 0 < c) : Row (w.alloc (.cells cur.toArray T)) size (some w.heap.size) (some ⟨w.heap.size, 0, none⟩) c c cur := by
  have h := of_blk (size := size) (n := c) (c := c) (Blk.made w T cur.toArray) 0 (Nat.le_refl _) hm (by rw [List.size_toArray, hc]; omega) hpos
  rw [List.drop_zero, List.take_of_length_le (by rw [hc]; exact Nat.le_refl _)] at h
  exact h
/-- A slice of the call's own. -/
theorem of_own {B : Nat} {e : TypeId} {v : Value} (hs : 0 < size) (h : w.ownsRow B e size v n xs) : ∃ r A c, v = .slice A n c ∧ Row w size r A n c xs ∧ ∀ k, r = some k → B ≤ k := by
  obtain ⟨h1, h2⟩ := h
  rcases h2 with ⟨rfl, rfl⟩ | ⟨g, cap, cur, rfl, hb, hh, r1, r2, r3, r4⟩
  · refine ⟨none, none, 0, rfl, ⟨h1, .inl ⟨rfl, rfl, rfl⟩⟩, by intro k hk; cases hk⟩
  · by_cases h0 : 0 < cap
    · have := of_blk (size := size) (n := n) (c := cap) (show Blk w g e cur from hh) 0 r1 r2 (by omega) h0
      rw [List.drop_zero, r4] at this
      exact ⟨some g, _, cap, rfl, this, by intro k hk; injection hk with hk; omega⟩
    · have hn0 : n = 0 := by omega
      have hc0 : cap = 0 := by omega
      subst hn0; subst hc0
      exact ⟨none, _, 0, rfl, ⟨h1, .inl ⟨rfl, rfl, rfl⟩⟩, by intro k hk; cases hk⟩
/-- A part of it. -/
theorem cut (h : Row w size r A n c xs) {lo hi c' : Nat} (h1 : lo ≤ hi) (h2 : hi ≤ n) (h3 : hi - lo ≤ c') (h4 : lo + c' ≤ c) (hp : 0 < c') :
    ∃ g o, r = some g ∧ A = some ⟨g, o, none⟩ ∧ Row w size r (some ⟨g, o + lo * size, none⟩) (hi - lo) c' ((xs.drop (lo * size)).take ((hi - lo) * size)) := by
  obtain ⟨g, o, e1, e2, h5, h6⟩ := h.at_pos (by omega)
  have hl := h.length
  have hm := h.max
  have k1 : hi * size ≤ n * size := Nat.mul_le_mul_right _ h2
  have k2 : (hi - lo) * size = hi * size - lo * size := Nat.sub_mul _ _ _
  have k3 : lo * size ≤ hi * size := Nat.mul_le_mul_right _ h1
  have k4 : (lo + c') * size ≤ c * size := Nat.mul_le_mul_right _ h4
  rw [Nat.add_mul] at k4
  refine ⟨g, o, e1, e2, ⟨by rw [List.length_take, List.length_drop]; omega, .inr ⟨hp, g, _, e1, rfl, h3, by unfold maxLen at *; omega, fun j hj => ?_, fun j hj => ?_⟩⟩⟩
  · rw [Nat.add_assoc, h5 _ (by omega), List.getElem?_take, if_pos hj, List.getElem?_drop]
  · rw [Nat.add_assoc]; exact h6 _ (by omega)
/-- The first ones of it. -/
theorem head (h : Row w size r A n c xs) {k : Nat} (h2 : k ≤ n) : Row w size r A k c (xs.take (k * size)) := by
  have hl := h.length
  have hle := h.le
  have k1 : k * size ≤ n * size := Nat.mul_le_mul_right _ h2
  refine ⟨by rw [List.length_take]; omega, ?_⟩
  rcases h.lies with ⟨e, h1, h2⟩ | ⟨hp, g, o, e1, e2, h3, h4, h5, h6⟩
  · exact .inl ⟨e, by omega, h2⟩
  · refine .inr ⟨hp, g, o, e1, e2, by omega, h4, fun j hj => ?_, h6⟩
    rw [h5 j (by omega), List.getElem?_take, if_pos hj]
/-- A cell of it is written. -/
theorem set (h : Row w size r A n c xs) {g o j : Nat} (e2 : A = some ⟨g, o, none⟩) (hj : j < n * size) (v : Value) : Row (w.setCell ⟨g, o + j, none⟩ v) size r A n c (xs.set j v) := by
  refine ⟨by rw [List.length_set]; exact h.length, ?_⟩
  have hl := h.length
  rcases h.lies with ⟨e, h1, h2⟩ | ⟨hp, g', o', e1, e2', h3, h4, h5, h6⟩
  · subst h1; omega
  · rw [e2] at e2'
    injection e2' with e2'
    injection e2' with eg eo
    subst eg; subst eo
    have hle : n * size ≤ c * size := Nat.mul_le_mul_right _ h3
    refine .inr ⟨hp, g, o, e1, e2, h3, h4, fun i hi => ?_, fun i hi => ?_⟩
    · by_cases e : i = j
      · subst e
        rw [World.cell?_setCell_same' _ _ _ (h6 i (by omega)).1, List.getElem?_set_self (by omega)]
      · rw [World.cell?_setCell_other _ _ _ _ (fun h => e (by injection h; omega)), h5 i hi, List.getElem?_set_ne (fun h => e h.symm)]
    · refine ⟨?_, by rw [World.frozen?_setCell]; exact (h6 i hi).2⟩
      exact isSome_setCells g [v] (o + j) w _ (h6 i hi).1
end Row
theorem size_set (w : World) (p : Addr) (v : Value) : w.heap.size = (w.setCell p v).heap.size := by simp [World.setCell]
theorem Kept.set1 (w : World) (b o : Nat) (v : Value) : Kept (fun k => k = b) w (w.setCell ⟨b, o, none⟩ v) := (Kept.refl (fun k => k = b) w).setCell (.inr rfl) v
theorem Kept.setCells {G : Nat → Prop} {a : World} {b : Nat} : ∀ (vs : List Value) (o : Nat) (w : World), Kept G a w → (a.heap.size ≤ b ∨ G b) → Kept G a (w.setCells b o vs)
  | [], _, _, h, _ => h
  | v :: vs, o, w, h, hb => Kept.setCells vs (o + 1) _ (h.setCell (p := ⟨b, o, none⟩) hb v) hb
section
variable {P : Program} {w : World} {t tx e : TypeId} {size bytes : Nat}
/-- append, of whatever. -/
theorem run_append_row (ty : SliceTy P t e size bytes) (tr : TypeId) {r : Option Nat} {A : Option Addr} {n c : Nat} {xs : List Value} (hrow : Row w size r A n c xs)
    {vx : Value} {m : Nat} {news : List Value} (hsrc : Go.Src P size tx vx m news w) (h63 : n + m ≤ maxLen) (hbytes : (n + m) * bytes ≤ 140737488355328) :
    ∃ r' A' c' w', (Builtin.append_ #[t, tx] tr #[.slice A n c, vx]).run P w = .ok (.slice A' (n + m) c') w' ∧ Row w' size r' A' (n + m) c' (xs ++ news) ∧ Kept (fun k => r = some k) w w' ∧ ∀ k, r' = some k → r = some k ∨ w.heap.size ≤ k := by
  obtain ⟨i, z, hi, hz, hsize, hby, hzs⟩ := ty.info
  have hpos := ty.pos
  have hnl := hsrc.newsLen
  have hxl := hrow.length
  have hle := hrow.le
  have hcm := hrow.max
  by_cases hroom : n + m ≤ c
  · rcases hrow.lies with ⟨rfl, rfl, rfl⟩ | ⟨hc, g, o, rfl, rfl, h3, h4, h5, h6⟩
    · obtain rfl : m = 0 := by omega
      obtain rfl : xs = [] := List.eq_nil_of_length_eq_zero (by omega)
      obtain rfl : news = [] := List.eq_nil_of_length_eq_zero (by omega)
      subst hsize
      exact ⟨none, A, 0, w, run_append_nothing w t tx tr e i ty.under hi A 0 0 (Nat.le_refl _) vx hsrc, hrow, Kept.refl _ _, fun k hk => by cases hk⟩
    · have k4 : (n + m) * size ≤ c * size := Nat.mul_le_mul_right _ hroom
      rw [Nat.add_mul] at k4
      subst hsize
      have hc1 : ∀ j, j < news.length → (w.cell? ⟨g, o + n * i.size + j, none⟩).isSome = true := fun j hj => by rw [Nat.add_assoc]; exact (h6 _ (by omega)).1
      have hrun := run_append_room_src (P := P) w t tx tr e i ty.under hi g o n c vx m news hsrc hroom hc1 (fun j hj => by rw [Nat.add_assoc]; exact (h6 _ (by omega)).2)
      refine ⟨some g, _, c, _, hrun, ⟨by rw [List.length_append, Nat.add_mul]; omega, .inr ⟨hc, g, o, rfl, rfl, hroom, h4, fun j hj => ?_, fun j hj => ?_⟩⟩, Kept.setCells _ _ _ (Kept.refl _ _) (.inr rfl), fun k hk => .inl hk⟩
      · rw [Nat.add_mul] at hj
        by_cases hj1 : j < n * i.size
        · rw [World.cell?_setCells_out g news _ w ⟨g, o + j, none⟩ (fun _ _ => .inl (by simp only; omega)), h5 j hj1, List.getElem?_append_left (by omega)]
        · rw [show o + j = o + n * i.size + (j - n * i.size) by omega, World.cell?_setCells_in g news _ w hc1 (j - n * i.size) (by omega), List.getElem?_append_right (by omega), hxl, List.getElem?_eq_getElem (by omega)]
      · exact ⟨isSome_setCells _ _ _ _ _ (h6 j hj).1, by rw [World.frozen?_setCells]; exact (h6 j hj).2⟩
  · have hold : (Builtin.firstCells i.size n (.slice A n c)).run P w.drew = .ok xs.toArray w.drew := by
      subst hsize
      rcases hrow.lies with ⟨rfl, rfl, rfl⟩ | ⟨hc, g, o, rfl, rfl, h3, h4, h5, h6⟩
      · obtain rfl : xs = [] := List.eq_nil_of_length_eq_zero (by omega)
        cases A with
        | none => exact run_firstCells_none w.drew _ 0 0 0
        | some a => exact run_firstCells_some w.drew _ 0 a 0 0 [] (by simp) (by simp)
      · exact run_firstCells_some w.drew _ n _ n c xs hxl (fun j u hu => by
          rw [add_eq]
          show w.cell? _ = _
          rw [h5 j (by
            rcases Nat.lt_or_ge j xs.length with h | h
            · omega
            · rw [List.getElem?_eq_none h] at hu; cases hu)]
          exact hu)
    subst hsize
    subst hby
    have hge := grownCap_ge w (n + m) c e
    have hgm : grownCap w (n + m) c e ≤ maxLen := grownCap_le_maxLen w (n + m) c e h63
    have hrun := run_append_grow_src (P := P) w t tx tr e i z ty.under hi hz A n c xs hold vx m news hsrc (by omega) (by unfold maxLen at h63; omega) (growslice_fits (by omega) hbytes)
    have hlen : (xs ++ news).length = (n + m) * i.size := by rw [List.length_append, hxl, hnl, Nat.add_mul]
    have hk4 : (n + m) * i.size ≤ grownCap w (n + m) c e * i.size := Nat.mul_le_mul_right _ hge
    have hsz : ((xs ++ news).toArray ++ Builtin.zeroCells z.cells (grownCap w (n + m) c e - (n + m))).size = grownCap w (n + m) c e * i.size := by
      rw [Array.size_append, List.size_toArray, hlen, size_zeroCells, hzs, Nat.sub_mul]; omega
    have hblk := Blk.made w.drew e ((xs ++ news).toArray ++ Builtin.zeroCells z.cells (grownCap w (n + m) c e - (n + m)))
    have hr := Row.of_blk (size := i.size) (n := n + m) (c := grownCap w (n + m) c e) hblk 0 hge hgm (by rw [hsz]; omega) (by omega)
    rw [List.drop_zero, Array.toList_append, List.take_append_of_le_length (Nat.le_of_eq hlen.symm), List.take_of_length_le (Nat.le_of_eq hlen)] at hr
    exact ⟨_, _, _, _, hrun, hr, ((Kept.refl _ _).drew).alloc _, fun k hk => .inr (by injection hk with hk; rw [← hk]; exact Nat.le_refl _)⟩
theorem wpList_append_row (ty : SliceTy P t e size bytes) {ops : Array Oper} {rest : List Oper} {o : Oper} {a : Act} {Q : Exit → Act → World → Prop} (hgd : o.guard = none) (s x : Operand)
    (ho : o.op = .call { callee := .builtin .append, args := #[s, x], argTypes := #[t, tx] }) {r : Option Nat} {A : Option Addr} {n c : Nat} {xs : List Value} (hs : a.eval s = .slice A n c) (hrow : Row w size r A n c xs)
    {vx : Value} {m : Nat} {news : List Value} (hx : a.eval x = vx) (hsrc : Go.Src P size tx vx m news w) (h63 : n + m ≤ maxLen) (hbytes : (n + m) * bytes ≤ 140737488355328)
    (h : ∀ r' A' c' w', Row w' size r' A' (n + m) c' (xs ++ news) → Kept (fun k => r = some k) w w' → (∀ k, r' = some k → r = some k ∨ w.heap.size ≤ k) → wpList P ops Q rest (a.put o.dst (.slice A' (n + m) c')) w') : wpList P ops Q (o :: rest) a w := by
  refine wpList_plain hgd fun K hK' => ?_
  obtain ⟨r', A', c', w', hrun, h1, h2, h3⟩ := run_append_row (P := P) ty o.type hrow hsrc h63 hbytes
  unfold Oper.wp
  simp [execOp, ho, resolve, invoke, builtin, hs, hx, hrun, Result.andThen]
  exact hK' _ _ (h r' A' c' w' h1 h2 h3)
end
/-! ### Lists of things, told cell by cell -/
theorem flatMap_len {α : Type} {f : α → List Value} {size : Nat} : ∀ (l : List α), (∀ x ∈ l, (f x).length = size) → (l.flatMap f).length = l.length * size
  | [], _ => by simp
  | x :: l, h => by rw [List.flatMap_cons, List.length_append, h x (by simp), flatMap_len l (fun y hy => h y (by simp [hy])), List.length_cons, Nat.succ_mul]; omega
theorem flatMap_get {α : Type} {f : α → List Value} {size : Nat} : ∀ (l : List α), (∀ x ∈ l, (f x).length = size) → ∀ i (hi : i < l.length) j, j < size → (l.flatMap f)[i * size + j]? = (f l[i])[j]?
  | [], _, i, hi, _, _ => by simp at hi
  | x :: l, h, i, hi, j, hj => by
    have hx := h x (by simp)
    rw [List.flatMap_cons]
    cases i with
    | zero => rw [Nat.zero_mul, Nat.zero_add, List.getElem?_append_left (by omega)]; rfl
    | succ i =>
      rw [List.getElem?_append_right (by rw [hx, Nat.succ_mul]; omega), hx, show (i + 1) * size + j - size = i * size + j by rw [Nat.succ_mul]; omega]
      exact flatMap_get l (fun y hy => h y (by simp [hy])) i (by simpa using hi) j hj
theorem flatMap_set {α : Type} {f : α → List Value} {size : Nat} : ∀ (l : List α), (∀ x ∈ l, (f x).length = size) → ∀ i (hi : i < l.length) j (_ : j < size) (v : Value) (y : α), f y = (f l[i]).set j v → (l.flatMap f).set (i * size + j) v = (l.set i y).flatMap f
  | [], _, i, hi, _, _, _, _, _ => by simp at hi
  | x :: l, h, i, hi, j, hj, v, y, hy => by
    have hx := h x (by simp)
    rw [List.flatMap_cons]
    cases i with
    | zero => rw [Nat.zero_mul, Nat.zero_add, List.set_append, if_pos (by omega), List.set_cons_zero, List.flatMap_cons, hy]; rfl
    | succ i =>
      rw [List.set_append, if_neg (by rw [hx, Nat.succ_mul]; omega), hx, show (i + 1) * size + j - size = i * size + j by rw [Nat.succ_mul]; omega, List.set_cons_succ, List.flatMap_cons]
      rw [flatMap_set l (fun y hy => h y (by simp [hy])) i (by simpa using hi) j hj v y hy]
/-- A row, read as a list of things. -/
theorem Row.slice {α : Type} {R : Rep α} {w : World} {f : α → List Value} {r : Option Nat} {A : Option Addr} {n c : Nat} {l : List α} (h : Row w R.size r A n c (l.flatMap f)) (hs : 0 < R.size) (hl : l.length = n)
    (hf : ∀ x ∈ l, R.cells w w.heap.size x (f x)) : SliceOf R w w.heap.size A n c l := by
  refine ⟨hl.symm, h.le, h.max, ?_⟩
  have hlen : ∀ x ∈ l, (f x).length = R.size := fun x hx => R.length (hf x hx)
  by_cases h0 : n = 0
  · exact .inl h0
  · obtain ⟨g, o, e1, e2, h5, _⟩ := h.at_pos (by have := h.le; omega)
    refine .inr ⟨g, o, e2, h.lt hs g e1, fun i hi => ⟨f l[i], fun j hj => ?_, hf _ (List.getElem_mem hi)⟩⟩
    have k1 : i * R.size + R.size ≤ n * R.size := by rw [← Nat.succ_mul]; exact Nat.mul_le_mul_right _ (by omega)
    rw [Nat.add_assoc, h5 _ (by omega), flatMap_get l hlen i hi j hj]
/-- Things that were just built are appended. -/
theorem wpList_append_many {P : Program} {W : World} {t e : TypeId} {size bytes : Nat} (ty : SliceTy P t e size bytes) {ops : Array Oper} {rest : List Oper} {o : Oper} {a : Act} {Q : Exit → Act → World → Prop} (hgd : o.guard = none) (s x : Operand)
    (ho : o.op = .call { callee := .builtin .append, args := #[s, x], argTypes := #[t, t] }) {r : Option Nat} {A : Option Addr} {n c : Nat} {xs : List Value} (hs : a.eval s = .slice A n c) (hrow : Row W size r A n c xs)
    {g m c0 : Nat} {cs : List Value} {T : TypeId} {fr : Nat × Nat} (hg : g = W.heap.size) (hx : a.eval x = .slice (some ⟨g, 0, none⟩) m c0) (hl : cs.length = m * size) (h1 : ∀ u ∈ cs, u.oneCell' = true) (h63 : n + m ≤ maxLen) (hbytes : (n + m) * bytes ≤ 140737488355328)
    (h : ∀ r' A' c' w', Row w' size r' A' (n + m) c' (xs ++ cs) → Kept (fun k => r = some k) W w' → (∀ k, r' = some k → r = some k ∨ W.heap.size ≤ k) → wpList P ops Q rest (a.put o.dst (.slice A' (n + m) c')) w') :
    wpList P ops Q (o :: rest) a (W.alloc (.cells cs.toArray T fr)) := by
  have hk : New W (W.alloc (.cells cs.toArray T fr)) := (Kept.refl _ _).alloc _
  refine wpList_append_row ty hgd s x ho hs (hrow.new ty.pos hk) hx (Go.Src.ofSlice _ ty.under _ m c0 cs hl (fun j u hj => ?_) h1) h63 hbytes ?_
  · have hb : (W.alloc (.cells cs.toArray T fr)).heap[W.heap.size]? = some (.cells cs.toArray T fr) := by
      show (W.heap.push _)[W.heap.size]? = _
      simp
    rw [add_eq, Nat.zero_add, hg]
    unfold World.cell?
    simp only [hb]
    simpa using hj
  · intro r' A' c' w' h1 h2 h3
    refine h r' A' c' w' h1 ((hk.mono fun _ _ h => h.elim).trans h2) fun k hk => (h3 k hk).imp id fun h => ?_
    have := (Kept.refl (fun _ => False) W).alloc (.cells cs.toArray T fr) |>.size
    omega
/-- A thing that was just built is appended. -/
theorem wpList_append_one {P : Program} {W : World} {t e : TypeId} {size bytes : Nat} (ty : SliceTy P t e size bytes) {ops : Array Oper} {rest : List Oper} {o : Oper} {a : Act} {Q : Exit → Act → World → Prop} (hgd : o.guard = none) (s x : Operand)
    (ho : o.op = .call { callee := .builtin .append, args := #[s, x], argTypes := #[t, t] }) {r : Option Nat} {A : Option Addr} {n c : Nat} {xs : List Value} (hs : a.eval s = .slice A n c) (hrow : Row W size r A n c xs)
    {g c0 : Nat} {cs : List Value} {T : TypeId} (hg : g = W.heap.size) (hx : a.eval x = .slice (some ⟨g, 0, none⟩) 1 c0) (hl : cs.length = size) (h1 : ∀ u ∈ cs, u.oneCell' = true) (h63 : n + 1 ≤ maxLen) (hbytes : (n + 1) * bytes ≤ 140737488355328)
    (h : ∀ r' A' c' w', Row w' size r' A' (n + 1) c' (xs ++ cs) → Kept (fun k => r = some k) W w' → (∀ k, r' = some k → r = some k ∨ W.heap.size ≤ k) → wpList P ops Q rest (a.put o.dst (.slice A' (n + 1) c')) w') :
    wpList P ops Q (o :: rest) a (W.alloc (.cells cs.toArray T)) :=
  wpList_append_many ty hgd s x ho hs hrow hg hx (by omega) h1 h63 hbytes h
/-- make. -/
theorem run_make_ty {P : Program} {t e : TypeId} {size bytes : Nat} (ty : SliceTy P t e size bytes) {li ci : Int} (l c : Nat) (hl : li = l) (hc : ci = c) (hlc : l ≤ c) (hb : bytes * c ≤ 281474976710656) (h63 : c ≤ 9223372036854775807) :
    ∃ z cs, (∃ i, P.info? e = some i ∧ i.zero = some z) ∧ cs = (madeCells z.cells (c * size)).toList ∧ cs.length = c * size ∧ ∀ w, (Instr.makeSlice t (.int .i64 li) (.int .i64 ci)).run P w = .ok (.slice (some ⟨w.heap.size, 0, none⟩) l c) (w.alloc (.cells cs.toArray e)) := by
  obtain ⟨i, z, hi, hz, hsize, hby, hzs⟩ := ty.info
  subst hl; subst hc
  refine ⟨z, (madeCells z.cells (c * size)).toList, ⟨i, hi, hz⟩, rfl, by simp [size_madeCells], fun w => ?_⟩
  have hb' : (i.bytes : Int) * (c : Int) ≤ 281474976710656 := by
    have h : ((i.bytes * c : Nat) : Int) ≤ 281474976710656 := by rw [hby]; omega
    rwa [Int.natCast_mul] at h
  have hr := run_make (P := P) w t e i z ty.under hi hz .i64 .i64 l c (by omega) (by omega) hb' (by omega)
  simp only [Int.toNat_natCast, hsize] at hr
  simpa using hr
theorem Row.of_make {T : TypeId} {size : Nat} (w : World) (cs : List Value) (c : Nat) (hc : cs.length = c * size) (hm : c ≤ maxLen) : ∃ r, Row (w.alloc (.cells cs.toArray T)) size r (some ⟨w.heap.size, 0, none⟩) 0 c [] ∧ ∀ k, r = some k → k = w.heap.size := by
  by_cases h0 : 0 < c
  · have := (Row.of_made (T := T) w cs hc hm h0).head (Nat.zero_le c)
    rw [Nat.zero_mul, List.take_zero] at this
    exact ⟨_, this, by intro k hk; injection hk with hk; exact hk.symm⟩
  · obtain rfl : c = 0 := by omega
    exact ⟨none, ⟨by simp, .inl ⟨rfl, rfl, rfl⟩⟩, by intro k hk; cases hk⟩
/-- What is behind the first ones of a slice. -/
theorem SliceOf.drop {α : Type} {R : Rep α} {w : World} {B b o n c : Nat} {l : List α} (h : SliceOf R w B (some ⟨b, o, none⟩) n c l) {k : Nat} (hk : k ≤ n) : SliceOf R w B (some ⟨b, o + k * R.size, none⟩) (n - k) (c - k) (l.drop k) := by
  obtain ⟨h1, h2, h3, h4⟩ := h
  refine ⟨by rw [List.length_drop]; omega, by omega, by unfold maxLen at *; omega, ?_⟩
  rcases h4 with h4 | ⟨b', o', e, hb, hc⟩
  · exact .inl (by omega)
  · injection e with e
    injection e with e1 e2
    subst e1; subst e2
    refine .inr ⟨b, _, rfl, hb, fun i hi => ?_⟩
    rw [List.length_drop] at hi
    obtain ⟨es, g1, g2⟩ := hc (k + i) (by omega)
    refine ⟨es, fun j hj => ?_, by rw [List.getElem_drop]; exact g2⟩
    rw [← g1 j hj, Nat.add_mul]
    congr 2
    omega
theorem SliceOf.take {α : Type} {R : Rep α} {w : World} {B n c c' : Nat} {A : Option Addr} {l : List α} (h : SliceOf R w B A n c l) {k : Nat} (hk : k ≤ n) (h1 : k ≤ c') (h2 : c' ≤ maxLen) : SliceOf R w B A k c' (l.take k) := by
  obtain ⟨g1, g2, g3, g4⟩ := h
  refine ⟨by rw [List.length_take]; omega, h1, h2, ?_⟩
  by_cases h0 : k = 0
  · exact .inl h0
  · rcases g4 with g4 | ⟨b, o, e, hb, hc⟩
    · omega
    · refine .inr ⟨b, o, e, hb, fun i hi => ?_⟩
      rw [List.length_take] at hi
      obtain ⟨es, k1, k2⟩ := hc i (by omega)
      exact ⟨es, k1, by rw [List.getElem_take]; exact k2⟩
end Go.Fb
