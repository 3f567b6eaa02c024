/- How a post lies: lanes side by side (layer 10). -/
import Derived.Test.YtnfaafdgfafcjaaLaneN
import Derived.Test.YtnfaafdgfafcjaaViewKa
namespace Go.Proofs.Ytnfaafdgfafcjaa.Lane
open Go.RowKit Go.Fb
set_option linter.unusedVariables false
def ptr (b : Nat) : Value := .pointer (some ⟨b, 0, none⟩)
/-- A post: a row of pointers, each to a lane of its own; and which is looked at first. -/
structure PParts (TP TL : TypeId) (w : World) (b : Nat) (r : Option Nat) (A : Option Addr) (c : Nat) (bs : Nat → Nat) (Fs : Nat → Nat → Prop) (Ls : List Lane) (cur : Int) : Prop where
  blk : Blk w b TP #[.slice A Ls.length c, .int .i64 cur]
  row : Row w 1 r A Ls.length c ((List.range Ls.length).map fun i => ptr (bs i))
  lanes : ∀ i (h : i < Ls.length), AtT TL w (bs i) (Fs i) Ls[i]
  apart : ∀ i k, Fs i k → k ≠ b ∧ r ≠ some k
  dis : ∀ i j k, i ≠ j → Fs i k → ¬ Fs j k
  rb : r ≠ some b
  lt : ∀ i k, Fs i k → k < w.heap.size
def foot (b : Nat) (r : Option Nat) (Fs : Nat → Nat → Prop) (k : Nat) : Prop := k = b ∨ r = some k ∨ ∃ i, Fs i k
def inner (Fs : Nat → Nat → Prop) (k : Nat) : Prop := ∃ i, Fs i k
structure PAtT (TP TL : TypeId) (w : World) (b : Nat) (F : Nat → Prop) (Ls : List Lane) (cur : Int) : Prop where
  parts : ∃ r A c bs Fs, PParts TP TL w b r A c bs Fs Ls cur ∧ ∀ k, foot b r Fs k → F k
  lt : ∀ k, F k → k < w.heap.size
section
variable {TP TL : TypeId} {w w' : World} {b : Nat} {r : Option Nat} {A : Option Addr} {c : Nat} {bs : Nat → Nat} {Fs : Nat → Nat → Prop} {Ls : List Lane} {cur : Int} {G F : Nat → Prop}
theorem PParts.kept (h : PParts TP TL w b r A c bs Fs Ls cur) (hk : Kept G w w') (hg : ∀ k, foot b r Fs k → ¬ G k) : PParts TP TL w' b r A c bs Fs Ls cur :=
  ⟨h.blk.kept hk (hg b (.inl rfl)), h.row.of_kept (by decide) hk (fun k e => hg k (.inr (.inl e))), fun i hi => (h.lanes i hi).kept hk (fun k e => hg k (.inr (.inr ⟨i, e⟩))), h.apart, h.dis, h.rb, fun i k e => Nat.lt_of_lt_of_le (h.lt i k e) hk.size⟩
theorem PParts.new (h : PParts TP TL w b r A c bs Fs Ls cur) (hk : New w w') : PParts TP TL w' b r A c bs Fs Ls cur := h.kept hk fun _ _ h => h
theorem PParts.foot_lt (h : PParts TP TL w b r A c bs Fs Ls cur) : ∀ k, foot b r Fs k → k < w.heap.size := by
  rintro k (rfl | e | ⟨i, e⟩)
  · exact h.blk.lt
  · exact h.row.lt (by decide) k e
  · exact h.lt i k e
theorem PParts.at_ (h : PParts TP TL w b r A c bs Fs Ls cur) : PAtT TP TL w b (foot b r Fs) Ls cur := ⟨⟨r, A, c, bs, Fs, h, fun _ h => h⟩, h.foot_lt⟩
theorem PAtT.kept (h : PAtT TP TL w b F Ls cur) (hk : Kept G w w') (hg : ∀ k, F k → ¬ G k) : PAtT TP TL w' b F Ls cur := by
  obtain ⟨⟨r, A, c, bs, Fs, hp, hf⟩, hlt⟩ := h
  exact ⟨⟨r, A, c, bs, Fs, hp.kept hk (fun k e => hg k (hf k e)), hf⟩, fun k e => Nat.lt_of_lt_of_le (hlt k e) hk.size⟩
theorem PAtT.new (h : PAtT TP TL w b F Ls cur) (hk : New w w') : PAtT TP TL w' b F Ls cur := h.kept hk fun _ _ h => h
theorem PAtT.still (h : PAtT TP TL w b F Ls cur) (hk : New w w') : PAtT TP TL w' b (grow F w w') Ls cur := by
  obtain ⟨⟨r, A, c, bs, Fs, hp, hf⟩, hlt⟩ := h.new hk
  exact ⟨⟨r, A, c, bs, Fs, hp, fun k e => ⟨.inl (hf k e), hlt k (hf k e)⟩⟩, fun k e => e.2⟩
/-- A lane's number, as a cell of the row. -/
theorem PParts.cell (h : PParts TP TL w b r A c bs Fs Ls cur) (i : Nat) (hi : i < Ls.length) : ∃ g o, A = some ⟨g, o, none⟩ ∧ r = some g ∧ w.cell? ⟨g, o + i, none⟩ = some (.pointer (some ⟨bs i, 0, none⟩)) := by
  obtain ⟨g, o, e1, e2, hc⟩ := h.row.at_index hi
  obtain ⟨v, h1, h2, -⟩ := hc 0 (by decide)
  rw [Nat.mul_one, Nat.add_zero] at h1 h2
  rw [List.getElem?_map, List.getElem?_range hi] at h1
  simp only [Option.map_some, Option.some.injEq] at h1
  subst h1
  exact ⟨g, o, e2, e1, h2⟩
/-- What a lane's step leaves. -/
theorem PParts.step (h : PParts TP TL w b r A c bs Fs Ls cur) (i : Nat) (hi : i < Ls.length) {L' : Lane} (hk : Kept (Fs i) w w') (hL : AtT TL w' (bs i) (grow (Fs i) w w') L') :
    PParts TP TL w' b r A c bs (fun j => if j = i then grow (Fs i) w w' else Fs j) (Ls.set i L') cur := by
  have hbl := h.blk.lt
  have hrl := h.row.lt (by decide)
  refine ⟨?_, ?_, fun j hj => ?_, fun j k e => ?_, fun j j' k hne e e' => ?_, h.rb, fun j k e => ?_⟩
  · rw [List.length_set]; exact h.blk.kept hk (fun e => (h.apart i b e).1 rfl)
  · rw [List.length_set]; exact h.row.of_kept (by decide) hk (fun k e e' => (h.apart i k e').2 e)
  · rw [List.length_set] at hj
    by_cases e : j = i
    · subst e
      rw [List.getElem_set_self]
      rw [if_pos rfl]; exact hL
    · rw [List.getElem_set_ne (fun h => e h.symm)]
      rw [if_neg e]
      exact (h.lanes j hj).kept hk (fun k a b => h.dis j i k e a b)
  · change (if j = i then grow (Fs i) w w' else Fs j) k at e
    by_cases c1 : j = i
    · rw [if_pos c1] at e
      rcases e.1 with e' | e'
      · exact h.apart i k e'
      · exact ⟨by omega, fun e2 => by have := hrl k e2; omega⟩
    · rw [if_neg c1] at e; exact h.apart j k e
  · change (if j = i then grow (Fs i) w w' else Fs j) k at e
    change (if j' = i then grow (Fs i) w w' else Fs j') k at e'
    by_cases c1 : j = i
    · rw [if_pos c1] at e
      rw [if_neg (by omega)] at e'
      rcases e.1 with e2 | e2
      · exact h.dis i j' k (by omega) e2 e'
      · have := h.lt j' k e'; omega
    · rw [if_neg c1] at e
      by_cases c2 : j' = i
      · rw [if_pos c2] at e'
        rcases e'.1 with e2 | e2
        · exact h.dis j i k c1 e e2
        · have := h.lt j k e; omega
      · rw [if_neg c2] at e'; exact h.dis j j' k hne e e'
  · change (if j = i then grow (Fs i) w w' else Fs j) k at e
    by_cases c1 : j = i
    · rw [if_pos c1] at e; exact e.2
    · rw [if_neg c1] at e; exact Nat.lt_of_lt_of_le (h.lt j k e) hk.size
/-- A method's end: the post stands so, and nothing else has turned. -/
def PEndsT (TP TL : TypeId) (w : World) (b : Nat) (F : Nat → Prop) (Ls : List Lane) (cur : Int) (v : Value) (e : Ending) (w' : World) : Prop := e = .returned v ∧ PAtT TP TL w' b (grow F w w') Ls cur ∧ Kept F w w'
/-- What has grown among the lanes. -/
structure Grown (w w' : World) (Fs Fs' : Nat → Nat → Prop) : Prop where
  fp : ∀ i k, Fs' i k → Fs i k ∨ w.heap.size ≤ k
  kept : Kept (inner Fs) w w'
theorem Grown.refl (w : World) (Fs : Nat → Nat → Prop) : Grown w w Fs Fs := ⟨fun _ _ e => .inl e, Kept.refl _ _⟩
theorem Grown.new (hk : New w w') (Fs : Nat → Nat → Prop) : Grown w w' Fs Fs := ⟨fun _ _ e => .inl e, hk.mono fun _ _ h => h.elim⟩
theorem Grown.step {w2 : World} {Fs' : Nat → Nat → Prop} (h : Grown w w' Fs Fs') (i : Nat) (hk : Kept (Fs' i) w' w2) : Grown w w2 Fs (fun j => if j = i then grow (Fs' i) w' w2 else Fs' j) := by
  refine ⟨fun j k e => ?_, h.kept.step hk fun k hk e => ?_⟩
  · change (if j = i then grow (Fs' i) w' w2 else Fs' j) k at e
    by_cases c1 : j = i
    · rw [if_pos c1] at e
      rcases e.1 with e' | e'
      · subst c1; exact h.fp j k e'
      · exact .inr (Nat.le_trans h.kept.size e')
    · rw [if_neg c1] at e; exact h.fp j k e
  · rcases h.fp i k e with e' | e'
    · exact ⟨i, e'⟩
    · omega
theorem Grown.more {w2 : World} {Fs' : Nat → Nat → Prop} (h : Grown w w' Fs Fs') (hk : New w' w2) : Grown w w2 Fs Fs' := ⟨h.fp, h.kept.step hk fun _ _ h => h.elim⟩
/-- The end, out of the parts. -/
theorem PParts.ends {Fs' : Nat → Nat → Prop} {Ls' : List Lane} {cur' : Int} (hlt : ∀ k, F k → k < w.heap.size) (hf : ∀ k, foot b r Fs k → F k) (hg : Grown w w' Fs Fs') (hp : PParts TP TL w' b r A c bs Fs' Ls' cur') (v : Value) : PEndsT TP TL w b F Ls' cur' v (.returned v) w' := by
  refine ⟨rfl, ⟨⟨r, A, c, bs, Fs', hp, ?_⟩, fun k e => e.2⟩, hg.kept.mono fun k _ e => hf k (.inr (.inr e))⟩
  rintro k (e | e | ⟨i, e⟩)
  · exact ⟨.inl (hf k (.inl e)), hp.foot_lt k (.inl e)⟩
  · exact ⟨.inl (hf k (.inr (.inl e))), hp.foot_lt k (.inr (.inl e))⟩
  · refine ⟨?_, hp.lt i k e⟩
    rcases hg.fp i k e with e' | e'
    · exact .inl (hf k (.inr (.inr ⟨i, e'⟩)))
    · exact .inr e'
theorem PAtT.still_ends (h : PAtT TP TL w b F Ls cur) (hk : New w w') (v : Value) : PEndsT TP TL w b F Ls cur v (.returned v) w' := ⟨rfl, h.still hk, hk.mono fun _ _ h => h.elim⟩
end
abbrev PAt := PAtT 58 87
abbrev PAtR := PAtT 72 91
abbrev PEnds := PEndsT 58 87
abbrev PEndsR := PEndsT 72 91
theorem set_self {α : Type} {l : List α} {i : Nat} (h : i < l.length) : l.set i l[i] = l := List.set_getElem_self h
/-! ### What the calls answer, plainly. -/
def laneAt (Ls : List Lane) (n : Int) : Lane := Ls.getD n.toNat (empty 1)
def putP (Ls : List Lane) (n v : Int) : List Lane × Int := if 0 ≤ n ∧ n < (Ls.length : Int) then (Ls.set n.toNat (putL (laneAt Ls n) v).1, (putL (laneAt Ls n) v).2) else (Ls, 2)
def dropL (L : Lane) : Lane := { L with dropped := min (L.dropped + 1) 65535 }
def dropP (Ls : List Lane) (n : Int) : List Lane := if 0 ≤ n ∧ n < (Ls.length : Int) then Ls.set n.toNat (dropL (laneAt Ls n)) else Ls
def waitsIn (p : Int) (L : Lane) : Bool := decide (0 ≤ placeAt p L.waits)
def waitsP (Ls : List Lane) (p : Int) : Int := if Ls.findIdx (waitsIn p) < Ls.length then (Ls.findIdx (waitsIn p) : Nat) else -1
def waitP (Ls : List Lane) (n p v : Int) : List Lane × Int := if 0 ≤ n ∧ n < (Ls.length : Int) then (if 0 ≤ waitsP Ls p then (Ls, 8) else (Ls.set n.toNat (waitL (laneAt Ls n) p v).1, (waitL (laneAt Ls n) p v).2)) else (Ls, 2)
def leaveP (Ls : List Lane) (p : Int) : List Lane × Bool := (Ls.map fun L => (leaveL L p).1, Ls.any fun L => (leaveL L p).2)
def noone (L : Lane) : Lane := { L with waits := [] }
def endP (Ls : List Lane) : List Lane × List (Int × Int) := (Ls.map noone, Ls.flatMap (·.waits))
def someP (Ls : List Lane) : Bool := Ls.any fun L => decide (0 < L.vals.length)
theorem laneAt_eq {Ls : List Lane} {i : Nat} (h : i < Ls.length) : laneAt Ls (i : Int) = Ls[i] := by
  unfold laneAt
  rw [Int.toNat_natCast, List.getD_eq_getElem?_getD, List.getElem?_eq_getElem h, Option.getD_some]
end Go.Proofs.Ytnfaafdgfafcjaa.Lane
