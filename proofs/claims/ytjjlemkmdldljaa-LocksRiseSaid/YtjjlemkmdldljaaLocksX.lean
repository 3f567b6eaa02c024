/- How locks lie, and the walks of package locks' wrong, Waits (layer 12). -/
import Derived.Test.YtjjlemkmdldljaaLocksW
namespace Go.Proofs.Ytjjlemkmdldljaa.Locks
open Go.RowKit Go.Fb
set_option linter.unusedVariables false
/-- A lock, and where its queue lies. -/
structure Lk where
  own : Int
  r : Option Nat
  A : Option Addr
  c : Nat
  q : List Int
def ab (x : Lk) : Int × List Int := (x.own, x.q)
def lkC (x : Lk) : List Value := [.int .i64 x.own, .slice x.A x.q.length x.c]
structure Parts (w : World) (b : Nat) (r : Option Nat) (A : Option Addr) (c : Nat) (X : List Lk) : Prop where
  blk : Blk w b 54 #[.slice A X.length c]
  row : Row w 2 r A X.length c (X.flatMap lkC)
  qs : ∀ x ∈ X, Row w 1 x.r x.A x.q.length x.c (x.q.map (Value.int .i64))
  d1 : r ≠ some b
  d2 : ∀ x ∈ X, ∀ k, x.r = some k → k ≠ b ∧ r ≠ some k
  d3 : ∀ i j (hi : i < X.length) (hj : j < X.length), i ≠ j → ∀ k, X[i].r = some k → X[j].r ≠ some k
/-- Locks lie at a block; what they are made of lies in F. -/
structure At (w : World) (b : Nat) (F : Nat → Prop) (L : List (Int × List Int)) : Prop where
  parts : ∃ r A c X, X.map ab = L ∧ Parts w b r A c X ∧ (∀ k, r = some k → F k) ∧ (∀ x ∈ X, ∀ k, x.r = some k → F k)
  fb : F b
  lt : ∀ k, F k → k < w.heap.size
section
variable {w : World} {b : Nat} {F : Nat → Prop} {X : List Lk} {L : List (Int × List Int)}
theorem Parts.kept {G : Nat → Prop} {w' : World} {r : Option Nat} {A : Option Addr} {c : Nat} (h : Parts w b r A c X) (hk : Kept G w w') (hb : ¬ G b) (hr : ∀ k, r = some k → ¬ G k) (hq : ∀ x ∈ X, ∀ k, x.r = some k → ¬ G k) : Parts w' b r A c X :=
  ⟨h.blk.kept hk hb, h.row.of_kept (by decide) hk hr, fun x hx => (h.qs x hx).of_kept (by decide) hk (hq x hx), h.d1, h.d2, h.d3⟩
theorem Parts.new {w' : World} {r : Option Nat} {A : Option Addr} {c : Nat} (h : Parts w b r A c X) (hk : New w w') : Parts w' b r A c X := h.kept hk id (fun _ _ h => h) (fun _ _ _ _ h => h)
theorem At.kept {G : Nat → Prop} {w' : World} (h : At w b F L) (hk : Kept G w w') (hg : ∀ k, F k → ¬ G k) : At w' b F L := by
  obtain ⟨⟨r, A, c, X, hX, hp, h1, h2⟩, h3, h4⟩ := h
  exact ⟨⟨r, A, c, X, hX, hp.kept hk (hg b h3) (fun k hk => hg k (h1 k hk)) (fun x hx k hk => hg k (h2 x hx k hk)), h1, h2⟩, h3, fun k hk' => Nat.lt_of_lt_of_le (h4 k hk') hk.size⟩
theorem At.new {w' : World} (h : At w b F L) (hk : New w w') : At w' b F L := h.kept hk fun _ _ h => h
/-- One lock's cells. -/
theorem row_at {r : Option Nat} {A : Option Addr} {c : Nat} (h : Row w 2 r A X.length c (X.flatMap lkC)) (j : Nat) (hj : j < X.length) : ∃ g o, r = some g ∧ A = some ⟨g, o, none⟩ ∧ w.cell? ⟨g, o + j * 2, none⟩ = some (.int .i64 X[j].own) ∧ w.cell? ⟨g, o + j * 2 + 1, none⟩ = some (.slice X[j].A X[j].q.length X[j].c) ∧
    w.frozen? ⟨g, o + j * 2, none⟩ = false ∧ w.frozen? ⟨g, o + j * 2 + 1, none⟩ = false := by
  obtain ⟨g, o, e1, e2, h5⟩ := h.at_index hj
  obtain ⟨v0, a0, b0, f0⟩ := h5 0 (by decide)
  obtain ⟨v1, a1, b1, f1⟩ := h5 1 (by decide)
  rw [flatMap_get (f := lkC) (size := 2) X (fun x _ => rfl) j hj 0 (by decide)] at a0
  rw [flatMap_get (f := lkC) (size := 2) X (fun x _ => rfl) j hj 1 (by decide)] at a1
  simp only [lkC, List.getElem?_cons_zero, List.getElem?_cons_succ, Option.some.injEq] at a0 a1
  subst a0; subst a1
  exact ⟨g, o, e1, e2, b0, b1, f0, f1⟩
theorem Parts.at_ {r : Option Nat} {A : Option Addr} {c : Nat} (h : Parts w b r A c X) (j : Nat) (hj : j < X.length) : ∃ g o, r = some g ∧ A = some ⟨g, o, none⟩ ∧ w.cell? ⟨g, o + j * 2, none⟩ = some (.int .i64 X[j].own) ∧ w.cell? ⟨g, o + j * 2 + 1, none⟩ = some (.slice X[j].A X[j].q.length X[j].c) ∧
    w.frozen? ⟨g, o + j * 2, none⟩ = false ∧ w.frozen? ⟨g, o + j * 2 + 1, none⟩ = false := row_at h.row j hj
/-- .. at a place that is known. -/
theorem row_here {r : Option Nat} {A : Option Addr} {c : Nat} (h : Row w 2 r A X.length c (X.flatMap lkC)) (j : Nat) (hj : j < X.length) {g o : Nat} (hr : r = some g) (hA : A = some ⟨g, o, none⟩) : w.cell? ⟨g, o + j * 2, none⟩ = some (.int .i64 X[j].own) ∧ w.cell? ⟨g, o + j * 2 + 1, none⟩ = some (.slice X[j].A X[j].q.length X[j].c) ∧
    w.frozen? ⟨g, o + j * 2, none⟩ = false ∧ w.frozen? ⟨g, o + j * 2 + 1, none⟩ = false := by
  obtain ⟨g', o', e1, e2, h⟩ := row_at h j hj
  obtain rfl : g = g' := by rw [hr] at e1; injection e1
  obtain rfl : o = o' := by rw [hA] at e2; injection e2 with e2; injection e2
  exact h
def wrongN (m n p : Int) : Int := if n < 0 ∨ m ≤ n then 2 else if p < 0 then 1 else 0
theorem wrong_any (h : At w b F L) (n p : Int) : Calls Try.prog 24 #[.pointer (some ⟨b, 0, none⟩), .int .i64 n, .int .i64 p] w fun e w' => e = .returned (.int .i64 (wrongN L.length n p)) ∧ w = w' := by
  obtain ⟨⟨r, A, c, X, rfl, hp, h1, h2⟩, h3, h4⟩ := h
  have c0 := hp.blk.cell 0
  simp only [List.getElem?_toArray, List.getElem?_cons_zero] at c0
  rw [List.length_map]
  have hb := hp.row.bound
  generalize X.length = m at *
  clear hp h1 h2 h3 h4
  by_cases g1 : n < 0
  · have E := Lib.hid (show wrongN m n p = 2 from if_pos (.inl g1))
    go_enter Try.func24, Try.ntmps24
    go_wp2
    go_ret
    exact ⟨by rw [E.out]; rfl, rfl⟩
  · by_cases g2 : (m : Int) ≤ n
    · have E := Lib.hid (show wrongN m n p = 2 from if_pos (.inr g2))
      have g1' : 0 ≤ n := by omega
      clear g1
      go_enter Try.func24, Try.ntmps24
      go_wp2
      go_ret
      exact ⟨by rw [E.out]; rfl, rfl⟩
    · have g1' : 0 ≤ n := by omega
      have g2' : n < (m : Int) := by omega
      by_cases g3 : p < 0
      · have E := Lib.hid (show wrongN m n p = 1 by unfold wrongN; rw [if_neg (by omega), if_pos g3])
        clear g1 g2
        go_enter Try.func24, Try.ntmps24
        go_wp2
        go_ret
        exact ⟨by rw [E.out]; rfl, rfl⟩
      · have E := Lib.hid (show wrongN m n p = 0 by unfold wrongN; rw [if_neg (by omega), if_neg g3])
        have g3' : 0 ≤ p := by omega
        clear g1 g2 g3
        go_enter Try.func24, Try.ntmps24
        go_wp2
        go_ret
        exact ⟨by rw [E.out]; rfl, rfl⟩
def waitAt (L : List (Int × List Int)) (p : Int) : Int × Bool := if L.findIdx (fun x => decide (p ∈ x.2)) < L.length then ((L.findIdx (fun x => decide (p ∈ x.2)) : Nat), true) else (0, false)
def waitX (X : List Lk) (p : Int) : Int × Bool := if X.findIdx (fun x => decide (p ∈ x.q)) < X.length then ((X.findIdx (fun x => decide (p ∈ x.q)) : Nat), true) else (0, false)
theorem wait_map (X : List Lk) (p : Int) : waitAt (X.map ab) p = waitX X p := by
  simp only [waitAt, waitX, List.findIdx_map, List.length_map]
  rfl
theorem wait_hit {p : Int} {j : Nat} (hj : j < X.length) (h1 : ∀ i (hi : i < X.length), i < j → ¬ p ∈ X[i].q) (h2 : p ∈ X[j].q) : waitX X p = ((j : Int), true) := by
  have e : X.findIdx (fun x => decide (p ∈ x.q)) = j := (List.findIdx_eq hj).2 ⟨by simpa using h2, fun i hi => by simpa using h1 i (by omega) hi⟩
  unfold waitX
  rw [e, if_pos hj]
theorem wait_miss {p : Int} (h1 : ∀ i (hi : i < X.length), ¬ p ∈ X[i].q) : waitX X p = (0, false) := by
  have e : X.findIdx (fun x => decide (p ∈ x.q)) = X.length := List.findIdx_eq_length.2 fun x hx => by
    obtain ⟨i, hi, e⟩ := List.mem_iff_getElem.1 hx
    simpa [← e] using h1 i hi
  unfold waitX
  rw [if_neg (by omega)]
set_option maxHeartbeats 1000000 in
theorem waits_any (h : At w b F L) (p : Int) : Calls Try.prog 25 #[.pointer (some ⟨b, 0, none⟩), .int .i64 p] w fun e w' => e = .returned (.tuple #[.int .i64 (waitAt L p).1, .bool (waitAt L p).2]) ∧ New w w' := by
  obtain ⟨⟨r, A, c, X, rfl, hp, h1, h2⟩, h3, h4⟩ := h
  have c0 := hp.blk.cell 0
  simp only [List.getElem?_toArray, List.getElem?_cons_zero] at c0
  have hb := hp.row.bound
  rw [wait_map]
  have HP := Lib.hid (fun wr (hk : New w wr) => hp.new hk)
  obtain ⟨n, hn⟩ : ∃ n, n = X.length := ⟨_, rfl⟩
  rw [← hn] at c0 hb
  have H1 := Lib.hid (fun j (hj : j < X.length) h1 h2 => wait_hit (X := X) (p := p) (j := j) hj h1 h2)
  have H2 := Lib.hid (wait_miss (X := X) (p := p))
  generalize waitX X p = res at *
  obtain ⟨r1, r2⟩ := res
  have HN := Lib.hid hn
  clear hn
  clear hp h1 h2 h3 h4
  go_enter Try.func25, Try.ntmps25
  go_wp2_with fail
  go_loopw [13] (fun i wr => ∃ j : Nat, j ≤ n ∧ i = .int .i64 j ∧ New w wr ∧ Hid (∀ i (hi : i < X.length), i < j → ¬ p ∈ X[i].q)) (fun i _ => (n - intOf i).toNat)
  case atStart => exact ⟨0, Nat.zero_le _, rfl, Kept.refl _ _, Lib.hid fun i _ hi => absurd hi (Nat.not_lt_zero _)⟩
  case round =>
    obtain ⟨j, hj, rfl, hnr, D⟩ := hrel
    by_cases hlt : j < n
    · have hjX : j < X.length := by rw [← HN.out]; exact hlt
      have hp := HP.out wr hnr
      obtain ⟨g, o, -, rfl, x0, x1, -, -⟩ := hp.at_ j hjX
      have hr := hp.qs X[j] (List.getElem_mem hjX)
      have D2 := Lib.hid (fun (hm : ¬ p ∈ X[j].q) => show ∀ i (hi : i < X.length), i < j + 1 → ¬ p ∈ X[i].q from fun i hi h => by
        by_cases e : i = j
        · subst e; exact hm
        · exact D.out i hi (by omega))
      have D3 := Lib.hid (fun (hm : p ∈ X[j].q) => H1.out j hjX D.out hm)
      have hrb := hr.bound
      generalize X[j].own = ow at *
      generalize X[j].A = Aj at *
      generalize X[j].c = cj at *
      generalize X[j].r = rj at *
      generalize X[j].q = qj at *
      obtain ⟨m, hm⟩ : ∃ m, m = qj.length := ⟨_, rfl⟩
      rw [← hm] at x1 hr hrb
      have hb4 := Blk.made wr 56 #[.int .i64 ow, .slice Aj m cj]
      have hk4 : New wr (wr.alloc (.cells #[.int .i64 ow, .slice Aj m cj] 56)) := (Kept.refl _ _).alloc _
      have hcon := contains_any (hr.new (by decide) hk4) hm p
      have hn4 := hnr.trans hk4
      have HCON := Lib.hid hcon
      have HN4 := Lib.hid hn4
      have HM := Lib.hid hm
      have HP := Lib.hid hp
      have HR := Lib.hid hr
      have HB4 := Lib.hid hb4
      clear hcon hn4 hm hp hr hb4
      clear hk4
      go_upto_region 4 with (fail)
      generalize wr.alloc (.cells #[.int .i64 ow, .slice Aj m cj] 56) = W4 at *
      have z1 := HB4.out.cell 1
      simp only [List.getElem?_toArray, List.getElem?_cons_zero, List.getElem?_cons_succ] at z1
      by_cases hmem : p ∈ qj
      · rw [decide_eq_true hmem] at HCON
        have e := Lib.hid (D3.out hmem)
        clear hmem
        go_wp2_with fail
        refine HCON.out.mono ?_
        rintro e w' ⟨rfl, rfl⟩
        go_wp2_with fail
        go_ret2
        have e := e.out
        injection e with e1 e2
        subst e1; subst e2
        exact ⟨rfl, HN4.out⟩
      · rw [decide_eq_false hmem] at HCON
        have D4 := Lib.hid (D2.out hmem)
        clear hmem
        go_wp2_with fail
        refine HCON.out.mono ?_
        rintro e w' ⟨rfl, rfl⟩
        go_wp2_with fail
        go_roundw
        case rel => exact ⟨j + 1, by omega, by go_num, HN4.out, Lib.hid D4.out⟩
        case measure => simp [intOf]; omega
    · obtain rfl : j = n := by omega
      have E := Lib.hid (H2.out fun i hi => D.out i hi (by rw [HN.out]; exact hi))
      have HNR := Lib.hid hnr
      clear hnr
      go_wp2_with fail
      go_ret2
      have e := E.out
      injection e with e1 e2
      subst e1; subst e2
      exact ⟨rfl, HNR.out⟩
end
end Go.Proofs.Ytjjlemkmdldljaa.Locks
