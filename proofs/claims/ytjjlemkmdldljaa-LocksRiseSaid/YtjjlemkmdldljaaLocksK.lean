/- The walk of the law's ints; how the reference's locks lie; its asked, Waits (layer 12). -/
import Derived.Test.YtjjlemkmdldljaaLocksE
namespace Go.Proofs.Ytjjlemkmdldljaa.Locks
open Go.RowKit Go.Fb
set_option linter.unusedVariables false
theorem ints_at {w : World} {r : Option Nat} {A : Option Addr} {n c : Nat} {q : List Int} (h : Row w 1 r A n c (q.map (Value.int .i64))) (j : Nat) (hj : j < n) : ∃ g o, r = some g ∧ A = some ⟨g, o, none⟩ ∧ w.cell? ⟨g, o + j, none⟩ = some (.int .i64 (q.getD j 0)) ∧ w.frozen? ⟨g, o + j, none⟩ = false := by
  have hl := h.length
  rw [List.length_map, Nat.mul_one] at hl
  have hle := h.le
  obtain ⟨g, o, e1, e2, h5, h6⟩ := h.at_pos (by omega)
  refine ⟨g, o, e1, e2, ?_, (h6 j (by omega)).2⟩
  rw [h5 j (by omega), List.getElem?_map, List.getElem?_eq_getElem (by omega)]
  simp [List.getD_eq_getElem?_getD, List.getElem?_eq_getElem (show j < q.length by omega)]
theorem take_eq_succ {α : Type} {a b : List α} {j : Nat} (ha : j < a.length) (hb : j < b.length) (h : a.take j = b.take j) (e : a[j] = b[j]) : a.take (j + 1) = b.take (j + 1) := by
  rw [List.take_succ_eq_append_getElem ha, List.take_succ_eq_append_getElem hb, h, e]
set_option maxHeartbeats 1000000 in
theorem ints_any {w : World} {r1 r2 : Option Nat} {A1 A2 : Option Addr} {n1 n2 c1 c2 : Nat} {a b : List Int} (h1 : Row w 1 r1 A1 n1 c1 (a.map (Value.int .i64))) (h2 : Row w 1 r2 A2 n2 c2 (b.map (Value.int .i64))) :
    Calls Try.prog 28 #[.slice A1 n1 c1, .slice A2 n2 c2] w fun e w' => e = .returned (.bool (decide (a = b))) ∧ ∃ q, w' = w.drewN q := by
  have l1 := h1.length
  have l2 := h2.length
  rw [List.length_map, Nat.mul_one] at l1 l2
  have hb1 := h1.bound
  have hb2 := h2.bound
  by_cases hn : n1 = n2
  · subst hn
    have R1 := Lib.hid (fun j (hj : j < n1) => ints_at h1 j hj)
    have R2 := Lib.hid (fun j (hj : j < n1) => ints_at h2 j hj)
    have H1 := Lib.hid (fun j (hj : j < n1) (ht : a.take j = b.take j) (e : a.getD j 0 = b.getD j 0) => show a.take (j + 1) = b.take (j + 1) from
      take_eq_succ (by omega) (by omega) ht (by simpa [List.getD_eq_getElem?_getD, List.getElem?_eq_getElem (show j < a.length by omega), List.getElem?_eq_getElem (show j < b.length by omega)] using e))
    have H2 := Lib.hid (fun j (hj : j < n1) (e : a.getD j 0 ≠ b.getD j 0) => show decide (a = b) = false from decide_eq_false fun h => e (by rw [h]))
    have H3 := Lib.hid (fun (ht : a.take n1 = b.take n1) => show decide (a = b) = true from decide_eq_true (by
      rw [List.take_of_length_le (by omega), List.take_of_length_le (by omega)] at ht; exact ht))
    generalize decide (a = b) = res at *
    have G1 := Lib.hid h1
    have G2 := Lib.hid h2
    have L1 := Lib.hid l1
    have L2 := Lib.hid l2
    clear h1 h2 l1 l2
    go_enter Try.func28, Try.ntmps28
    go_wp2_with fail
    go_loopw [5] (fun i wr => ∃ j : Nat, j ≤ n1 ∧ i = .int .i64 j ∧ (∃ q, wr = w.drewN q) ∧ Hid (a.take j = b.take j)) (fun i _ => (n1 - intOf i).toNat)
    case atStart => exact ⟨0, Nat.zero_le _, rfl, ⟨0, rfl⟩, Lib.hid rfl⟩
    case round =>
      obtain ⟨j, hj, rfl, ⟨q, rfl⟩, D⟩ := hrel
      by_cases hlt : j < n1
      · obtain ⟨g, o, -, rfl, x1, -⟩ := R1.out j hlt
        obtain ⟨g', o', -, rfl, x2, -⟩ := R2.out j hlt
        have D2 := Lib.hid (fun e => H1.out j hlt D.out e)
        have D3 := Lib.hid (fun e => H2.out j hlt e)
        generalize a.getD j 0 = u at *
        generalize b.getD j 0 = v at *
        have e2 : (0 : Int) ≤ (j : Int) := by omega
        have e3 : (j : Int) < (n1 : Int) := by omega
        by_cases he : u = v
        · subst he
          have D4 := Lib.hid (D2.out rfl)
          go_wp2_with fail
          go_quiet (fail)
          go_wp2_with fail
          go_roundw
          case rel => exact ⟨j + 1, by omega, by go_num, ⟨_, by first | rfl | exact World.drewN_drewN _ _ _⟩, D4⟩
          case measure => simp [intOf]; omega
        · have E := Lib.hid (D3.out he)
          have he' : (u != v) = true := by simpa using he
          clear he
          go_wp2_with fail
          go_quiet (fail)
          go_wp2_with fail
          go_ret
          exact ⟨by rw [E.out]; rfl, _, by first | rfl | exact World.drewN_drewN _ _ _⟩
      · obtain rfl : j = n1 := by omega
        have E := Lib.hid (H3.out D.out)
        go_wp2_with fail
        go_ret
        exact ⟨by rw [E.out]; rfl, q, rfl⟩
  · have E := Lib.hid (show decide (a = b) = false from decide_eq_false fun h => hn (by rw [← l1, ← l2, h]))
    have hn' : (n1 != n2) = true := by simpa using hn
    have hn2 : ((n1 : Int) != (n2 : Int)) = true := by simp; omega
    have H1 := Lib.hid h1
    have H2 := Lib.hid h2
    have L1 := Lib.hid l1
    have L2 := Lib.hid l2
    clear h1 h2 l1 l2
    clear hn
    go_enter Try.func28, Try.ntmps28
    go_wp2_with fail
    go_ret
    exact ⟨by rw [E.out]; rfl, 0, rfl⟩
/-- The reference's locks lie at a block; what they are made of lies in F. -/
structure RParts (w : World) (b : Nat) (F : Nat → Prop) (n : Nat) (ro : Option Nat) (Ao : Option Addr) (co : Nat) (rq : Option Nat) (Aq : Option Addr) (cq : Nat) (os : List Int) (Y : List Lk) : Prop where
  blk : Blk w b 58 #[.slice Ao n co, .slice Aq n cq]
  told : Told 0 w n n ro Ao co rq Aq cq os Y
  lo : os.length = n
  ly : Y.length = n
  b1 : ro ≠ some b
  b2 : rq ≠ some b
  b3 : ∀ y ∈ Y, y.r ≠ some b
  f1 : ∀ k, ro = some k → F k
  f2 : ∀ k, rq = some k → F k
  f3 : ∀ y ∈ Y, ∀ k, y.r = some k → F k
  fb : F b
structure RAt (w : World) (b : Nat) (F : Nat → Prop) (L : List (Int × List Int)) : Prop where
  parts : ∃ ro Ao co rq Aq cq Y, RParts w b F L.length ro Ao co rq Aq cq (L.map (·.1)) Y ∧ Y.map (·.q) = L.map (·.2)
  lt : ∀ k, F k → k < w.heap.size
section
variable {w w' : World} {b n : Nat} {F : Nat → Prop} {ro : Option Nat} {Ao : Option Addr} {co : Nat} {rq : Option Nat} {Aq : Option Addr} {cq : Nat} {os : List Int} {Y : List Lk} {L : List (Int × List Int)}
theorem Told.kept {G : Nat → Prop} {B no nq : Nat} (h : Told B w no nq ro Ao co rq Aq cq os Y) (hk : Kept G w w') (h1 : ∀ k, ro = some k → ¬ G k) (h2 : ∀ k, rq = some k → ¬ G k) (h3 : ∀ y ∈ Y, ∀ k, y.r = some k → ¬ G k) : Told B w' no nq ro Ao co rq Aq cq os Y :=
  ⟨h.ow.of_kept (by decide) hk h1, h.qu.of_kept (by decide) hk h2, fun y hy => (h.el y hy).of_kept (by decide) hk (h3 y hy), h.fo, h.fq, h.fe, h.d1, h.d2, h.d3⟩
theorem RParts.kept {G : Nat → Prop} (h : RParts w b F n ro Ao co rq Aq cq os Y) (hk : Kept G w w') (hg : ∀ k, F k → ¬ G k) : RParts w' b F n ro Ao co rq Aq cq os Y :=
  ⟨h.blk.kept hk (hg b h.fb), h.told.kept hk (fun k e => hg k (h.f1 k e)) (fun k e => hg k (h.f2 k e)) (fun y hy k e => hg k (h.f3 y hy k e)), h.lo, h.ly, h.b1, h.b2, h.b3, h.f1, h.f2, h.f3, h.fb⟩
theorem RAt.kept {G : Nat → Prop} (h : RAt w b F L) (hk : Kept G w w') (hg : ∀ k, F k → ¬ G k) : RAt w' b F L := by
  obtain ⟨⟨ro, Ao, co, rq, Aq, cq, Y, hp, hY⟩, h4⟩ := h
  exact ⟨⟨ro, Ao, co, rq, Aq, cq, Y, hp.kept hk hg, hY⟩, fun k hk' => Nat.lt_of_lt_of_le (h4 k hk') hk.size⟩
theorem RAt.new (h : RAt w b F L) (hk : New w w') : RAt w' b F L := h.kept hk fun _ _ h => h
theorem RParts.mono {G : Nat → Prop} (h : RParts w b F n ro Ao co rq Aq cq os Y) (hg : ∀ k, F k → G k) : RParts w b G n ro Ao co rq Aq cq os Y :=
  ⟨h.blk, h.told, h.lo, h.ly, h.b1, h.b2, h.b3, fun k e => hg k (h.f1 k e), fun k e => hg k (h.f2 k e), fun y hy k e => hg k (h.f3 y hy k e), hg b h.fb⟩
theorem RAt.still (h : RAt w b F L) (hk : New w w') : RAt w' b (grow F w w') L := by
  have hs := hk.size
  obtain ⟨⟨ro, Ao, co, rq, Aq, cq, Y, hp, hY⟩, h4⟩ := h
  exact ⟨⟨ro, Ao, co, rq, Aq, cq, Y, (hp.kept hk fun _ _ h => h).mono fun k hk => ⟨.inl hk, Nat.lt_of_lt_of_le (h4 k hk) hs⟩, hY⟩, fun k hk' => hk'.2⟩
/-- What stands at the block. -/
theorem RParts.cells (h : RParts w b F n ro Ao co rq Aq cq os Y) : w.cell? ⟨b, 0, none⟩ = some (.slice Ao n co) ∧ w.cell? ⟨b, 1, none⟩ = some (.slice Aq n cq) ∧ w.frozen? ⟨b, 0, none⟩ = false ∧ w.frozen? ⟨b, 1, none⟩ = false ∧ n ≤ co ∧ co ≤ 9223372036854775807 ∧ n ≤ cq ∧ cq ≤ 9223372036854775807 := by
  have c0 := h.blk.cell 0
  have c1 := h.blk.cell 1
  simp only [List.getElem?_toArray, List.getElem?_cons_zero, List.getElem?_cons_succ] at c0 c1
  exact ⟨c0, c1, h.blk.free 0, h.blk.free 1, h.told.ow.bound.1, h.told.ow.bound.2, h.told.qu.bound.1, h.told.qu.bound.2⟩
theorem RParts.own_at (h : RParts w b F n ro Ao co rq Aq cq os Y) (j : Nat) (hj : j < n) : ∃ g o, ro = some g ∧ Ao = some ⟨g, o, none⟩ ∧ w.cell? ⟨g, o + j, none⟩ = some (.int .i64 (os.getD j 0)) ∧ w.frozen? ⟨g, o + j, none⟩ = false := ints_at h.told.ow j hj
theorem qu_at {r : Option Nat} {A : Option Addr} {n c : Nat} (h : Row w 1 r A n c (Y.map slC)) (j : Nat) (hj : j < n) (hY : j < Y.length) : ∃ g o, r = some g ∧ A = some ⟨g, o, none⟩ ∧ w.cell? ⟨g, o + j, none⟩ = some (.slice Y[j].A Y[j].q.length Y[j].c) ∧ w.frozen? ⟨g, o + j, none⟩ = false := by
  have hle := h.le
  obtain ⟨g, o, e1, e2, h5, h6⟩ := h.at_pos (by omega)
  refine ⟨g, o, e1, e2, ?_, (h6 j (by omega)).2⟩
  rw [h5 j (by omega), List.getElem?_map, List.getElem?_eq_getElem hY]
  rfl
theorem RParts.queue_at (h : RParts w b F n ro Ao co rq Aq cq os Y) (j : Nat) (hj : j < n) : ∃ g o, ∃ (hY : j < Y.length), rq = some g ∧ Aq = some ⟨g, o, none⟩ ∧ w.cell? ⟨g, o + j, none⟩ = some (.slice Y[j].A Y[j].q.length Y[j].c) ∧ w.frozen? ⟨g, o + j, none⟩ = false := by
  have hY : j < Y.length := by rw [h.ly]; exact hj
  obtain ⟨g, o, h'⟩ := qu_at h.told.qu j hj hY
  exact ⟨g, o, hY, h'⟩
theorem asked_any (h : RAt w b F L) (n p : Int) : Calls Try.prog 35 #[.pointer (some ⟨b, 0, none⟩), .int .i64 n, .int .i64 p] w fun e w' => e = .returned (.int .i64 (wrongN L.length n p)) ∧ w = w' := by
  obtain ⟨⟨ro, Ao, co, rq, Aq, cq, Y, hp, hY⟩, h4⟩ := h
  obtain ⟨c0, -, -, -, b1, b2, -, -⟩ := hp.cells
  generalize L.length = m at *
  clear hp hY h4
  by_cases g1 : n < 0
  · have E := Lib.hid (show wrongN m n p = 2 from if_pos (.inl g1))
    go_enter Try.func35, Try.ntmps35
    go_wp2
    go_ret
    exact ⟨by rw [E.out]; rfl, rfl⟩
  · by_cases g2 : (m : Int) ≤ n
    · have E := Lib.hid (show wrongN m n p = 2 from if_pos (.inr g2))
      have g1' : 0 ≤ n := by omega
      clear g1
      go_enter Try.func35, Try.ntmps35
      go_wp2
      go_ret
      exact ⟨by rw [E.out]; rfl, rfl⟩
    · have g1' : 0 ≤ n := by omega
      have g2' : n < (m : Int) := by omega
      by_cases g3 : p < 0
      · have E := Lib.hid (show wrongN m n p = 1 by unfold wrongN; rw [if_neg (by omega), if_pos g3])
        clear g1 g2
        go_enter Try.func35, Try.ntmps35
        go_wp2
        go_ret
        exact ⟨by rw [E.out]; rfl, rfl⟩
      · have E := Lib.hid (show wrongN m n p = 0 by unfold wrongN; rw [if_neg (by omega), if_neg g3])
        have g3' : 0 ≤ p := by omega
        clear g1 g2 g3
        go_enter Try.func35, Try.ntmps35
        go_wp2
        go_ret
        exact ⟨by rw [E.out]; rfl, rfl⟩
/-- The reference's search, lock by lock. -/
def waitF (q : Nat → List Int) (n : Nat) (p : Int) : Int × Bool := if (List.range n).findIdx (fun i => decide (p ∈ q i)) < n then (((List.range n).findIdx (fun i => decide (p ∈ q i)) : Nat), true) else (0, false)
theorem getD_nat {α : Type} (l : List α) (d : α) (i : Nat) (h : i < l.length) : l.getD i d = l[i] := by simp [List.getD_eq_getElem?_getD, List.getElem?_eq_getElem h]
theorem wait_hitL {p : Int} {j : Nat} (hj : j < L.length) (h1 : ∀ i (hi : i < L.length), i < j → ¬ p ∈ L[i].2) (h2 : p ∈ L[j].2) : waitAt L p = ((j : Int), true) := by
  have e : L.findIdx (fun x => decide (p ∈ x.2)) = j := (List.findIdx_eq hj).2 ⟨by simpa using h2, fun i hi => by simpa using h1 i (by omega) hi⟩
  unfold waitAt
  rw [e, if_pos hj]
theorem wait_missL {p : Int} (h1 : ∀ i (hi : i < L.length), ¬ p ∈ L[i].2) : waitAt L p = (0, false) := by
  have e : L.findIdx (fun x => decide (p ∈ x.2)) = L.length := List.findIdx_eq_length.2 fun x hx => by
    obtain ⟨i, hi, e⟩ := List.mem_iff_getElem.1 hx
    simpa [← e] using h1 i hi
  unfold waitAt
  rw [if_neg (by omega)]
set_option maxHeartbeats 1000000 in
theorem rwaits_any (h : RAt w b F L) (p : Int) : Calls Try.prog 33 #[.pointer (some ⟨b, 0, none⟩), .int .i64 p] w fun e w' => e = .returned (.tuple #[.int .i64 (waitAt L p).1, .bool (waitAt L p).2]) ∧ w = w' := by
  obtain ⟨⟨ro, Ao, co, rq, Aq, cq, Y, hp, hY⟩, h4⟩ := h
  obtain ⟨-, y1, -, -, -, -, b1, b2⟩ := hp.cells
  have hYL : ∀ i (hi : i < L.length), ∃ hy : i < Y.length, L[i].2 = Y[i].q := fun i hi => by
    have hy : i < Y.length := by rw [hp.ly]; exact hi
    refine ⟨hy, ?_⟩
    have := congrArg (fun l => l[i]?) hY
    simp only [List.getElem?_map, List.getElem?_eq_getElem hi, List.getElem?_eq_getElem hy, Option.map_some, Option.some.injEq] at this
    exact this.symm
  have RQ := Lib.hid (fun j (hj : j < L.length) => hp.queue_at j hj)
  have RE := Lib.hid (fun j (hy : j < Y.length) => hp.told.el Y[j] (List.getElem_mem hy))
  have H1 := Lib.hid (fun j (hj : j < L.length) (hy : j < Y.length) (h1 : ∀ i (hi : i < Y.length), i < j → ¬ p ∈ Y[i].q) (h2 : p ∈ Y[j].q) => show waitAt L p = ((j : Int), true) from
    wait_hitL hj (fun i hi hij => by obtain ⟨hyi, e⟩ := hYL i hi; rw [e]; exact h1 i hyi hij) (by obtain ⟨_, e⟩ := hYL j hj; rw [e]; exact h2))
  have H2 := Lib.hid (fun (h1 : ∀ i (hi : i < Y.length), ¬ p ∈ Y[i].q) => show waitAt L p = (0, false) from
    wait_missL (fun i hi => by obtain ⟨hyi, e⟩ := hYL i hi; rw [e]; exact h1 i hyi))
  have HL := Lib.hid hp.ly
  generalize waitAt L p = res at *
  obtain ⟨r1, r2⟩ := res
  obtain ⟨n, hn⟩ : ∃ n, n = L.length := ⟨_, rfl⟩
  rw [← hn] at y1 b1
  have HN := Lib.hid hn
  clear hn
  clear hp hYL hY h4
  go_enter Try.func33, Try.ntmps33
  go_wp2_with fail
  go_loop [6] (fun i => ∃ j : Nat, j ≤ n ∧ i = .int .i64 j ∧ Hid (∀ i (hi : i < Y.length), i < j → ¬ p ∈ Y[i].q)) (fun i => (n - intOf i).toNat)
  case atStart => exact ⟨0, Nat.zero_le _, rfl, Lib.hid fun i _ hi => absurd hi (Nat.not_lt_zero _)⟩
  case round =>
    obtain ⟨j, hj, rfl, D⟩ := hrel
    by_cases hlt : j < n
    · obtain ⟨g, o, hy, -, rfl, x1, -⟩ := RQ.out j (by rw [← HN.out]; exact hlt)
      have hr := RE.out j hy
      have hrb := hr.bound
      have DH := Lib.hid (fun (hm : p ∈ Y[j].q) => H1.out j (by rw [← HN.out]; exact hlt) hy D.out hm)
      have D2 := Lib.hid (fun (hm : ¬ p ∈ Y[j].q) => show ∀ i (hi : i < Y.length), i < j + 1 → ¬ p ∈ Y[i].q from fun i hi h => by
        by_cases e : i = j
        · subst e; exact hm
        · exact D.out i hi (by omega))
      generalize Y[j].A = Aj at *
      generalize Y[j].c = cj at *
      generalize Y[j].r = rj at *
      generalize Y[j].q = qj at *
      obtain ⟨m, hm⟩ : ∃ m, m = qj.length := ⟨_, rfl⟩
      rw [← hm] at x1 hr hrb
      have RI := Lib.hid (fun i (hi : i < m) => ints_at hr i hi)
      have HI := Lib.hid (fun i (hi : i < m) (e : qj.getD i 0 = p) => show p ∈ qj from by rw [getD_nat _ _ _ (by omega)] at e; rw [← e]; exact List.getElem_mem _)
      have HJ := Lib.hid (fun (h : ∀ i, i < m → qj.getD i 0 ≠ p) => show ¬ p ∈ qj from fun hq => by
        obtain ⟨i, hi, e⟩ := List.mem_iff_getElem.1 hq
        exact h i (by omega) (by rw [getD_nat _ _ _ hi]; exact e))
      have HM := Lib.hid hm
      have HR := Lib.hid hr
      clear hm hr
      clear hy
      go_wp2_with fail
      go_loop [7] (fun i => ∃ k : Nat, k ≤ m ∧ i = .int .i64 k ∧ Hid (∀ i, i < k → qj.getD i 0 ≠ p)) (fun i => (m - intOf i).toNat)
      case atStart => exact ⟨0, Nat.zero_le _, rfl, Lib.hid fun i hi => absurd hi (Nat.not_lt_zero _)⟩
      case round =>
        obtain ⟨k, hk, rfl, C⟩ := hrel
        by_cases hlk : k < m
        · obtain ⟨g2, o2, -, rfl, x2, -⟩ := RI.out k hlk
          have E1 := Lib.hid (fun e => DH.out (HI.out k hlk e))
          have E2 := Lib.hid (fun (he : ¬ qj.getD k 0 = p) => show ∀ i, i < k + 1 → qj.getD i 0 ≠ p from fun i hi => by
            by_cases e : i = k
            · subst e; exact he
            · exact C.out i (by omega))
          generalize qj.getD k 0 = v at *
          by_cases he : v = p
          · have E := Lib.hid (E1.out he)
            subst he
            go_wp2_with fail
            go_ret2
            have e := E.out
            injection e with e1 e2
            subst e1; subst e2
            exact ⟨rfl, rfl⟩
          · have E := Lib.hid (E2.out he)
            have he' : (v == p) = false := by simpa using he
            clear he
            go_wp2_with fail
            go_round
            case rel => exact ⟨k + 1, by omega, by go_num, E⟩
            case measure => simp [intOf]; omega
        · obtain rfl : k = m := by omega
          have E := Lib.hid (D2.out (HJ.out C.out))
          go_wp2_with fail
          go_round
          case rel => exact ⟨j + 1, by omega, by go_num, E⟩
          case measure => simp [intOf]; omega
    · obtain rfl : j = n := by omega
      have E := Lib.hid (H2.out fun i hi => D.out i hi (by have := HL.out; have := HN.out; omega))
      go_wp2_with fail
      go_ret2
      have e := E.out
      injection e with e1 e2
      subst e1; subst e2
      exact ⟨rfl, rfl⟩
end
end Go.Proofs.Ytjjlemkmdldljaa.Locks
