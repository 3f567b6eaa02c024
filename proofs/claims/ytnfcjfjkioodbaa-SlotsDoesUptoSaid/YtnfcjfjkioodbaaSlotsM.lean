/- The walks of chapter 3's laws: fixed, long, made. -/
import Derived.Test.YtnfcjfjkioodbaaSlotsN
import Derived.Test.YtnfcjfjkioodbaaCopy
namespace Go.Proofs.Ytnfcjfjkioodbaa.Slots
open Go.RowKit Go.Fb Go.SlotsP
set_option linter.unusedVariables false

theorem At.less {w : World} {lo b r o c : Nat} {T : List Int} (h : At w lo b r o c T) : At w 0 b r o c T := ⟨h.cell, h.row, h.pos, h.len, h.ok, Nat.zero_le _, Nat.zero_le _, h.cap, h.capm⟩
theorem ints_read {w : World} {r : Option Nat} {A : Option Addr} {n c : Nat} {T : List Int} (h : Row w 1 r A n c (T.map (Value.int .i64))) (hwf : ∀ x ∈ T, (Lit.int .i64 x).wf = true) : SliceOf (Rep.int .i64) w w.heap.size A n c T := by
  have hl := h.length
  rw [List.length_map, Nat.mul_one] at hl
  rw [map_flat] at h
  exact h.slice (R := Rep.int .i64) (by decide) hl (fun x hx => ⟨rfl, hwf x hx⟩)
def T0 : List Int := [0, 1, 0, 0, 2]
theorem fixed_any (w : World) : Calls Try.prog 6 #[] w fun e w' => e = .returned (.bool true) ∧ New w w' := by
  have hr : Row (w.alloc (.cells #[.int .i64 0, .int .i64 1, .int .i64 0, .int .i64 0, .int .i64 2] 3)) 1 (some w.heap.size) (some ⟨w.heap.size, 0, none⟩) 5 5 (T0.map (Value.int .i64)) := Row.of_made w (T0.map (Value.int .i64)) (by decide) (by unfold maxLen; decide) (by decide)
  have hs := ints_read hr (by decide)
  have hnew := new_any _ _ _ T0 4 _ hs
  clear hr hs
  have hw0 : New w (w.alloc (.cells #[.int .i64 0, .int .i64 1, .int .i64 0, .int .i64 0, .int .i64 2] 3)) := (Kept.refl _ _).alloc _
  have HNEW := Lib.hid hnew
  have HW0 := Lib.hid hw0
  clear hnew hw0
  go_enter Try.func6, Try.ntmps6
  go_wp2_with fail
  refine HNEW.out.mono ?_
  rintro e w1 ⟨hw1, ⟨_, b, r, o, c, rfl, hA⟩ | ⟨hne, _⟩⟩
  rotate_left
  · exact absurd (by decide +kernel) hne
  have c1 := fun q => nth_any (hA.drewN q) 1 2 1 (by decide) (by decide)
  rw [show nth T0 1 2 1 = (11, 0) by decide +kernel] at c1
  have c2 := fun q => len_any (hA.drewN q)
  rw [show T0.length = 5 from rfl] at c2
  have c3 := fun q => owner_any (hA.drewN q) 6
  rw [show ownI T0 6 = 1 by decide +kernel] at c3
  have c4 := fun q => gap_any (hA.drewN q) 0
  rw [show gap T0 0 = 2 by decide +kernel] at c4
  have c5 := fun q => gap_any (hA.drewN q) 1
  rw [show gap T0 1 = 5 by decide +kernel] at c5
  have c6 := fun q => gap_any (hA.drewN q) 3
  rw [show gap T0 3 = 0 by decide +kernel] at c6
  have c7 := fun q => count_any (hA.drewN q) 0 0 5 (by decide) (by decide)
  rw [show count T0 0 0 5 = 3 by decide +kernel] at c7
  have H2 := Lib.hid (HW0.out.trans hw1)
  have C1 := Lib.hid c1
  have C2 := Lib.hid c2
  have C3 := Lib.hid c3
  have C4 := Lib.hid c4
  have C5 := Lib.hid c5
  have C6 := Lib.hid c6
  have C7 := Lib.hid c7
  clear c1 c2 c3 c4 c5 c6 c7
  clear hw1 hA
  simp only [World.drewN_drewN] at *
  go_wp2_with (refine (C1.out 0).mono ?_; rintro e w' ⟨rfl, q1, rfl⟩)
  refine (C2.out _).mono ?_
  rintro e w' ⟨rfl, q2, rfl⟩
  go_wp2_with fail
  refine (C3.out _).mono ?_
  rintro e w' ⟨rfl, q3, rfl⟩
  go_wp2_with fail
  refine (C4.out _).mono ?_
  rintro e w' ⟨rfl, q4, rfl⟩
  go_wp2_with fail
  refine (C5.out _).mono ?_
  rintro e w' ⟨rfl, q5, rfl⟩
  go_wp2_with fail
  refine (C6.out _).mono ?_
  rintro e w' ⟨rfl, q6, rfl⟩
  go_wp2_with fail
  refine (C7.out _).mono ?_
  rintro e w' ⟨rfl, q7, rfl⟩
  go_wp2_with fail
  go_ret
  exact ⟨rfl, H2.out.drewN _⟩
theorem long_any (A : Option Addr) (n c : Nat) (w : World) (hn : n ≤ c ∧ c ≤ 9223372036854775807) : Calls Try.prog 7 #[.slice A n c] w fun e w' => e = .returned (.bool (decide (1048576 < n))) ∧ w = w' := by
  by_cases h : 1048576 < n
  · rw [decide_eq_true h]
    go_enter Try.func7, Try.ntmps7
    go_wp2
    go_ret
    exact ⟨by simp [Array.getD]; omega, rfl⟩
  · rw [decide_eq_false h]
    go_enter Try.func7, Try.ntmps7
    go_wp2
    go_ret
    exact ⟨by simp [Array.getD]; omega, rfl⟩
/-- What made answers. -/
def MadeR (w : World) (T : List Int) (parts : Int) (e : Ending) (w' : World) : Prop :=
  New w w' ∧ ((newE T parts = (0, 0) ∧ ∃ b r o c b2 r2 o2 c2, e = .returned (.tuple #[.pointer (some ⟨b, 0, none⟩), .pointer (some ⟨b2, 0, none⟩), .bool true]) ∧ At w' 0 b r o c T ∧ At w' 0 b2 r2 o2 c2 T) ∨
    (newE T parts ≠ (0, 0) ∧ e = .returned (.tuple #[.pointer none, .pointer none, .bool true])))
/-- What stands in the memory that made hands over. -/
def marked (T : List Int) (k : Nat) : List Int := T ++ (List.replicate k 77 ++ List.replicate (3 - k) 0)
theorem marked_set (T : List Int) {k : Nat} (hk : k < 3) : (marked T k).set (T.length + k) 77 = marked T (k + 1) := by
  unfold marked
  rw [List.set_append, if_neg (by omega), show T.length + k - T.length = k by omega, List.set_append, if_neg (by simp), List.length_replicate, Nat.sub_self]
  obtain ⟨m, hm⟩ : ∃ m, 3 - k = m + 1 := ⟨3 - k - 1, by omega⟩
  rw [hm, show 3 - (k + 1) = m by omega, List.replicate_succ, List.set_cons_zero, List.replicate_succ', List.append_assoc]
  rfl
/-- .. when so many are written over. -/
def over (Z : List Int) (k : Nat) : List Int := List.replicate k 5 ++ Z.drop k
theorem over_set (Z : List Int) {k : Nat} (hk : k < Z.length) : (over Z k).set k 5 = over Z (k + 1) := by
  unfold over
  rw [List.set_append, if_neg (by simp), List.length_replicate, Nat.sub_self, List.drop_eq_getElem_cons hk, List.set_cons_zero, List.replicate_succ', List.append_assoc]
  rfl
theorem over_get (Z : List Int) {k : Nat} (hk : k < Z.length) : (over Z k)[k]? = some Z[k] := by
  unfold over
  rw [List.getElem?_append_right (by simp), List.length_replicate, Nat.sub_self, List.drop_eq_getElem_cons hk]
  rfl
theorem row_at {w : World} {g o : Nat} {r : Option Nat} {n c : Nat} {Z : List Int} (h : Row w 1 r (some ⟨g, o, none⟩) n c (Z.map (Value.int .i64))) {k : Nat} {v : Int} (hv : Z[k]? = some v) : w.cell? ⟨g, o + k, none⟩ = some (.int .i64 v) := by
  have hl := h.length
  rw [List.length_map, Nat.mul_one] at hl
  have hk : k < Z.length := by
    rcases Nat.lt_or_ge k Z.length with h | h
    · exact h
    · rw [List.getElem?_eq_none h] at hv; cases hv
  obtain ⟨g', o', e1, e2, hc, _⟩ := h.at_pos (by have := h.le; omega)
  injection e2 with e2
  injection e2 with e3 e4
  subst e3; subst e4
  rw [hc k (by omega), List.getElem?_map, hv]
  rfl
theorem row_free {w : World} {g o : Nat} {r : Option Nat} {n c size : Nat} {xs : List Value} (h : Row w size r (some ⟨g, o, none⟩) n c xs) (hc : 0 < c) : (∀ k, k < c * size → w.frozen? ⟨g, o + k, none⟩ = false) ∧ r = some g := by
  obtain ⟨g', o', e1, e2, _, hf⟩ := h.at_pos hc
  injection e2 with e2
  injection e2 with e3 e4
  subst e3; subst e4
  exact ⟨fun k hk => (hf k hk).2, e1⟩
/-- A row of numbers from the head of a block on. -/
def RowO (w : World) (g n : Nat) (Z : List Int) : Prop := Row w 1 (some g) (some ⟨g, 0, none⟩) n n (Z.map (Value.int .i64))
theorem RowO.set {w : World} {g n : Nat} {Z : List Int} (h : RowO w g n Z) {k : Nat} (hk : k < n) (v : Int) : RowO (w.setCell ⟨g, k, none⟩ (.int .i64 v)) g n (Z.set k v) := by
  have := Row.set h (g := g) (o := 0) rfl (j := k) (by omega) (.int .i64 v)
  rw [Nat.zero_add, ← List.map_set] at this
  exact this
theorem RowO.get {w : World} {g n : Nat} {Z : List Int} (h : RowO w g n Z) {k : Nat} {v : Int} (hv : Z[k]? = some v) : w.cell? ⟨g, k, none⟩ = some (.int .i64 v) := by
  have := row_at h hv
  rw [Nat.zero_add] at this
  exact this
theorem RowO.free {w : World} {g n : Nat} {Z : List Int} (h : RowO w g n Z) {k : Nat} (hk : k < n) : w.frozen? ⟨g, k, none⟩ = false := by
  have := (row_free h (by omega)).1 k (by omega)
  rw [Nat.zero_add] at this
  exact this
theorem RowO.new {w w' : World} {g n : Nat} {Z : List Int} (h : RowO w g n Z) (hk : New w w') : RowO w' g n Z := Row.new h (by decide) hk
theorem RowO.lt {w : World} {g n : Nat} {Z : List Int} (h : RowO w g n Z) : g < w.heap.size := Row.lt h (by decide) g rfl
theorem marked_len (T : List Int) {k : Nat} (hk : k ≤ 3) : (marked T k).length = T.length + 3 := by simp [marked]; omega
theorem marked_get (T : List Int) (k : Nat) (h : k < T.length) : (marked T 3)[k]? = some T[k] := by
  unfold marked; rw [List.getElem?_append_left h, List.getElem?_eq_getElem h]
theorem marked_get2 (T : List Int) (k : Nat) (h : T.length ≤ k) (h2 : k < T.length + 3) : (marked T 3)[k]? = some 77 := by
  unfold marked
  rw [List.getElem?_append_right h, show (3 : Nat) - 3 = 0 from rfl, List.replicate_zero, List.append_nil, List.getElem?_replicate, if_pos (by omega)]
theorem over_get' (Z : List Int) (k : Nat) : (over Z k)[k]? = Z[k]? := by
  by_cases h : k < Z.length
  · rw [over_get Z h, List.getElem?_eq_getElem h]
  · rw [List.getElem?_eq_none (by omega : Z.length ≤ k), List.getElem?_eq_none]
    unfold over
    simp; omega
set_option maxHeartbeats 2000000 in
theorem made_any (A : Option Addr) (n c : Nat) (T : List Int) (parts : Int) (w : World) (hl : SliceOf (Rep.int .i64) w w.heap.size A n c T) (hn : n ≤ 1048576) : Calls Try.prog 8 #[.slice A n c, .int .i64 parts] w (MadeR w T parts) := by
  have hb := hl.bound
  have hnT := hl.len
  have hwf := hl.wf
  obtain ⟨z, cs, ⟨i, hi, hz⟩, hcs0, hcs, hmk⟩ := run_make_ty (P := Try.prog) tyInts (li := (n : Int) + 3) (ci := (n : Int) + 3) (n + 3) (n + 3) (by omega) (by omega) (by omega) (by omega) (by omega)
  have hz0 : z = .int .i64 0 := by
    obtain ⟨i2, hi2, hz2, _⟩ := info_parts (P := Try.prog) (e := 3) (z := .int .i64 0) (size := 1) (bytes := 8) (by kernel_rfl)
    rw [hi] at hi2
    injection hi2 with hi2
    subst hi2
    rw [hz] at hz2
    injection hz2
  subst hz0
  have hcs1 : cs = (List.replicate (n + 3) (0 : Int)).map (Value.int .i64) := by
    rw [hcs0, Nat.mul_one, List.map_replicate]
    exact made_zero _ _
  clear hcs0 hi hz
  have hbk : Blk (w.alloc (.cells cs.toArray 3)) w.heap.size 3 cs.toArray := Blk.made _ _ _
  have hsl := (hl.alloc (Nat.le_refl _) (.cells cs.toArray 3))
  have hN0 : New w (w.alloc (.cells cs.toArray 3)) := (Kept.refl _ _).alloc _
  have hs0 := size1 w (.cells cs.toArray 3)
  obtain ⟨W1, hcopy, hb1, hk1, hz1⟩ := run_copy_sp (P := Try.prog) (w.alloc (.cells cs.toArray 3)) 22 22 3 Try.underlying22 (by kernel_rfl) w.heap.size (n + 3) (n + 3) A n c cs 3 hbk (T.map (Value.int .i64)) (by rw [List.length_map, ← hnT]) (by omega)
    (fun hp => by
      obtain ⟨b, o, rfl, _, hc⟩ := hsl.ints hp
      refine ⟨b, o, rfl, fun j v hv => ?_⟩
      rw [List.getElem?_map] at hv
      obtain ⟨x, hx, rfl⟩ := Option.map_eq_some_iff.1 hv
      obtain ⟨hj, rfl⟩ := List.getElem?_eq_some_iff.1 hx
      exact hc j hj) (by rw [hcs]; omega) (by
      intro v hv
      obtain ⟨x, _, rfl⟩ := List.mem_map.1 hv
      rfl)
  have hsp : T.map (Value.int .i64) ++ cs.drop n = (marked T 0).map (Value.int .i64) := by
    rw [hcs1]
    unfold marked
    rw [List.map_append, ← List.map_drop, List.drop_replicate, show n + 3 - n = 3 by omega]
    rfl
  have hrow1 : Row W1 1 (some w.heap.size) (some ⟨w.heap.size, 0, none⟩) (n + 3) (n + 3) ((marked T 0).map (Value.int .i64)) := by
    rw [hsp] at hb1
    have hlen : ((marked T 0).map (Value.int .i64)).length = n + 3 := by simp [marked, ← hnT]
    have := Row.of_blk (size := 1) (n := n + 3) (c := n + 3) hb1 0 (Nat.le_refl _) (by unfold maxLen; omega) (by rw [List.size_toArray, hlen]; omega) (by omega)
    rw [List.drop_zero, List.take_of_length_le (by rw [hlen]; omega)] at this
    exact this
  have hN1 : New w W1 := hN0.step hk1 fun i hi e => by omega
  have hsz1 : w.heap.size < W1.heap.size := by rw [hz1, ← hs0]; exact Nat.lt_succ_self _
  have HL := Lib.hid hl
  have HNT := Lib.hid hnT
  have HWF := Lib.hid hwf
  have HROW1 := Lib.hid hrow1
  have HN1 := Lib.hid hN1
  clear hl hnT hwf hrow1 hN1
  clear hcs hcs1 hbk hsl hN0 hs0 hb1 hk1 hz1 hsp
  go_enter Try.func8, Try.ntmps8
  go_wp2_with fail
  go_loopw [8] (fun i wr => ∃ m k : Nat, k ≤ 3 ∧ m = n + k ∧ i = .int .i64 m ∧ RowO wr w.heap.size (n + 3) (marked T k) ∧ Kept (fun j => j = w.heap.size) W1 wr) (fun i _ => (n + 3 - (intOf i).toNat))
  case atStart => exact ⟨n, 0, by omega, rfl, rfl, HROW1.out, Kept.refl _ _⟩
  case round =>
    obtain ⟨m, k, hk, hm, rfl, hrow, hkp⟩ := hrel
    by_cases hlt : k < 3
    · have f1 := hrow.free (k := m) (by omega)
      have hmz : (marked T k)[m]? = some 0 := by
        unfold marked
        have := HNT.out
        rw [List.getElem?_append_right (by omega), List.getElem?_append_right (by simp; omega), List.getElem?_replicate, if_pos (by simp; omega)]
      have c1 := hrow.get hmz
      have hset := hrow.set (k := m) (by omega) 77
      rw [show (marked T k).set m 77 = marked T (k + 1) by rw [hm, HNT.out]; exact marked_set T hlt] at hset
      have hb1 : m < n + 3 := by omega
      have hkp2 : Kept (fun j => j = w.heap.size) W1 (wr.setCell ⟨w.heap.size, m, none⟩ (.int .i64 77)) := hkp.setCell (.inr rfl) _
      have HM := Lib.hid hm
      have HROW := Lib.hid hrow
      have HKP := Lib.hid hkp
      have HSET := Lib.hid hset
      have HKP2 := Lib.hid hkp2
      clear hm hrow hkp hset hkp2
      clear hmz
      go_wp2_with fail
      go_roundw
      case rel => exact ⟨m + 1, k + 1, by omega, by have := HM.out; omega, by go_num, HSET.out, HKP2.out⟩
      case measure => simp [intOf]; omega
    · obtain rfl : k = 3 := by omega
      obtain ⟨w2, rfl⟩ : ∃ w2 : World, w2 = wr := ⟨_, rfl⟩
      have hn2 : New w w2 := HN1.out.step hkp fun i hi e => by omega
      have hsl2 : SliceOf (Rep.int .i64) w2 w2.heap.size (some ⟨w.heap.size, 0, none⟩) n (n + 3) T := by
        have h1 := Row.head hrow (k := n) (by omega)
        rw [Nat.mul_one, ← List.map_take, show (marked T 3).take n = T by unfold marked; rw [HNT.out]; exact List.take_left] at h1
        exact ints_read h1 HWF.out
      have hnew := new_any _ _ _ T parts w2 hsl2
      have hge : n + 3 ≤ m := by omega
      have hmm : m ≤ 1048579 := by omega
      have HM := Lib.hid hm
      have HROW2 := Lib.hid hrow
      have HN2 := Lib.hid hn2
      have HNEW := Lib.hid hnew
      clear hm hrow hn2 hnew
      clear hkp hsl2 hk hlt
      go_wp2_with fail
      refine HNEW.out.mono ?_
      rintro e w3 ⟨hw3, hres⟩
      have hrnew := rnew_any A n c T parts w3 ((HL.out.kept (HN2.out.trans hw3) (Nat.le_refl _) fun _ _ h => h).more (HN2.out.trans hw3).size)
      have hrow3 := HROW2.out.new hw3
      have hn3 := HN2.out.trans hw3
      have hlo : w.heap.size < w2.heap.size := HROW2.out.lt
      have HRNEW := Lib.hid hrnew
      have HROW3 := Lib.hid hrow3
      have HN3 := Lib.hid hn3
      have HW3 := Lib.hid hw3
      have HLO := Lib.hid hlo
      clear hrnew hrow3 hn3 hw3 hlo
      clear HNEW HROW2
      rcases hres with ⟨hE, b, r, o, c', rfl, hA⟩ | ⟨hE, rfl⟩
      · have HA := Lib.hid hA
        clear hA
        have HE := Lib.hid hE
        clear hE
        go_wp2_with fail
        refine HRNEW.out.mono ?_
        rintro e w4 ⟨hw4, ⟨hE, b2, r2, o2, c2', rfl, hA2⟩ | ⟨hE, _⟩⟩
        rotate_left
        · exact absurd HE.out hE
        have hA4 : At w4 (w.heap.size + 1) b r o c' T := by
          have := (HA.out.new hw4)
          exact ⟨this.cell, this.row, this.pos, this.len, this.ok, by have := this.lob; have := HLO.out; omega, by have := this.lor; have := HLO.out; omega, this.cap, this.capm⟩
        have hA24 : At w4 (w.heap.size + 1) b2 r2 o2 c2' T := ⟨hA2.cell, hA2.row, hA2.pos, hA2.len, hA2.ok, by have := hA2.lob; have := HLO.out; have := HW3.out.size; omega, by have := hA2.lor; have := HLO.out; have := HW3.out.size; omega, hA2.cap, hA2.capm⟩
        have hrow4 := HROW3.out.new hw4
        have hn4 := HN3.out.trans hw4
        have HA4 := Lib.hid hA4
        have HA24 := Lib.hid hA24
        have HROW4 := Lib.hid hrow4
        have HN4 := Lib.hid hn4
        clear hA4 hA24 hrow4 hn4
        clear hw4 hA2 hE HA HROW3
        clear hge hmm
        go_wp2_with fail
        go_loopw [15, 16] (fun ok i wr => ∃ k : Nat, k ≤ n + 3 ∧ i = .int .i64 k ∧ ok = .bool true ∧ RowO wr w.heap.size (n + 3) (over (marked T 3) k) ∧ Kept (fun j => j = w.heap.size) w4 wr) (fun _ i _ => (n + 3 - (intOf i).toNat))
        case atStart => exact ⟨0, by omega, rfl, rfl, HROW4.out, Kept.refl _ _⟩
        case round =>
          obtain ⟨k, hk, rfl, rfl, hrow, hkp⟩ := hrel
          by_cases hlt : k < n + 3
          · have f1 := hrow.free (k := k) hlt
            have hov := over_get' (marked T 3) k
            have hset : ∀ q, RowO ((wr.drewN q).setCell ⟨w.heap.size, k, none⟩ (.int .i64 5)) w.heap.size (n + 3) (over (marked T 3) (k + 1)) := fun q => by
              have := RowO.set (w := wr.drewN q) (Row.drewN hrow q) (k := k) hlt 5
              rw [over_set (marked T 3) (by rw [marked_len T (by omega), ← HNT.out]; exact hlt)] at this
              exact this
            have hkp2 : ∀ q, Kept (fun j => j = w.heap.size) w4 ((wr.drewN q).setCell ⟨w.heap.size, k, none⟩ (.int .i64 5)) := fun q => (hkp.drewN q).setCell (.inr rfl) _
            have hnk : New w wr := HN4.out.step hkp fun i hi e => by omega
            by_cases hkn : k < n
            · obtain ⟨b0, o0, rfl, hb0, hc0⟩ := HL.out.ints (by omega)
              have hkT : k < T.length := by have := HNT.out; omega
              have c1 := hrow.get (hov.trans (marked_get T k hkT))
              have c2 : wr.cell? ⟨b0, o0 + k, none⟩ = some (.int .i64 T[k]) := (hnk.cell (p := ⟨b0, o0 + k, none⟩) hb0 id).trans (hc0 k hkT)
              generalize T[k] = v at *
              have d1 : decide ((k : Int) < (n : Int)) = true := decide_eq_true (by omega)
              have HROW := Lib.hid hrow
              have HKP := Lib.hid hkp
              have HSET := Lib.hid hset
              have HKP2 := Lib.hid hkp2
              have HNK := Lib.hid hnk
              have HOV := Lib.hid hov
              have HC0 := Lib.hid hc0
              clear hrow hkp hset hkp2 hnk hov hc0
              clear hkT
              go_wp2_with fail
              go_quiet (fail)
              go_wp2_with fail
              go_roundw
              case rel => exact ⟨k + 1, by omega, by go_num, rfl, HSET.out _, HKP2.out _⟩
              case measure => simp [intOf]; omega
            · have hkT : T.length ≤ k := by have := HNT.out; omega
              have c1 := hrow.get (hov.trans (marked_get2 T k hkT (by have := HNT.out; omega)))
              have d1 : decide (k < n) = false := decide_eq_false (by omega)
              have d2 : decide (n ≤ k) = true := decide_eq_true (by omega)
              have HROW := Lib.hid hrow
              have HKP := Lib.hid hkp
              have HSET := Lib.hid hset
              have HKP2 := Lib.hid hkp2
              have HNK := Lib.hid hnk
              have HOV := Lib.hid hov
              clear hrow hkp hset hkp2 hnk hov
              clear hkT
              go_wp2_with fail
              go_quiet (fail)
              go_wp2_with fail
              go_roundw
              case rel => exact ⟨k + 1, by omega, by go_num, rfl, HSET.out _, HKP2.out _⟩
              case measure => simp [intOf]; omega
          · have hlast : n + 3 ≤ k := by omega
            have hnk : New w wr := HN4.out.step hkp fun i hi e => by omega
            have hAk := (HA4.out.kept hkp fun j h1 h2 => by omega).less
            have hBk := (HA24.out.kept hkp fun j h1 h2 => by omega).less
            have HNK := Lib.hid hnk
            have HAK := Lib.hid hAk
            have HBK := Lib.hid hBk
            clear hnk hAk hBk
            clear hkp hrow hlt hk
            go_wp2_with fail
            go_ret3
            exact ⟨HNK.out, .inl ⟨HE.out, b, r, o, c', b2, r2, o2, c2', rfl, HAK.out, HBK.out⟩⟩
      · have HE := Lib.hid hE
        clear hE
        go_wp2_with fail
        refine HRNEW.out.mono ?_
        rintro e w4 ⟨hw4, ⟨hE, _⟩ | ⟨hE, rfl⟩⟩
        · exact absurd hE HE.out
        have hrow4 := HROW3.out.new hw4
        have hn4 := HN3.out.trans hw4
        have HROW4 := Lib.hid hrow4
        have HN4 := Lib.hid hn4
        clear hrow4 hn4
        clear hw4 hE HROW3 hge hmm
        generalize hz1 : (newE T parts).1 = z1 at *
        generalize hz2 : (newE T parts).2 = z2 at *
        clear hz1 hz2
        go_wp2_with fail
        go_loopw [15, 16] (fun ok i wr => ∃ k : Nat, k ≤ n + 3 ∧ i = .int .i64 k ∧ ok = .bool true ∧ RowO wr w.heap.size (n + 3) (over (marked T 3) k) ∧ Kept (fun j => j = w.heap.size) w4 wr) (fun _ i _ => (n + 3 - (intOf i).toNat))
        case atStart => exact ⟨0, by omega, rfl, rfl, HROW4.out, Kept.refl _ _⟩
        case round =>
          obtain ⟨k, hk, rfl, rfl, hrow, hkp⟩ := hrel
          by_cases hlt : k < n + 3
          · have f1 := hrow.free (k := k) hlt
            have hov := over_get' (marked T 3) k
            have hset : ∀ q, RowO ((wr.drewN q).setCell ⟨w.heap.size, k, none⟩ (.int .i64 5)) w.heap.size (n + 3) (over (marked T 3) (k + 1)) := fun q => by
              have := RowO.set (w := wr.drewN q) (Row.drewN hrow q) (k := k) hlt 5
              rw [over_set (marked T 3) (by rw [marked_len T (by omega), ← HNT.out]; exact hlt)] at this
              exact this
            have hkp2 : ∀ q, Kept (fun j => j = w.heap.size) w4 ((wr.drewN q).setCell ⟨w.heap.size, k, none⟩ (.int .i64 5)) := fun q => (hkp.drewN q).setCell (.inr rfl) _
            have hnk : New w wr := HN4.out.step hkp fun i hi e => by omega
            by_cases hkn : k < n
            · obtain ⟨b0, o0, rfl, hb0, hc0⟩ := HL.out.ints (by omega)
              have hkT : k < T.length := by have := HNT.out; omega
              have c1 := hrow.get (hov.trans (marked_get T k hkT))
              have c2 : wr.cell? ⟨b0, o0 + k, none⟩ = some (.int .i64 T[k]) := (hnk.cell (p := ⟨b0, o0 + k, none⟩) hb0 id).trans (hc0 k hkT)
              generalize T[k] = v at *
              have d1 : decide ((k : Int) < (n : Int)) = true := decide_eq_true (by omega)
              have HROW := Lib.hid hrow
              have HKP := Lib.hid hkp
              have HSET := Lib.hid hset
              have HKP2 := Lib.hid hkp2
              have HNK := Lib.hid hnk
              have HOV := Lib.hid hov
              have HC0 := Lib.hid hc0
              clear hrow hkp hset hkp2 hnk hov hc0
              clear hkT
              go_wp2_with fail
              go_quiet (fail)
              go_wp2_with fail
              go_roundw
              case rel => exact ⟨k + 1, by omega, by go_num, rfl, HSET.out _, HKP2.out _⟩
              case measure => simp [intOf]; omega
            · have hkT : T.length ≤ k := by have := HNT.out; omega
              have c1 := hrow.get (hov.trans (marked_get2 T k hkT (by have := HNT.out; omega)))
              have d1 : decide (k < n) = false := decide_eq_false (by omega)
              have d2 : decide (n ≤ k) = true := decide_eq_true (by omega)
              have HROW := Lib.hid hrow
              have HKP := Lib.hid hkp
              have HSET := Lib.hid hset
              have HKP2 := Lib.hid hkp2
              have HNK := Lib.hid hnk
              have HOV := Lib.hid hov
              clear hrow hkp hset hkp2 hnk hov
              clear hkT
              go_wp2_with fail
              go_quiet (fail)
              go_wp2_with fail
              go_roundw
              case rel => exact ⟨k + 1, by omega, by go_num, rfl, HSET.out _, HKP2.out _⟩
              case measure => simp [intOf]; omega
          · have hlast : n + 3 ≤ k := by omega
            have hnk : New w wr := HN4.out.step hkp fun i hi e => by omega
            have HNK := Lib.hid hnk
            clear hnk
            clear hkp hrow hlt hk
            go_wp2_with fail
            go_ret3
            exact ⟨HNK.out, .inr ⟨HE.out, rfl⟩⟩
end Go.Proofs.Ytnfcjfjkioodbaa.Slots
