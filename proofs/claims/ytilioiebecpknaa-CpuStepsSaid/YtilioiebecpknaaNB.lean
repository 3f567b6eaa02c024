/- The walks of the reference's numbers of any size (layer 5): small, bits. -/
import Derived.Test.YtilioiebecpknaaNA
namespace Go.Proofs.Ytilioiebecpknaa.Nat5
open Go.RowKit Go.Fb Go.NatP
set_option linter.unusedVariables false
theorem wrapN {x : Nat} (h : x < 18446744073709551616) : IntKind.u64.wrap (x : Int) = (x : Int) := by rw [IntKind.wrap_u64]; omega
theorem ubor {x y : Nat} (hx : x < 18446744073709551616) (hy : y < 18446744073709551616) : bits BinOp.or IntKind.u64 (x : Int) (y : Int) = ((x ||| y : Nat) : Int) := by
  show IntKind.u64.wrap ((BitVec.ofInt 64 (x : Int) ||| BitVec.ofInt 64 (y : Int)).toNat : Int) = _
  rw [BitVec.ofInt_natCast, BitVec.ofInt_natCast, BitVec.toNat_or, BitVec.toNat_ofNat, BitVec.toNat_ofNat, Nat.mod_eq_of_lt hx, Nat.mod_eq_of_lt hy, wrapN (Nat.or_lt_two_pow (n := 64) hx hy)]
theorem uband {x y : Nat} (hx : x < 18446744073709551616) (hy : y < 18446744073709551616) : bits BinOp.and IntKind.u64 (x : Int) (y : Int) = ((x &&& y : Nat) : Int) := by
  show IntKind.u64.wrap ((BitVec.ofInt 64 (x : Int) &&& BitVec.ofInt 64 (y : Int)).toNat : Int) = _
  rw [BitVec.ofInt_natCast, BitVec.ofInt_natCast, BitVec.toNat_and, BitVec.toNat_ofNat, BitVec.toNat_ofNat, Nat.mod_eq_of_lt hx, Nat.mod_eq_of_lt hy, wrapN (Nat.and_lt_two_pow (n := 64) _ hy)]
theorem or_add {x d k : Nat} (h : d < 2 ^ k) : x * 2 ^ k ||| d = x * 2 ^ k + d := by
  rw [Nat.mul_comm]; exact (Nat.two_pow_add_eq_or_of_lt h x).symm
set_option maxHeartbeats 1000000 in
theorem small_any {A : Option Addr} {n c v Bd : Nat} {w : World} (h : SliceOf repU w Bd A n c (dig v)) (hv : v < 18446744073709551616) :
    Calls Try.prog 73 #[.slice A n c] w fun e w' => e = .returned (.int .u64 v) ∧ w' = w := by
  have hln := h.len
  have hbd := h.bound
  have hn2 : n ≤ 2 := by
    rw [hln]
    refine dig_len_lt (k := 2) ?_
    unfold B; omega
  have hdl := dig_lt v
  have hval := dig_val v
  generalize dig v = L at *
  have H := Lib.hid h
  have HLN := Lib.hid hln
  have HDL := Lib.hid hdl
  have HVAL := Lib.hid hval
  have HV := Lib.hid hv
  clear h hln hdl hval hv
  go_enter Try.func73, Try.ntmps73
  go_wp2_with fail
  go_loopg [3, 4] n (fun g s3 s4 wr => ∃ (i x : Nat), i ≤ n ∧ i ≤ g ∧ s4 = .int .i64 ((i : Int) - 1) ∧ s3 = .int .u64 x ∧ wr = w ∧ Hid (val (L.drop i) = x))
  case atStart => exact ⟨n, 0, Nat.le_refl _, Nat.le_refl _, rfl, rfl, rfl, Lib.hid (by rw [List.drop_of_length_le (by rw [← HLN.out]; exact Nat.le_refl _)]; rfl)⟩
  case round =>
    obtain ⟨i, x, hi, hig, rfl, rfl, rfl, hx⟩ := hrel
    have HX := hx
    clear hx
    by_cases h0 : i = 0
    · subst h0
      go_wp2_with fail
      go_ret
      refine ⟨?_, rfl⟩
      have := HX.out
      rw [List.drop_zero, HVAL.out] at this
      rw [this]
      rfl
    · obtain ⟨j, rfl⟩ : ∃ j, i = j + 1 := ⟨i - 1, by omega⟩
      obtain ⟨b1, o1, rfl, -, hc1⟩ := dig_at H.out (by omega)
      have hjL : j < L.length := by have := HLN.out; omega
      have c0 := hc1 j hjL
      have hdB := HDL.out _ (List.getElem_mem hjL)
      have hdd := List.drop_eq_getElem_cons hjL
      generalize L[j] = d at *
      have hj1 : ((j + 1 : Nat) : Int) - 1 = (j : Int) := by omega
      rw [hj1]
      have hxl : x < B := by
        have h1 := val_lt (l := L.drop (j + 1)) fun y hy => HDL.out y (List.mem_of_mem_drop hy)
        rw [HX.out, List.length_drop] at h1
        have h2 := HLN.out
        have h3 : B ^ (L.length - (j + 1)) ≤ B ^ 1 := Nat.pow_le_pow_right B_pos (by omega)
        rw [Nat.pow_one] at h3
        omega
      have hx9 : x ≤ 4294967295 := by unfold B at hxl; omega
      have hd9 : d ≤ 4294967295 := by unfold B at hdB; omega
      obtain ⟨y, hy⟩ : ∃ y : Nat, x * 4294967296 = y := ⟨_, rfl⟩
      have hye : (x : Int) * 4294967296 = (y : Int) := by omega
      have hy9 : y ≤ 18446744069414584320 := by omega
      have hyw : IntKind.u64.wrap (y : Int) = (y : Int) := wrapN (by omega)
      have hor : bits BinOp.or IntKind.u64 (y : Int) (d : Int) = ((y + d : Nat) : Int) := by
        rw [ubor (by omega) (by omega), ← hy]
        congr 1
        exact or_add (k := 32) (by omega)
      have hvn : val (L.drop j) = y + d := by
        rw [hdd]
        show d + B * val (L.drop (j + 1)) = _
        rw [HX.out, ← hy, Nat.mul_comm]; unfold B; omega
      have HVN := Lib.hid hvn
      have HY := Lib.hid hy
      have HXL := Lib.hid hxl
      have HDB := Lib.hid hdB
      have HDD := Lib.hid hdd
      clear hvn hy hxl hdB hdd
      clear hc1
      go_wp2_with fail
      go_roundg j
      case measure => omega
      case rel => exact ⟨j, y + d, by omega, Nat.le_refl _, by go_num, rfl, rfl, HVN⟩
/-- How many bits a number has. -/
def bl (v : Nat) : Nat := if v = 0 then 0 else Nat.log2 v + 1
theorem bl_half {t : Nat} (h : t ≠ 0) : bl (t / 2) + 1 = bl t := by
  unfold bl
  rw [if_neg h]
  by_cases h1 : t / 2 = 0
  · rw [if_pos h1]
    have : t = 1 := by omega
    subst this
    decide
  · rw [if_neg h1, Nat.log2_def t, if_pos (by omega)]
theorem bl_top {L : List Nat} {k t : Nat} (hl : ∀ d ∈ L, d < B) (hk : L.length = k) (ht : t ≠ 0) : bl (val (L ++ [t])) = 32 * k + bl t := by
  have h1 := val_lt hl
  rw [hk] at h1
  rw [snoc_val, hk]
  have h2 : B ^ k = 2 ^ (32 * k) := by rw [Nat.pow_mul]; rfl
  rw [h2] at h1 ⊢
  have h0 : val L + 2 ^ (32 * k) * t ≠ 0 := by
    have := Nat.mul_le_mul_left (2 ^ (32 * k)) (Nat.one_le_iff_ne_zero.2 ht)
    have := Nat.pow_pos (n := 32 * k) (show 0 < 2 by decide)
    omega
  unfold bl
  rw [if_neg h0, if_neg ht]
  have h3 := Nat.log2_self_le ht
  have h4 := Nat.lt_log2_self (n := t)
  have : (val L + 2 ^ (32 * k) * t).log2 = 32 * k + t.log2 := by
    rw [Nat.log2_eq_iff h0]
    constructor
    · rw [Nat.pow_add]
      exact Nat.le_trans (Nat.mul_le_mul_left _ h3) (Nat.le_add_left _ _)
    · rw [Nat.add_assoc, Nat.pow_add]
      have h5 : 2 ^ (32 * k) * (t + 1) ≤ 2 ^ (32 * k) * 2 ^ (t.log2 + 1) := Nat.mul_le_mul_left _ (by omega)
      rw [Nat.mul_add, Nat.mul_one] at h5
      generalize 2 ^ (32 * k) = P at *
      omega
  omega
set_option maxHeartbeats 1000000 in
theorem bits_nat {A : Option Addr} {n c v Bd : Nat} {w : World} (h : SliceOf repU w Bd A n c (dig v)) (hn : n ≤ 1000000) :
    Calls Try.prog 72 #[.slice A n c] w fun e w' => e = .returned (.int .i64 (bl v)) ∧ w' = w := by
  have hln := h.len
  have hbd := h.bound
  by_cases h0 : n = 0
  · subst h0
    have hv : v = 0 := dig_nil.1 (List.eq_nil_of_length_eq_zero hln.symm)
    subst hv
    have H := Lib.hid h
    have HLN := Lib.hid hln
    clear h hln
    go_enter Try.func72, Try.ntmps72
    go_wp2_with fail
    go_ret
    exact ⟨rfl, rfl⟩
  · obtain ⟨b1, o1, rfl, -, hc1⟩ := dig_at h (by omega)
    obtain ⟨k, rfl⟩ : ∃ k, n = k + 1 := ⟨n - 1, by omega⟩
    have hkL : k < (dig v).length := by omega
    have c0 := hc1 k hkL
    have hdl := dig_lt v
    have htB := hdl _ (List.getElem_mem hkL)
    have htk : dig v = (dig v).take k ++ [(dig v)[k]] := by
      rw [← List.take_succ_eq_append_getElem hkL, List.take_of_length_le (by omega)]
    have htn : (dig v)[k] ≠ 0 := by
      refine dig_last (v := v) _ ?_
      rw [List.getLast?_eq_getElem?, ← hln, Nat.add_sub_cancel, List.getElem?_eq_getElem hkL]
    have hbl := bl_top (L := (dig v).take k) (k := k) (t := (dig v)[k]) (fun d hd => hdl d (List.mem_of_mem_take hd)) (by rw [List.length_take]; omega) htn
    rw [← htk, dig_val] at hbl
    generalize (dig v)[k] = t at *
    have ht9 : t ≤ 4294967295 := by unfold B at htB; omega
    have hk1 : ((k + 1 : Nat) : Int) - 1 = (k : Int) := by omega
    have hkz : (((k + 1 : Nat) : Int) == 0) = false := by simp; omega
    clear hc1 htk
    have H := Lib.hid h
    have HLN := Lib.hid hln
    have HDL := Lib.hid hdl
    have HTN := Lib.hid htn
    have HBL := Lib.hid hbl
    have HTB := Lib.hid htB
    clear h hln hdl htn hbl htB
    go_enter Try.func72, Try.ntmps72
    go_wp2_with fail
    go_loopg [3, 4] t (fun g s3 s4 wr => ∃ (m x : Nat), x ≤ g ∧ x ≤ t ∧ s4 = .int .u32 x ∧ s3 = .int .i64 m ∧ wr = w ∧ m + bl x = bl v ∧ m ≤ 4294967295)
    case atStart => exact ⟨32 * k, t, Nat.le_refl _, Nat.le_refl _, rfl, by go_num, rfl, HBL.out.symm, by omega⟩
    case round =>
      obtain ⟨m, x, hxg, hxt, rfl, rfl, rfl, hm, hm9⟩ := hrel
      by_cases hx0 : x = 0
      · subst hx0
        have hmv : m = bl v := by
          have : bl 0 = 0 := rfl
          omega
        have HM := Lib.hid hm
        have HMV := Lib.hid hmv
        clear hm hmv
        go_wp2_with fail
        go_ret
        refine ⟨?_, rfl⟩
        rw [← HMV.out]
        rfl
      · have hh := bl_half hx0
        obtain ⟨y, hy⟩ : ∃ y, x / 2 = y := ⟨_, rfl⟩
        rw [hy] at hh
        have hye : Int.tdiv (x : Int) 2 = (y : Int) := by rw [Int.tdiv_eq_ediv_of_nonneg (by omega)]; omega
        have hx1 : 0 < x := by omega
        have hm2 : m + 1 + bl y = bl v := by omega
        have hyx : y < x := by omega
        have hb9 : bl v ≤ 4294967295 := by
          have h1 := HBL.out
          have h2 : bl t ≤ 64 := by
            unfold bl
            split
            · omega
            · have : t.log2 < 64 := (Nat.log2_lt (by assumption)).2 (by omega)
              omega
          omega
        have HM := Lib.hid hm
        have HH := Lib.hid hh
        have HY := Lib.hid hy
        have HM2 := Lib.hid hm2
        have HB9 := Lib.hid hb9
        clear hm hh hy hm2 hb9
        go_wp2_with fail
        go_roundg y
        case measure => omega
        case rel => exact ⟨m + 1, y, Nat.le_refl _, by omega, rfl, by go_num, rfl, HM2.out, by have := HM2.out; have := HB9.out; omega⟩
end Go.Proofs.Ytilioiebecpknaa.Nat5

namespace Go.Proofs.Ytilioiebecpknaa.Nat5
open Go.RowKit Go.Fb Go.NatP
set_option linter.unusedVariables false
theorem B_pow (m : Nat) : B ^ m = 2 ^ (32 * m) := by rw [Nat.pow_mul]; rfl
theorem bit_of {L : List Nat} {i m r : Nat} (hm : i / 32 = m) (hr : i % 32 = r) (h : m < L.length) (hl : ∀ d ∈ L, d < B) : val L / 2 ^ i % 2 = L[m] / 2 ^ r % 2 := by
  have hi : i = 32 * m + r := by omega
  have h1 := val_split h
  have h2 := val_lt (l := L.take m) fun d hd => hl d (List.mem_of_mem_take hd)
  rw [List.length_take, Nat.min_eq_left (by omega), B_pow] at h2
  have h3 : val L / 2 ^ (32 * m) = L[m] + B * val (L.drop (m + 1)) := by
    rw [h1, B_pow, Nat.add_mul_div_left _ _ (Nat.pow_pos (by decide)), Nat.div_eq_of_lt h2, Nat.zero_add]
  rw [hi, Nat.pow_add, ← Nat.div_div_eq_div_mul, h3]
  have hr32 : r < 32 := by omega
  have h4 : B = 2 ^ r * (2 * 2 ^ (31 - r)) := by
    rw [← Nat.pow_succ', ← Nat.pow_add]
    have : r + (31 - r + 1) = 32 := by omega
    rw [this]; rfl
  rw [h4, Nat.mul_assoc, Nat.add_mul_div_left _ _ (Nat.pow_pos (by decide)), Nat.mul_assoc, Nat.add_mul_mod_self_left]
theorem set_bit {X : List Nat} {j m r b : Nat} (hm : j / 32 = m) (hr : j % 32 = r) (hx : X.length = m + 1) (hl : ∀ d ∈ X, d < B) (hv : val X < 2 ^ j) (hb : b ≤ 1) :
    ∃ h : m < X.length, X[m] < 2 ^ r ∧ val (X.set m (X[m] + b * 2 ^ r)) = val X + 2 ^ j * b ∧ (∀ d ∈ X.set m (X[m] + b * 2 ^ r), d < B) := by
  have h : m < X.length := by omega
  have hj : j = 32 * m + r := by omega
  have hX : X = X.take m ++ [X[m]] := by rw [← List.take_succ_eq_append_getElem h, List.take_of_length_le (by omega)]
  have hlen : (X.take m).length = m := by rw [List.length_take]; omega
  have h1 : val X = val (X.take m) + B ^ m * X[m] := by
    have := snoc_val (X.take m) X[m]
    rw [← hX, hlen] at this
    exact this
  have hlow : X[m] < 2 ^ r := by
    rw [hj, Nat.pow_add, ← B_pow] at hv
    refine Nat.lt_of_mul_lt_mul_left (a := B ^ m) ?_
    omega
  have hs : X.set m (X[m] + b * 2 ^ r) = X.take m ++ [X[m] + b * 2 ^ r] := by
    rw [List.set_eq_take_append_cons_drop, if_pos h, List.drop_of_length_le (by omega)]
  refine ⟨h, hlow, ?_, ?_⟩
  · rw [hs, snoc_val, hlen, h1, Nat.mul_add, hj, Nat.pow_add, ← B_pow, Nat.mul_assoc, Nat.mul_comm b]
    omega
  · intro d hd
    rw [hs] at hd
    rcases List.mem_append.1 hd with hd | hd
    · exact hl d (List.mem_of_mem_take hd)
    · rw [List.mem_singleton.1 hd]
      have h3 : 2 ^ (r + 1) ≤ 2 ^ 32 := Nat.pow_le_pow_right (by decide) (by omega)
      have h4 : b * 2 ^ r ≤ 1 * 2 ^ r := Nat.mul_le_mul_right _ hb
      rw [Nat.pow_succ] at h3
      unfold B
      omega
/-- What the two lists hold when i bits are dealt. -/
def restAt (v k i : Nat) : Nat := v % 2 ^ (min i k)
def outAt (v k i : Nat) : Nat := v / 2 ^ k % 2 ^ (i - k)
theorem rest_next {v k i : Nat} (h : i < k) : restAt v k (i + 1) = restAt v k i + 2 ^ i * (v / 2 ^ i % 2) := by
  unfold restAt
  rw [Nat.min_eq_left (by omega), Nat.min_eq_left (by omega), Nat.mod_pow_succ]
theorem rest_same {v k i : Nat} (h : k ≤ i) : restAt v k (i + 1) = restAt v k i := by
  unfold restAt
  rw [Nat.min_eq_right (by omega), Nat.min_eq_right (by omega)]
theorem out_next {v k i : Nat} (h : k ≤ i) : outAt v k (i + 1) = outAt v k i + 2 ^ (i - k) * (v / 2 ^ i % 2) := by
  unfold outAt
  have h1 : i + 1 - k = (i - k) + 1 := by omega
  have h2 : 2 ^ i = 2 ^ k * 2 ^ (i - k) := by rw [← Nat.pow_add]; congr 1; omega
  rw [h1, Nat.mod_pow_succ, h2, ← Nat.div_div_eq_div_mul]
theorem out_same {v k i : Nat} (h : i < k) : outAt v k (i + 1) = outAt v k i := by
  unfold outAt
  rw [show i + 1 - k = 0 by omega, show i - k = 0 by omega]
theorem rest_lt {v k i : Nat} : restAt v k i < 2 ^ (min i k) := Nat.mod_lt _ (Nat.pow_pos (by decide))
theorem out_lt {v k i : Nat} : outAt v k i < 2 ^ (i - k) := Nat.mod_lt _ (Nat.pow_pos (by decide))
theorem rest_end {v k i : Nat} (h : v < 2 ^ i) : restAt v k i = v % 2 ^ k := by
  unfold restAt
  by_cases hk : i ≤ k
  · rw [Nat.min_eq_left hk, Nat.mod_eq_of_lt h, Nat.mod_eq_of_lt (Nat.lt_of_lt_of_le h (Nat.pow_le_pow_right (by decide) hk))]
  · rw [Nat.min_eq_right (by omega)]
theorem out_end {v k i : Nat} (h : v < 2 ^ i) : outAt v k i = v / 2 ^ k := by
  unfold outAt
  refine Nat.mod_eq_of_lt ?_
  by_cases hk : i ≤ k
  · rw [Nat.div_eq_of_lt (Nat.lt_of_lt_of_le h (Nat.pow_le_pow_right (by decide) hk))]
    exact Nat.pow_pos (by decide)
  · refine Nat.div_lt_of_lt_mul ?_
    rw [← Nat.pow_add]
    have : k + (i - k) = i := by omega
    rw [this]; exact h
end Go.Proofs.Ytilioiebecpknaa.Nat5

namespace Go.Proofs.Ytilioiebecpknaa.Nat5
open Go.RowKit Go.Fb Go.NatP
set_option linter.unusedVariables false
/-- Two numbers in new memory. -/
def Num2 (w : World) (u v : Nat) (e : Ending) (w' : World) : Prop := New w w' ∧ ∃ A k c A' k' c', e = .returned (.tuple #[.slice A k c, .slice A' k' c']) ∧ SliceOf repU w' w'.heap.size A k c (dig u) ∧ SliceOf repU w' w'.heap.size A' k' c' (dig v)
/-- The two lists on the way. -/
structure Lists (w wr : World) (p q : Nat) (T : TypeId) (R O : List Nat) (r1 r2 : Option Nat) (A1 A2 : Option Addr) (n1 n2 c1 c2 : Nat) : Prop where
  new : New w wr
  bp : Blk wr p T #[.slice A1 n1 c1]
  bq : Blk wr q T #[.slice A2 n2 c2]
  row1 : Row wr 1 r1 A1 n1 c1 (R.map cellU)
  row2 : Row wr 1 r2 A2 n2 c2 (O.map cellU)
  len1 : R.length = n1
  len2 : O.length = n2
  lt1 : ∀ d ∈ R, d < B
  lt2 : ∀ d ∈ O, d < B
  pq : w.heap.size ≤ p ∧ p < q
  far1 : ∀ x, r1 = some x → q < x
  far2 : ∀ x, r2 = some x → q < x
  apart : ∀ x y, r1 = some x → r2 = some y → x ≠ y
theorem Lists.store1 {w wr w8 : World} {p q : Nat} {T : TypeId} {R O R' : List Nat} {r1 r2 r8 : Option Nat} {A1 A2 A8 : Option Addr} {n1 n2 c1 c2 n8 c8 : Nat} (h : Lists w wr p q T R O r1 r2 A1 A2 n1 n2 c1 c2)
    (hr : Row w8 1 r8 A8 n8 c8 (R'.map cellU)) (hl : R'.length = n8) (hd : ∀ d ∈ R', d < B) (hk : Kept (fun k => r1 = some k) wr w8) (hn : ∀ k, r8 = some k → r1 = some k ∨ wr.heap.size ≤ k) :
    Lists w (w8.setCell ⟨p, 0, none⟩ (.slice A8 n8 c8)) p q T R' O r8 r2 A8 A2 n8 n2 c8 c2 := by
  have hq := h.bq.lt
  have hf8 : ∀ x, r8 = some x → q < x := fun x hx => (hn x hx).elim (h.far1 x) fun y => by omega
  have hpq := h.pq
  have b1 : Blk w8 p T #[.slice A1 n1 c1] := h.bp.kept hk fun e => by have := h.far1 p e; omega
  have b2 : Blk w8 q T #[.slice A2 n2 c2] := h.bq.kept hk fun e => by have := h.far1 q e; omega
  have hs : ∀ v, Kept (fun k => k = p) w8 (w8.setCell ⟨p, 0, none⟩ v) := fun v => Kept.set1 w8 p 0 v
  refine ⟨?_, b1.set _, b2.other (show q ≠ p by omega) _, ?_, ?_, hl, h.len2, hd, h.lt2, h.pq, hf8, h.far2, ?_⟩
  · exact (h.new.step hk fun j hj x => by have := h.far1 j x; omega).setCell (.inl (by show _ ≤ p; omega)) _
  · exact hr.of_kept (by decide) (hs _) fun x hx e => by have := hf8 x hx; omega
  · exact (h.row2.of_kept (by decide) hk fun x hx e => h.apart x x e hx rfl).of_kept (by decide) (hs _) fun x hx e => by have := h.far2 x hx; omega
  · intro x y hx hy
    rcases hn x hx with e | e
    · exact h.apart x y e hy
    · have := h.row2.lt (by decide) y hy; omega
theorem Lists.put1 {w wr : World} {p q : Nat} {T : TypeId} {R O : List Nat} {r1 r2 : Option Nat} {g o : Nat} {A2 : Option Addr} {n1 n2 c1 c2 : Nat} (h : Lists w wr p q T R O r1 r2 (some ⟨g, o, none⟩) A2 n1 n2 c1 c2) {m d : Nat} (hm : m < n1) (hr : r1 = some g)
    (hd : ∀ x ∈ R.set m d, x < B) : Lists w (wr.setCell ⟨g, o + m, none⟩ (.int .u32 d)) p q T (R.set m d) O r1 r2 (some ⟨g, o, none⟩) A2 n1 n2 c1 c2 := by
  have hg := h.far1 g hr
  have hpq := h.pq
  have hs : ∀ v, Kept (fun k => k = g) wr (wr.setCell ⟨g, o + m, none⟩ v) := fun v => Kept.set1 wr g _ v
  refine ⟨h.new.setCell (.inl (by show _ ≤ g; omega)) _, h.bp.other (show p ≠ g by omega) _, h.bq.other (show q ≠ g by omega) _, ?_, ?_, by rw [List.length_set]; exact h.len1, h.len2, hd, h.lt2, h.pq, h.far1, h.far2, h.apart⟩
  · rw [List.map_set]
    exact h.row1.set rfl (by omega) _
  · exact h.row2.of_kept (by decide) (hs _) fun x hx e => h.apart g x hr hx e.symm
theorem Lists.store2 {w wr w8 : World} {p q : Nat} {T : TypeId} {R O O' : List Nat} {r1 r2 r8 : Option Nat} {A1 A2 A8 : Option Addr} {n1 n2 c1 c2 n8 c8 : Nat} (h : Lists w wr p q T R O r1 r2 A1 A2 n1 n2 c1 c2)
    (hr : Row w8 1 r8 A8 n8 c8 (O'.map cellU)) (hl : O'.length = n8) (hd : ∀ d ∈ O', d < B) (hk : Kept (fun k => r2 = some k) wr w8) (hn : ∀ k, r8 = some k → r2 = some k ∨ wr.heap.size ≤ k) :
    Lists w (w8.setCell ⟨q, 0, none⟩ (.slice A8 n8 c8)) p q T R O' r1 r8 A1 A8 n1 n8 c1 c8 := by
  have hq := h.bq.lt
  have hf8 : ∀ x, r8 = some x → q < x := fun x hx => (hn x hx).elim (h.far2 x) fun y => by omega
  have hpq := h.pq
  have b1 : Blk w8 p T #[.slice A1 n1 c1] := h.bp.kept hk fun e => by have := h.far2 p e; omega
  have b2 : Blk w8 q T #[.slice A2 n2 c2] := h.bq.kept hk fun e => by have := h.far2 q e; omega
  have hs : ∀ v, Kept (fun k => k = q) w8 (w8.setCell ⟨q, 0, none⟩ v) := fun v => Kept.set1 w8 q 0 v
  refine ⟨?_, b1.other (show p ≠ q by omega) _, b2.set _, ?_, ?_, h.len1, hl, h.lt1, hd, h.pq, h.far1, hf8, ?_⟩
  · exact (h.new.step hk fun j hj x => by have := h.far2 j x; omega).setCell (.inl (by show _ ≤ q; omega)) _
  · exact (h.row1.of_kept (by decide) hk fun x hx e => h.apart x x hx e rfl).of_kept (by decide) (hs _) fun x hx e => by have := h.far1 x hx; omega
  · exact hr.of_kept (by decide) (hs _) fun x hx e => by have := hf8 x hx; omega
  · intro x y hx hy
    rcases hn y hy with e | e
    · exact h.apart x y hx e
    · have := h.row1.lt (by decide) x hx; omega
theorem Lists.put2 {w wr : World} {p q : Nat} {T : TypeId} {R O : List Nat} {r1 r2 : Option Nat} {g o : Nat} {A1 : Option Addr} {n1 n2 c1 c2 : Nat} (h : Lists w wr p q T R O r1 r2 A1 (some ⟨g, o, none⟩) n1 n2 c1 c2) {m d : Nat} (hm : m < n2) (hr : r2 = some g)
    (hd : ∀ x ∈ O.set m d, x < B) : Lists w (wr.setCell ⟨g, o + m, none⟩ (.int .u32 d)) p q T R (O.set m d) r1 r2 A1 (some ⟨g, o, none⟩) n1 n2 c1 c2 := by
  have hg := h.far2 g hr
  have hpq := h.pq
  have hs : ∀ v, Kept (fun k => k = g) wr (wr.setCell ⟨g, o + m, none⟩ v) := fun v => Kept.set1 wr g _ v
  refine ⟨h.new.setCell (.inl (by show _ ≤ g; omega)) _, h.bp.other (show p ≠ g by omega) _, h.bq.other (show q ≠ g by omega) _, ?_, ?_, h.len1, by rw [List.length_set]; exact h.len2, h.lt1, hd, h.pq, h.far1, h.far2, h.apart⟩
  · exact h.row1.of_kept (by decide) (hs _) fun x hx e => h.apart x g hx hr e
  · rw [List.map_set]
    exact h.row2.set rfl (by omega) _
theorem Lists.drew {w wr : World} {p q : Nat} {T : TypeId} {R O : List Nat} {r1 r2 : Option Nat} {A1 A2 : Option Addr} {n1 n2 c1 c2 : Nat} (h : Lists w wr p q T R O r1 r2 A1 A2 n1 n2 c1 c2) (k : Nat) : Lists w (wr.drewN k) p q T R O r1 r2 A1 A2 n1 n2 c1 c2 :=
  ⟨h.new.drewN _, h.bp, h.bq, h.row1.drewN _, h.row2.drewN _, h.len1, h.len2, h.lt1, h.lt2, h.pq, h.far1, h.far2, h.apart⟩
theorem Lists.blk1 {w wr w8 : World} {p q : Nat} {T : TypeId} {R O : List Nat} {r1 r2 : Option Nat} {A1 A2 : Option Addr} {n1 n2 c1 c2 : Nat} (h : Lists w wr p q T R O r1 r2 A1 A2 n1 n2 c1 c2) (hk : Kept (fun k => r1 = some k) wr w8) :
    w8.cell? ⟨p, 0, none⟩ = some (.slice A1 n1 c1) ∧ w8.frozen? ⟨p, 0, none⟩ = false := by
  have hpq := h.pq
  have b1 : Blk w8 p T #[.slice A1 n1 c1] := h.bp.kept hk fun e => by have := h.far1 p e; omega
  exact ⟨b1.cell 0, b1.free 0⟩
theorem Lists.blk2 {w wr w8 : World} {p q : Nat} {T : TypeId} {R O : List Nat} {r1 r2 : Option Nat} {A1 A2 : Option Addr} {n1 n2 c1 c2 : Nat} (h : Lists w wr p q T R O r1 r2 A1 A2 n1 n2 c1 c2) (hk : Kept (fun k => r2 = some k) wr w8) :
    w8.cell? ⟨q, 0, none⟩ = some (.slice A2 n2 c2) ∧ w8.frozen? ⟨q, 0, none⟩ = false := by
  have hpq := h.pq
  have b1 : Blk w8 q T #[.slice A2 n2 c2] := h.bq.kept hk fun e => by have := h.far2 q e; omega
  exact ⟨b1.cell 0, b1.free 0⟩
/-- The index of the digit, its cell. -/
theorem row_digit {wr : World} {r : Option Nat} {A : Option Addr} {n c : Nat} {R : List Nat} (h : Row wr 1 r A n c (R.map cellU)) (hl : R.length = n) {m : Nat} (hm : m < R.length) : ∃ g o, r = some g ∧ A = some ⟨g, o, none⟩ ∧ wr.cell? ⟨g, o + m, none⟩ = some (.int .u32 (R[m] : Nat)) ∧ wr.frozen? ⟨g, o + m, none⟩ = false := by
  obtain ⟨g, o, h1, h2, h3, h4⟩ := h.at_pos (by have := h.le; omega)
  refine ⟨g, o, h1, h2, ?_, (h4 m (by have := h.le; omega)).2⟩
  rw [h3 m (by omega), List.getElem?_map, List.getElem?_eq_getElem hm]
  rfl
theorem wrap32 {x : Nat} (h : x < B) : IntKind.u32.wrap (x : Int) = (x : Int) := by unfold B at h; rw [IntKind.wrap_u32]; omega
theorem and_one {y : Nat} (h : y < B) : bits BinOp.and IntKind.u32 (y : Int) 1 = ((y % 2 : Nat) : Int) := by
  show IntKind.u32.wrap ((BitVec.ofInt 32 (y : Int) &&& BitVec.ofInt 32 ((1 : Nat) : Int)).toNat : Int) = _
  have h : y < 2 ^ 32 := h
  rw [BitVec.ofInt_natCast, BitVec.ofInt_natCast, BitVec.toNat_and, BitVec.toNat_ofNat, BitVec.toNat_ofNat, Nat.mod_eq_of_lt h, Nat.mod_eq_of_lt (by decide), Nat.and_one_is_mod, wrap32 (by unfold B; omega)]
theorem or_up {y b r : Nat} (hy : y < 2 ^ r) (hr : r ≤ 31) (hb : b ≤ 1) : bits BinOp.or IntKind.u32 (y : Int) ((b * 2 ^ r : Nat) : Int) = ((y + b * 2 ^ r : Nat) : Int) := by
  have h3 : 2 ^ (r + 1) ≤ 2 ^ 32 := Nat.pow_le_pow_right (by decide) (by omega)
  have h4 : b * 2 ^ r ≤ 1 * 2 ^ r := Nat.mul_le_mul_right _ hb
  rw [Nat.pow_succ] at h3
  have h5 : y < 2 ^ 32 := by omega
  have h6 : b * 2 ^ r < 2 ^ 32 := by omega
  show IntKind.u32.wrap ((BitVec.ofInt 32 (y : Int) ||| BitVec.ofInt 32 ((b * 2 ^ r : Nat) : Int)).toNat : Int) = _
  rw [BitVec.ofInt_natCast, BitVec.ofInt_natCast, BitVec.toNat_or, BitVec.toNat_ofNat, BitVec.toNat_ofNat, Nat.mod_eq_of_lt h5, Nat.mod_eq_of_lt h6, Nat.or_comm, or_add hy, wrap32 (by unfold B; omega), Nat.add_comm]
/-- trim, its answer by name. -/
theorem trim_same {w : World} {Bd : Nat} {A : Option Addr} {n c : Nat} {L : List Nat} (h : SliceOf repU w Bd A n c L) :
    Calls Try.prog 71 #[.slice A n c] w fun e w' => e = .returned (.slice A (dig (val L)).length c) ∧ w' = w := by
  have hln := h.len
  refine (trim_any h).mono ?_
  rintro e w' ⟨rfl, k, hk, rfl, hd⟩
  rw [hd, List.length_take, Nat.min_eq_left (by omega)]
  exact ⟨rfl, rfl⟩
theorem dig_head : ∀ (n : Nat) (L : List Nat), L.length = n → (∀ d ∈ L, d < B) → ∃ k, k ≤ L.length ∧ dig (val L) = L.take k := by
  intro n
  induction n with
  | zero =>
    intro L hl _
    have := List.eq_nil_of_length_eq_zero hl
    subst this
    exact ⟨0, Nat.le_refl _, dig_zero⟩
  | succ n ih =>
    intro L hl hd
    have hn : n < L.length := by omega
    have hL : L = L.take n ++ [L[n]] := by rw [← List.take_succ_eq_append_getElem hn, List.take_of_length_le (by omega)]
    by_cases h0 : L[n] = 0
    · obtain ⟨k, hk, e⟩ := ih (L.take n) (by rw [List.length_take]; omega) fun d h => hd d (List.mem_of_mem_take h)
      rw [List.length_take] at hk
      refine ⟨k, by omega, ?_⟩
      rw [h0] at hL
      have h1 : val L = val (L.take n) := by rw [hL, val_snoc_zero, List.take_left' (by rw [List.length_take]; omega)]
      rw [h1, e, List.take_take, Nat.min_eq_left (by omega)]
    · refine ⟨L.length, Nat.le_refl _, ?_⟩
      rw [List.take_length]
      refine dig_of hd fun d h => ?_
      rw [List.getLast?_eq_getElem?, show L.length - 1 = n by omega, List.getElem?_eq_getElem hn] at h
      injection h with h
      rw [← h]; exact h0
theorem dig_take {w : World} {Bd : Nat} {A : Option Addr} {n c : Nat} {L : List Nat} (h : SliceOf repU w Bd A n c L) {v : Nat} (hv : val L = v) : SliceOf repU w Bd A (dig v).length c (dig v) := by
  have hd : ∃ k, k ≤ n ∧ dig (val L) = L.take k := by
    obtain ⟨k, hk, e⟩ := dig_head L.length L rfl (digs_lt h)
    exact ⟨k, by rw [h.len]; exact hk, e⟩
  obtain ⟨k, hk, hd⟩ := hd
  rw [hv] at hd
  have := h.take hk (Nat.le_trans hk h.bound.1) h.bound.2
  rw [hd, List.length_take, Nat.min_eq_left (by have := h.len; omega)]
  exact this
set_option maxHeartbeats 2000000 in
theorem low_any {A : Option Addr} {n c v k : Nat} {w : World} (h : SliceOf repU w w.heap.size A n c (dig v)) (hk : k ≤ 100000) (hn : n ≤ 100000) :
    Calls Try.prog 74 #[.slice A n c, .int .i64 k] w (Num2 w (v % 2 ^ k) (v / 2 ^ k)) := by
  have hln := h.len
  have hbd := h.bound
  have HR := Lib.hid (fun W (hW : New w W) => (h.kept hW (Nat.le_refl _) fun _ _ h => h))
  have hdl := dig_lt v
  have hval := dig_val v
  generalize dig v = L at *
  have H := Lib.hid h
  have HLN := Lib.hid hln
  have HDL := Lib.hid hdl
  have HVAL := Lib.hid hval
  clear h hln hdl hval
  go_enter Try.func74, Try.ntmps74
  go_wp2_with fail
  go_loopw [8] (fun s8 wr => ∃ (i : Nat) (R O : List Nat) (r1 r2 : Option Nat) (A1 A2 : Option Addr) (n1 n2 c1 c2 : Nat), i ≤ 32 * n ∧ s8 = .int .i64 i ∧ Hid (Lists w wr (w.heap.size + 1) (w.heap.size + 1 + 1 + 1) 89 R O r1 r2 A1 A2 n1 n2 c1 c2) ∧ n1 = (min i k + 31) / 32 ∧ n2 = (i - k + 31) / 32 ∧ Hid (val R = restAt v k i ∧ val O = outAt v k i)) (fun s _ => (32 * n - intOf s).toNat)
  case atStart =>
    refine ⟨0, [], [], none, none, some ⟨w.heap.size, 0, none⟩, some ⟨w.heap.size + 1 + 1, 0, none⟩, 0, 0, 0, 0, Nat.zero_le _, rfl, Lib.hid ⟨?_, ?_, ?_, ⟨rfl, .inl ⟨rfl, rfl, rfl⟩⟩, ⟨rfl, .inl ⟨rfl, rfl, rfl⟩⟩, rfl, rfl, fun d hd => (by cases hd), fun d hd => (by cases hd), ⟨by omega, by omega⟩, fun k hk => (by cases hk), fun k hk => (by cases hk), fun k _ hk => (by cases hk)⟩, by omega, by omega, Lib.hid ⟨?_, ?_⟩⟩
    · exact ((((Kept.refl _ _).alloc _).alloc _).alloc _).alloc _
    · exact ((Blk.made_at (w.alloc _) _ _ _ (by show w.heap.size + 1 = (w.heap.push _).size; simp)).alloc _).alloc _
    · exact Blk.made_at (((w.alloc _).alloc _).alloc _) _ _ _ (by show w.heap.size + 1 + 1 + 1 = (((w.heap.push _).push _).push _).size; simp)
    · unfold restAt; simp [val, Nat.mod_one]
    · unfold outAt; simp [val, Nat.mod_one]
  case round =>
    obtain ⟨i, R, O, r1, r2, A1, A2, n1, n2, c1, c2, hi, rfl, hls, hn1, hn2, hv⟩ := hrel
    have HLS := hls
    have HV := hv
    clear hls hv
    have hnr := HLS.out.new
    by_cases hlt : i < 32 * n
    · obtain ⟨m, hm⟩ : ∃ m, i / 32 = m := ⟨_, rfl⟩
      obtain ⟨r, hr⟩ : ∃ r, i % 32 = r := ⟨_, rfl⟩
      have q1 : Int.tdiv (i : Int) 32 = (m : Int) := by rw [Int.tdiv_eq_ediv_of_nonneg (by omega)]; omega
      have q2 : Int.tmod (i : Int) 32 = (r : Int) := by rw [Int.tmod_eq_emod_of_nonneg (by omega)]; omega
      obtain ⟨b1, o1, rfl, -, hc⟩ := dig_at (HR.out wr hnr) (by omega)
      have hmL : m < L.length := by have := HLN.out; omega
      have c0 := hc m hmL
      have hxB := HDL.out _ (List.getElem_mem hmL)
      have hbit := bit_of hm hr hmL HDL.out
      rw [HVAL.out] at hbit
      generalize L[m] = x at *
      clear hc
      have hx9 : x ≤ 4294967295 := by unfold B at hxB; omega
      have hmn : m < n := by omega
      have hr31 : r ≤ 31 := by omega
      obtain ⟨b, hb⟩ : ∃ b, x / 2 ^ r % 2 = b := ⟨_, rfl⟩
      have hb1 : b ≤ 1 := by omega
      obtain ⟨y0, hy0⟩ : ∃ y0, x / 2 ^ r = y0 := ⟨_, rfl⟩
      have hy0B : y0 < B := by rw [← hy0]; exact Nat.lt_of_le_of_lt (Nat.div_le_self _ _) hxB
      have hand : bits BinOp.and IntKind.u32 (y0 : Int) 1 = (b : Int) := by rw [and_one hy0B, ← hb, hy0]
      have hsh : (x : Int) / 2 ^ r = (y0 : Int) := by rw [← hy0, Int.natCast_ediv, Int.natCast_pow]; rfl
      rw [hb] at hbit
      have hsr : ((r : Int)).toNat = r := Int.toNat_natCast r
      by_cases hik : i < k
      · have hik2 : (i : Int) < (k : Int) := by omega
        have hik3 : ¬ (k : Int) ≤ (i : Int) := by omega
        by_cases hr0 : r = 0
        · have hz : ((r : Int) == 0) = true := by simp; omega
          have hmN : n1 = m := by omega
          have hnN : n1 ≤ 100000 := by omega
          have hand2 : bits BinOp.and IntKind.u32 (x : Int) 1 = (b : Int) := by rw [and_one hxB, ← hb, hr0, Nat.pow_zero, Nat.div_one]
          have hcp : World.cell? _ _ = some _ := HLS.out.bp.cell 0
          have hbound := HLS.out.row1.bound
          have HBIT := Lib.hid hbit
          have HXB := Lib.hid hxB
          have HB := Lib.hid hb
          have HY0 := Lib.hid hy0
          have HY0B := Lib.hid hy0B
          have HN1 := Lib.hid hn1
          have HN2 := Lib.hid hn2
          have HMN := Lib.hid hmN
          clear hbit hxB hb hy0 hy0B hn1 hn2 hmN
          go_wp2_with (at_builtin; refine wpList_append_one (cs := [.int .u32 (0 : Nat)]) tyU rfl _ _ rfl rfl HLS.out.row1 rfl rfl rfl (by simp [Value.oneCell']) (by unfold maxLen; omega) (by omega) ?_; intro r8 A8 c8 w8 hr8 hk8 hn8; obtain ⟨hc8, hf8⟩ := HLS.out.blk1 hk8)
          have hmN := HMN.out
          have hL3 := HLS.out.store1 (R' := (R ++ [0])) (by rw [List.map_append]; exact hr8) (by rw [List.length_append, HLS.out.len1]; rfl) (fun d hd => (List.mem_append.1 hd).elim (HLS.out.lt1 d) fun e => by rw [List.mem_singleton.1 e]; exact B_pos) hk8 hn8
          obtain ⟨hmX, hyl, hvs, hds⟩ := set_bit hm hr (X := (R ++ [0])) (by rw [hL3.len1, hmN]) hL3.lt1 (by rw [val_snoc_zero, HV.out.1]; exact Nat.lt_of_lt_of_le rest_lt (Nat.pow_le_pow_right (by decide) (Nat.min_le_left _ _))) hb1
          obtain ⟨g, o, hrg, rfl, hcd, hfd⟩ := row_digit hL3.row1 hL3.len1 hmX
          have hc3 : World.cell? _ _ = some _ := hL3.bp.cell 0
          have hor := or_up hyl hr31 hb1
          generalize hy : (R ++ [0])[m] = y at *
          obtain ⟨t, ht⟩ : ∃ t, b * 2 ^ r = t := ⟨_, rfl⟩
          have hbt : (b : Int) * 2 ^ r = (t : Int) := by rw [← ht, Int.natCast_mul, Int.natCast_pow]; rfl
          have htB : t < B := by rw [← ht]; exact Nat.lt_of_le_of_lt (Nat.le_trans (Nat.mul_le_mul_right _ hb1) (Nat.le_of_eq (Nat.one_mul _))) (Nat.pow_lt_pow_right (by decide) (show r < 32 by omega))
          have htw : IntKind.u32.wrap (t : Int) = (t : Int) := wrap32 htB
          have htt : (b : Int) % 4294967296 = (t : Int) := by rw [← ht, hr0]; simp; omega
          rw [ht] at hor hvs hds
          have hor2 : bits BinOp.or IntKind.u32 (y : Int) (b : Int) = (y : Int) + (t : Int) := by
            have e : t = b := by rw [← ht, hr0, Nat.pow_zero, Nat.mul_one]
            rw [e] at hor; rw [hor, e, Int.natCast_add]
          have hput := hL3.put1 (d := y + t) (m := m) (by rw [hmN]; omega) hrg hds
          rw [Int.natCast_add] at hput
          have hres : val ((R ++ [0]).set m (y + t)) = restAt v k (i + 1) := by rw [hvs, val_snoc_zero, HV.out.1, rest_next hik, HBIT.out]
          have hoth : val O = outAt v k (i + 1) := by rw [HV.out.2, out_same hik]
          have hmn9 : m < n1 + 1 := by omega
          have hn11 : n1 + 1 = (min (i + 1) k + 31) / 32 := by have := HN1.out; omega
          have hn12 : n2 = (i + 1 - k + 31) / 32 := by have := HN2.out; omega
          generalize w8.setCell _ _ = W3 at *
          have HL3 := Lib.hid hL3
          have HPUT := Lib.hid hput
          have HRES := Lib.hid hres
          have HOTH := Lib.hid hoth
          have HYL := Lib.hid hyl
          have HVS := Lib.hid hvs
          have HDS := Lib.hid hds
          have HY := Lib.hid hy
          have HRG := Lib.hid hrg
          have HT := Lib.hid ht
          have HTB := Lib.hid htB
          have HN11 := Lib.hid hn11
          have HN12 := Lib.hid hn12
          clear hL3 hput hres hoth hyl hvs hds hy hrg ht htB hn11 hn12
          clear hr8 hk8 hn8 hc8 hf8 hcp
          go_region
          go_wp2_with fail
          go_roundw
          case rel => exact ⟨i + 1, _, _, _, _, _, _, _, _, _, _, by omega, by go_num, Lib.hid (HPUT.out.drew 1), HN11.out, HN12.out, Lib.hid ⟨HRES.out, HOTH.out⟩⟩
          case measure => simp [intOf]; omega
        · have hz : ((r : Int) == 0) = false := by simp; omega
          have hmN : n1 = m + 1 := by omega
          have hnN : n1 ≤ 100000 := by omega
          have hcp : World.cell? _ _ = some _ := HLS.out.bp.cell 0
          have hbound := HLS.out.row1.bound
          have HBIT := Lib.hid hbit
          have HXB := Lib.hid hxB
          have HB := Lib.hid hb
          have HY0 := Lib.hid hy0
          have HY0B := Lib.hid hy0B
          have HN1 := Lib.hid hn1
          have HN2 := Lib.hid hn2
          clear hbit hxB hb hy0 hy0B hn1 hn2
          have hL3 := HLS.out
          obtain ⟨hmX, hyl, hvs, hds⟩ := set_bit hm hr (X := R) (by rw [hL3.len1, hmN]) hL3.lt1 (by rw [HV.out.1]; exact Nat.lt_of_lt_of_le rest_lt (Nat.pow_le_pow_right (by decide) (Nat.min_le_left _ _))) hb1
          obtain ⟨g, o, hrg, rfl, hcd, hfd⟩ := row_digit hL3.row1 hL3.len1 hmX
          have hc3 : World.cell? _ _ = some _ := hL3.bp.cell 0
          have hor := or_up hyl hr31 hb1
          generalize hy : R[m] = y at *
          obtain ⟨t, ht⟩ : ∃ t, b * 2 ^ r = t := ⟨_, rfl⟩
          have hbt : (b : Int) * 2 ^ r = (t : Int) := by rw [← ht, Int.natCast_mul, Int.natCast_pow]; rfl
          have htB : t < B := by rw [← ht]; exact Nat.lt_of_le_of_lt (Nat.le_trans (Nat.mul_le_mul_right _ hb1) (Nat.le_of_eq (Nat.one_mul _))) (Nat.pow_lt_pow_right (by decide) (show r < 32 by omega))
          have htw : IntKind.u32.wrap (t : Int) = (t : Int) := wrap32 htB
          rw [ht] at hor hvs hds
          have hput := hL3.put1 (d := y + t) (m := m) (by rw [hmN]; omega) hrg hds
          rw [Int.natCast_add] at hput
          have hres : val (R.set m (y + t)) = restAt v k (i + 1) := by rw [hvs, HV.out.1, rest_next hik, HBIT.out]
          have hoth : val O = outAt v k (i + 1) := by rw [HV.out.2, out_same hik]
          have hmn9 : m < n1 := by omega
          have hn11 : n1 = (min (i + 1) k + 31) / 32 := by have := HN1.out; omega
          have hn12 : n2 = (i + 1 - k + 31) / 32 := by have := HN2.out; omega
          have HL3 := Lib.hid hL3
          have HPUT := Lib.hid hput
          have HRES := Lib.hid hres
          have HOTH := Lib.hid hoth
          have HYL := Lib.hid hyl
          have HVS := Lib.hid hvs
          have HDS := Lib.hid hds
          have HY := Lib.hid hy
          have HRG := Lib.hid hrg
          have HT := Lib.hid ht
          have HTB := Lib.hid htB
          have HN11 := Lib.hid hn11
          have HN12 := Lib.hid hn12
          clear hL3 hput hres hoth hyl hvs hds hy hrg ht htB hn11 hn12
          clear hcp
          go_wp2_with fail
          go_region
          go_wp2_with fail
          go_roundw
          case rel => exact ⟨i + 1, _, _, _, _, _, _, _, _, _, _, by omega, by go_num, Lib.hid (HPUT.out.drew 1), HN11.out, HN12.out, Lib.hid ⟨HRES.out, HOTH.out⟩⟩
          case measure => simp [intOf]; omega
      · have hik3 : (k : Int) ≤ (i : Int) := by omega
        by_cases hr0 : (i - k) % 32 = 0
        · obtain ⟨j, hj⟩ : ∃ j, i - k = j := ⟨_, rfl⟩
          have hji : (i : Int) - (k : Int) = (j : Int) := by omega
          obtain ⟨m2, hm2⟩ : ∃ m2, j / 32 = m2 := ⟨_, rfl⟩
          obtain ⟨s, hs⟩ : ∃ s, j % 32 = s := ⟨_, rfl⟩
          have p1 : Int.tdiv (j : Int) 32 = (m2 : Int) := by rw [Int.tdiv_eq_ediv_of_nonneg (by omega)]; omega
          have p2 : Int.tmod (j : Int) 32 = (s : Int) := by rw [Int.tmod_eq_emod_of_nonneg (by omega)]; omega
          have hs31 : s ≤ 31 := by omega
          have hz : ((s : Int) == 0) = true := by simp; omega
          have hmN : n2 = m2 := by omega
          have hnN : n2 ≤ 100000 := by omega
          have hcp : World.cell? _ _ = some _ := HLS.out.bq.cell 0
          have hbound := HLS.out.row2.bound
          have HBIT := Lib.hid hbit
          have HXB := Lib.hid hxB
          have HB := Lib.hid hb
          have HY0 := Lib.hid hy0
          have HY0B := Lib.hid hy0B
          have HN1 := Lib.hid hn1
          have HN2 := Lib.hid hn2
          have HMN := Lib.hid hmN
          clear hbit hxB hb hy0 hy0B hn1 hn2 hmN
          go_wp2_with (at_builtin; refine wpList_append_one (cs := [.int .u32 (0 : Nat)]) tyU rfl _ _ rfl rfl HLS.out.row2 rfl rfl rfl (by simp [Value.oneCell']) (by unfold maxLen; omega) (by omega) ?_; intro r8 A8 c8 w8 hr8 hk8 hn8; obtain ⟨hc8, hf8⟩ := HLS.out.blk2 hk8)
          have hmN := HMN.out
          have hL3 := HLS.out.store2 (O' := (O ++ [0])) (by rw [List.map_append]; exact hr8) (by rw [List.length_append, HLS.out.len2]; rfl) (fun d hd => (List.mem_append.1 hd).elim (HLS.out.lt2 d) fun e => by rw [List.mem_singleton.1 e]; exact B_pos) hk8 hn8
          obtain ⟨hmX, hyl, hvs, hds⟩ := set_bit hm2 hs (X := (O ++ [0])) (by rw [hL3.len2, hmN]) hL3.lt2 (by rw [val_snoc_zero, HV.out.2]; rw [← hj]; exact out_lt) hb1
          obtain ⟨g, o, hrg, rfl, hcd, hfd⟩ := row_digit hL3.row2 hL3.len2 hmX
          have hc3 : World.cell? _ _ = some _ := hL3.bq.cell 0
          have hor := or_up hyl hs31 hb1
          generalize hy : (O ++ [0])[m2] = y at *
          obtain ⟨t, ht⟩ : ∃ t, b * 2 ^ s = t := ⟨_, rfl⟩
          have hbt : (b : Int) * 2 ^ s = (t : Int) := by rw [← ht, Int.natCast_mul, Int.natCast_pow]; rfl
          have htB : t < B := by rw [← ht]; exact Nat.lt_of_le_of_lt (Nat.le_trans (Nat.mul_le_mul_right _ hb1) (Nat.le_of_eq (Nat.one_mul _))) (Nat.pow_lt_pow_right (by decide) (show s < 32 by omega))
          have htw : IntKind.u32.wrap (t : Int) = (t : Int) := wrap32 htB
          rw [ht] at hor hvs hds
          have hput := hL3.put2 (d := y + t) (m := m2) (by rw [hmN]; omega) hrg hds
          rw [Int.natCast_add] at hput
          have hres : val ((O ++ [0]).set m2 (y + t)) = outAt v k (i + 1) := by rw [hvs, val_snoc_zero, HV.out.2, out_next (by omega), HBIT.out, hj]
          have hoth : val R = restAt v k (i + 1) := by rw [HV.out.1, rest_same (by omega)]
          have hmn9 : m2 < n2 + 1 := by omega
          have hn11 : n1 = (min (i + 1) k + 31) / 32 := by have := HN1.out; omega
          have hn12 : n2 + 1 = (i + 1 - k + 31) / 32 := by have := HN2.out; omega
          generalize w8.setCell _ _ = W3 at *
          have HL3 := Lib.hid hL3
          have HPUT := Lib.hid hput
          have HRES := Lib.hid hres
          have HOTH := Lib.hid hoth
          have HYL := Lib.hid hyl
          have HVS := Lib.hid hvs
          have HDS := Lib.hid hds
          have HY := Lib.hid hy
          have HRG := Lib.hid hrg
          have HT := Lib.hid ht
          have HTB := Lib.hid htB
          have HN11 := Lib.hid hn11
          have HN12 := Lib.hid hn12
          clear hL3 hput hres hoth hyl hvs hds hy hrg ht htB hn11 hn12
          clear hr8 hk8 hn8 hc8 hf8 hcp
          go_region
          go_wp2_with fail
          go_roundw
          case rel => exact ⟨i + 1, _, _, _, _, _, _, _, _, _, _, by omega, by go_num, Lib.hid (HPUT.out.drew 1), HN11.out, HN12.out, Lib.hid ⟨HOTH.out, HRES.out⟩⟩
          case measure => simp [intOf]; omega
        · obtain ⟨j, hj⟩ : ∃ j, i - k = j := ⟨_, rfl⟩
          have hji : (i : Int) - (k : Int) = (j : Int) := by omega
          obtain ⟨m2, hm2⟩ : ∃ m2, j / 32 = m2 := ⟨_, rfl⟩
          obtain ⟨s, hs⟩ : ∃ s, j % 32 = s := ⟨_, rfl⟩
          have p1 : Int.tdiv (j : Int) 32 = (m2 : Int) := by rw [Int.tdiv_eq_ediv_of_nonneg (by omega)]; omega
          have p2 : Int.tmod (j : Int) 32 = (s : Int) := by rw [Int.tmod_eq_emod_of_nonneg (by omega)]; omega
          have hs31 : s ≤ 31 := by omega
          have hz : ((s : Int) == 0) = false := by simp; omega
          have hmN : n2 = m2 + 1 := by omega
          have hnN : n2 ≤ 100000 := by omega
          have hcp : World.cell? _ _ = some _ := HLS.out.bq.cell 0
          have hbound := HLS.out.row2.bound
          have HBIT := Lib.hid hbit
          have HXB := Lib.hid hxB
          have HB := Lib.hid hb
          have HY0 := Lib.hid hy0
          have HY0B := Lib.hid hy0B
          have HN1 := Lib.hid hn1
          have HN2 := Lib.hid hn2
          clear hbit hxB hb hy0 hy0B hn1 hn2
          have hL3 := HLS.out
          obtain ⟨hmX, hyl, hvs, hds⟩ := set_bit hm2 hs (X := O) (by rw [hL3.len2, hmN]) hL3.lt2 (by rw [HV.out.2]; rw [← hj]; exact out_lt) hb1
          obtain ⟨g, o, hrg, rfl, hcd, hfd⟩ := row_digit hL3.row2 hL3.len2 hmX
          have hc3 : World.cell? _ _ = some _ := hL3.bq.cell 0
          have hor := or_up hyl hs31 hb1
          generalize hy : O[m2] = y at *
          obtain ⟨t, ht⟩ : ∃ t, b * 2 ^ s = t := ⟨_, rfl⟩
          have hbt : (b : Int) * 2 ^ s = (t : Int) := by rw [← ht, Int.natCast_mul, Int.natCast_pow]; rfl
          have htB : t < B := by rw [← ht]; exact Nat.lt_of_le_of_lt (Nat.le_trans (Nat.mul_le_mul_right _ hb1) (Nat.le_of_eq (Nat.one_mul _))) (Nat.pow_lt_pow_right (by decide) (show s < 32 by omega))
          have htw : IntKind.u32.wrap (t : Int) = (t : Int) := wrap32 htB
          rw [ht] at hor hvs hds
          have hput := hL3.put2 (d := y + t) (m := m2) (by rw [hmN]; omega) hrg hds
          rw [Int.natCast_add] at hput
          have hres : val (O.set m2 (y + t)) = outAt v k (i + 1) := by rw [hvs, HV.out.2, out_next (by omega), HBIT.out, hj]
          have hoth : val R = restAt v k (i + 1) := by rw [HV.out.1, rest_same (by omega)]
          have hmn9 : m2 < n2 := by omega
          have hn11 : n1 = (min (i + 1) k + 31) / 32 := by have := HN1.out; omega
          have hn12 : n2 = (i + 1 - k + 31) / 32 := by have := HN2.out; omega
          have HL3 := Lib.hid hL3
          have HPUT := Lib.hid hput
          have HRES := Lib.hid hres
          have HOTH := Lib.hid hoth
          have HYL := Lib.hid hyl
          have HVS := Lib.hid hvs
          have HDS := Lib.hid hds
          have HY := Lib.hid hy
          have HRG := Lib.hid hrg
          have HT := Lib.hid ht
          have HTB := Lib.hid htB
          have HN11 := Lib.hid hn11
          have HN12 := Lib.hid hn12
          clear hL3 hput hres hoth hyl hvs hds hy hrg ht htB hn11 hn12
          clear hcp
          go_wp2_with fail
          go_region
          go_wp2_with fail
          go_roundw
          case rel => exact ⟨i + 1, _, _, _, _, _, _, _, _, _, _, by omega, by go_num, Lib.hid (HPUT.out.drew 1), HN11.out, HN12.out, Lib.hid ⟨HOTH.out, HRES.out⟩⟩
          case measure => simp [intOf]; omega
    · obtain rfl : i = 32 * n := by omega
      have hvn : v < 2 ^ (32 * n) := by
        have h1 := dig_bound v
        rw [← HVAL.out]
        have h2 := val_lt HDL.out
        rw [← HLN.out, B_pow] at h2
        exact h2
      have hcp : World.cell? _ _ = some _ := HLS.out.bp.cell 0
      have hcq : World.cell? _ _ = some _ := HLS.out.bq.cell 0
      have hv1 := HV.out.1
      have hv2 := HV.out.2
      rw [rest_end hvn] at hv1
      rw [out_end hvn] at hv2
      have T1 := Lib.hid fun q => trim_same (row_read (HLS.out.row1.drewN q) HLS.out.len1 HLS.out.lt1)
      have T2 := Lib.hid fun q => trim_same (row_read (HLS.out.row2.drewN q) HLS.out.len2 HLS.out.lt2)
      have HN1 := Lib.hid hn1
      have HN2 := Lib.hid hn2
      have HVN := Lib.hid hvn
      have HV1 := Lib.hid hv1
      have HV2 := Lib.hid hv2
      clear hn1 hn2 hvn hv1 hv2
      go_wp2_with fail
      go_quiet (first | (go_at_call 71; first | with_reducible exact Calls.quiet_of_same (T1.out _) | with_reducible exact Calls.quiet_of_same (T2.out _)))
      go_wp2_with fail
      go_ret2
      refine ⟨HLS.out.new.drewN nq, A1, (dig (v % 2 ^ k)).length, c1, A2, (dig (v / 2 ^ k)).length, c2, ?_, dig_take (row_read (HLS.out.row1.drewN nq) HLS.out.len1 HLS.out.lt1) HV1.out, dig_take (row_read (HLS.out.row2.drewN nq) HLS.out.len2 HLS.out.lt2) HV2.out⟩
      rw [← HV1.out, ← HV2.out]
      rfl
end Go.Proofs.Ytilioiebecpknaa.Nat5
