/- Instructions, programs and their bytes, plainly: what chapter 6 computes, and its laws. No program in sight. -/
import Derived.Test.YtilioiebecpknaaBytesP
namespace Go.CodeP
open Go.RowKit Go.BytesP

structure Ins where
  op : Int
  a : Int
  b : Int
  c : Int
  imm : Int

def hasA (op : Int) : Bool := (1 ≤ op && op ≤ 21) || (23 ≤ op && op ≤ 28) || (31 ≤ op && op ≤ 33)
def hasB (op : Int) : Bool := (2 ≤ op && op ≤ 21) || (24 ≤ op && op ≤ 26)
def hasC (op : Int) : Bool := (3 ≤ op && op ≤ 19) || op == 24
def hasI (op : Int) : Bool := op == 1 || op == 22 || op == 23 || op == 29 || op == 30
def reg (has : Bool) (n : Int) : Int := if has = false then (if n = 0 then 0 else 11) else if n < 0 ∨ 8 ≤ n then 10 else 0
def number (x : Ins) (n locks : Int) : Int :=
  if hasI x.op = false ∧ x.imm ≠ 0 then 11
  else if (x.op = 22 ∨ x.op = 23) ∧ (x.imm < 0 ∨ n < x.imm) then 12
  else if (x.op = 29 ∨ x.op = 30) ∧ (x.imm < 0 ∨ locks ≤ x.imm) then 13 else 0
/-- What is wrong with an instruction, and at which of its bytes. -/
def wrong (x : Ins) (n locks : Int) : Int × Int :=
  if x.op < 0 ∨ 34 ≤ x.op then (9, 0)
  else if reg (hasA x.op) x.a ≠ 0 then (reg (hasA x.op) x.a, 1)
  else if reg (hasB x.op) x.b ≠ 0 then (reg (hasB x.op) x.b, 2)
  else if reg (hasC x.op) x.c ≠ 0 then (reg (hasC x.op) x.c, 3)
  else (number x n locks, 4)
def check (x : Ins) (n locks : Int) : Int := (wrong x n locks).1
def mayFrom (n locks : Int) (i : Nat) : List Ins → Int × Int
  | [] => (0, 0)
  | x :: l => if check x n locks = 0 then mayFrom n locks (i + 1) l else (check x n locks, i)
def may (l : List Ins) (locks : Int) : Int × Int := if locks < 0 ∨ 8 < locks then (1, 0) else if 256 < l.length then (3, 256) else mayFrom l.length locks 0 l
def enc (x : Ins) : List UInt8 := le x.op 1 ++ (le x.a 1 ++ (le x.b 1 ++ (le x.c 1 ++ le x.imm 8)))
def encode (l : List Ins) : List UInt8 := l.flatMap enc
/-- The instruction of twelve bytes. -/
def get (w : List UInt8) : Ins := ⟨(w.getD 0 0).toNat, (w.getD 1 0).toNat, (w.getD 2 0).toNat, (w.getD 3 0).toNat, wrap64 (val (w.drop 4))⟩
def decFrom (b : List UInt8) (n : Int) (i : Nat) : Nat → Except (Int × Int) (List Ins)
  | 0 => .ok []
  | f + 1 =>
    let x := get ((b.drop (12 * i)).take 12)
    if (wrong x n 8).1 = 0 then match decFrom b n (i + 1) f with
      | .error e => .error e
      | .ok l => .ok (x :: l)
    else .error ((wrong x n 8).1, 12 * i + (wrong x n 8).2)
def dec (b : List UInt8) : Except (Int × Int) (List Ins) :=
  if 3072 < b.length then .error (3, 3072)
  else if b.length % 12 ≠ 0 then .error (5, b.length)
  else decFrom b (b.length / 12 : Nat) 0 (b.length / 12)

/-! ### Laws -/
theorem length_enc (x : Ins) : (enc x).length = 12 := by simp [enc, length_le]
theorem length_encode (l : List Ins) : (encode l).length = 12 * l.length := by
  induction l with
  | nil => rfl
  | cons x l ih => unfold encode at *; rw [List.flatMap_cons, List.length_append, length_enc, ih, List.length_cons]; omega
theorem reg_zero {has : Bool} {n : Int} (h : reg has n = 0) : 0 ≤ n ∧ n ≤ 7 := by
  unfold reg at h
  split at h
  · split at h <;> omega
  · split at h <;> omega
theorem wrong_zero {x : Ins} {n locks : Int} (h : check x n locks = 0) : 0 ≤ x.op ∧ x.op ≤ 33 ∧ 0 ≤ x.a ∧ x.a ≤ 7 ∧ 0 ≤ x.b ∧ x.b ≤ 7 ∧ 0 ≤ x.c ∧ x.c ≤ 7 ∧ number x n locks = 0 ∧ reg (hasA x.op) x.a = 0 ∧ reg (hasB x.op) x.b = 0 ∧ reg (hasC x.op) x.c = 0 := by
  unfold check wrong at h
  split at h
  · simp at h
  · split at h
    · rename_i h1; exact absurd h h1
    · split at h
      · rename_i h1; exact absurd h h1
      · split at h
        · rename_i h1; exact absurd h h1
        · rename_i h0 h1 h2 h3
          have a1 := reg_zero (Classical.not_not.1 h1)
          have a2 := reg_zero (Classical.not_not.1 h2)
          have a3 := reg_zero (Classical.not_not.1 h3)
          exact ⟨by omega, by omega, a1.1, a1.2, a2.1, a2.2, a3.1, a3.2, h, Classical.not_not.1 h1, Classical.not_not.1 h2, Classical.not_not.1 h3⟩
theorem wrong_of {x : Ins} {n locks : Int} (h0 : 0 ≤ x.op) (h1 : x.op ≤ 33) (ha : reg (hasA x.op) x.a = 0) (hb : reg (hasB x.op) x.b = 0) (hc : reg (hasC x.op) x.c = 0) : wrong x n locks = (number x n locks, 4) := by
  unfold wrong
  rw [if_neg (by omega), if_neg (by simpa using ha), if_neg (by simpa using hb), if_neg (by simpa using hc)]
/-- What may stand in a program may in a longer one. -/
theorem check_longer {x : Ins} {n locks : Int} (h : check x n locks = 0) : check x (n + 1) locks = 0 := by
  obtain ⟨o1, o2, _, _, _, _, _, _, hn, ha, hb, hc⟩ := wrong_zero h
  unfold check
  rw [wrong_of o1 o2 ha hb hc]
  simp only
  unfold number at *
  split at hn
  · omega
  · rename_i g1
    rw [if_neg g1]
    split at hn
    · omega
    · rw [if_neg (by omega)]; exact hn
/-- .. and with more locks. -/
theorem check_more {x : Ins} {n locks : Int} (h : check x n locks = 0) : check x n (locks + 1) = 0 := by
  obtain ⟨o1, o2, _, _, _, _, _, _, hn, ha, hb, hc⟩ := wrong_zero h
  unfold check
  rw [wrong_of o1 o2 ha hb hc]
  simp only
  unfold number at *
  split at hn
  · omega
  · rename_i g1
    rw [if_neg g1]
    split at hn
    · omega
    · rename_i g2
      rw [if_neg g2]
      split at hn
      · omega
      · rw [if_neg (by omega)]
theorem getD_byte {n : Int} (h0 : 0 ≤ n) (h1 : n < 256) : ((UInt8.ofNat n.toNat).toNat : Int) = n := by rw [UInt8.toNat_ofNat']; omega
theorem get_enc {x : Ins} {n locks : Int} (h : check x n locks = 0) (v1 : -9223372036854775808 ≤ x.imm) (v2 : x.imm ≤ 9223372036854775807) : get (enc x) = x := by
  obtain ⟨o1, o2, a1, a2, b1, b2, c1, c2, _⟩ := wrong_zero h
  unfold enc
  rw [le_one o1 (by omega), le_one a1 (by omega), le_one b1 (by omega), le_one c1 (by omega)]
  unfold get
  simp only [List.cons_append, List.nil_append, List.getD_cons_zero, List.getD_cons_succ, List.drop_succ_cons, List.drop_zero]
  rw [wrap_val_le _ v1 v2, getD_byte o1 (by omega), getD_byte a1 (by omega), getD_byte b1 (by omega), getD_byte c1 (by omega)]
theorem le_wrap {v : Nat} (h : v < 18446744073709551616) : le (wrap64 (v : Int)) 8 = le (v : Int) 8 := by
  by_cases hc : (v : Int) ≤ 9223372036854775807
  · rw [show wrap64 (v : Int) = v by unfold wrap64; omega]
  · have e := le_add 8 (v : Int) (-1)
    rw [← e]
    congr 1
    unfold wrap64; omega
theorem enc_get {w : List UInt8} (h : w.length = 12) : enc (get w) = w ∧ -9223372036854775808 ≤ (get w).imm ∧ (get w).imm ≤ 9223372036854775807 := by
  match w, h with
  | c0 :: c1 :: c2 :: c3 :: t, h =>
    have ht : t.length = 8 := by simpa using h
    have hv := val_lt t
    rw [ht] at hv
    refine ⟨?_, by simp only [get]; unfold wrap64; omega, by simp only [get]; unfold wrap64; omega⟩
    have b0 := c0.toNat_lt
    have b1 := c1.toNat_lt
    have b2 := c2.toNat_lt
    have b3 := c3.toNat_lt
    have hle := le_val t
    rw [ht] at hle
    simp only [get, enc, List.getD_cons_zero, List.getD_cons_succ, List.drop_succ_cons, List.drop_zero]
    rw [le_wrap (by omega), hle, le_one (by omega) (by omega), le_one (by omega) (by omega), le_one (by omega) (by omega), le_one (by omega) (by omega)]
    simp
theorem mayFrom_ok {n locks : Int} : ∀ (l : List Ins) (i : Nat), mayFrom n locks i l = (0, 0) → ∀ x ∈ l, check x n locks = 0
  | [], _, _ => by simp
  | s :: l, i, h => by
    simp only [mayFrom] at h
    split at h
    · rename_i h0
      intro x hx
      rcases List.mem_cons.1 hx with rfl | hx
      · exact h0
      · exact mayFrom_ok l (i + 1) h x hx
    · rename_i h0; simp only [Prod.mk.injEq] at h; exact absurd h.1 h0
theorem mayFrom_of {n locks : Int} : ∀ (l : List Ins) (i : Nat), (∀ x ∈ l, check x n locks = 0) → mayFrom n locks i l = (0, 0)
  | [], _, _ => rfl
  | s :: l, i, h => by
    simp only [mayFrom]
    rw [if_pos (h s (by simp))]
    exact mayFrom_of l (i + 1) fun x hx => h x (by simp [hx])
theorem mayFrom_err {n locks : Int} : ∀ (l : List Ins) (i : Nat), 0 ≤ (mayFrom n locks i l).2 ∧ (mayFrom n locks i l).2 ≤ i + l.length
  | [], i => by simp [mayFrom]
  | s :: l, i => by
    simp only [mayFrom]
    split
    · have := mayFrom_err (n := n) (locks := locks) l (i + 1); rw [List.length_cons]; omega
    · rw [List.length_cons]; simp only; omega
def InV (l : List Ins) : Prop := ∀ x ∈ l, -9223372036854775808 ≤ x.imm ∧ x.imm ≤ 9223372036854775807
theorem decFrom_at {n : Int} : ∀ (l : List Ins) (b pre : List UInt8) (i : Nat), b = pre ++ encode l → pre.length = 12 * i → (∀ x ∈ l, check x n 8 = 0) → InV l → decFrom b n i l.length = .ok l
  | [], b, pre, i, _, _, _, _ => rfl
  | x :: l, b, pre, i, hb, hp, hc, hv => by
    have e : (b.drop (12 * i)).take 12 = enc x := by
      rw [hb, ← hp, List.drop_left]
      unfold encode
      rw [List.flatMap_cons, ← length_enc x, List.take_left]
    have hx : get (enc x) = x := get_enc (hc x (by simp)) (hv x (by simp)).1 (hv x (by simp)).2
    simp only [List.length_cons, decFrom, e, hx]
    rw [if_pos (show (wrong x n 8).1 = 0 from hc x (by simp))]
    rw [decFrom_at l b (pre ++ enc x) (i + 1) (by rw [hb]; simp [encode]) (by rw [List.length_append, length_enc]; omega) (fun y hy => hc y (by simp [hy])) (fun y hy => hv y (by simp [hy]))]
theorem may_ok {l : List Ins} {locks : Int} (h : may l locks = (0, 0)) : 0 ≤ locks ∧ locks ≤ 8 ∧ l.length ≤ 256 ∧ ∀ x ∈ l, check x l.length locks = 0 := by
  unfold may at h
  split at h
  · simp at h
  · split at h
    · simp at h
    · exact ⟨by omega, by omega, by omega, mayFrom_ok l 0 h⟩
theorem may_of {l : List Ins} {locks : Int} (h0 : 0 ≤ locks) (h1 : locks ≤ 8) (h2 : l.length ≤ 256) (h3 : ∀ x ∈ l, check x l.length locks = 0) : may l locks = (0, 0) := by
  unfold may; rw [if_neg (by omega), if_neg (by omega)]; exact mayFrom_of l 0 h3
theorem dec_encode {l : List Ins} (h : may l 8 = (0, 0)) (hv : InV l) : dec (encode l) = .ok l := by
  obtain ⟨_, _, h2, h3⟩ := may_ok h
  have hl := length_encode l
  unfold dec
  rw [if_neg (by omega), if_neg (by omega), hl, show 12 * l.length / 12 = l.length by omega]
  exact decFrom_at l _ [] 0 rfl rfl h3 hv
theorem decFrom_some {n : Int} : ∀ (f i : Nat) (b : List UInt8) (l : List Ins), decFrom b n i f = .ok l → 12 * (i + f) = b.length → l.length = f ∧ (∀ x ∈ l, check x n 8 = 0) ∧ InV l ∧ encode l = b.drop (12 * i)
  | 0, i, b, l, h, hl => by
    simp only [decFrom, Except.ok.injEq] at h
    subst h
    refine ⟨rfl, by simp, by simp [InV], ?_⟩
    rw [List.drop_of_length_le (by omega)]; rfl
  | f + 1, i, b, l, h, hl => by
    simp only [decFrom] at h
    split at h
    · rename_i h0
      split at h
      · cases h
      · rename_i l' h1
        simp only [Except.ok.injEq] at h
        subst h
        obtain ⟨a1, a2, a3, a4⟩ := decFrom_some f (i + 1) b l' h1 (by omega)
        have hw : ((b.drop (12 * i)).take 12).length = 12 := by rw [List.length_take, List.length_drop]; omega
        obtain ⟨e1, e2, e3⟩ := enc_get hw
        refine ⟨by simp [a1], ?_, ?_, ?_⟩
        · intro x hx
          rcases List.mem_cons.1 hx with rfl | hx
          · exact h0
          · exact a2 x hx
        · intro x hx
          rcases List.mem_cons.1 hx with rfl | hx
          · exact ⟨e2, e3⟩
          · exact a3 x hx
        · unfold encode at *
          rw [List.flatMap_cons, e1, a4, show 12 * (i + 1) = 12 * i + 12 by omega, ← List.drop_drop, List.take_append_drop]
    · cases h
theorem encode_dec {b : List UInt8} {l : List Ins} (h : dec b = .ok l) : may l 8 = (0, 0) ∧ InV l ∧ encode l = b := by
  unfold dec at h
  split at h
  · cases h
  · split at h
    · cases h
    · rename_i h1 h2
      obtain ⟨a1, a2, a3, a4⟩ := decFrom_some _ _ _ _ h (by omega)
      rw [← a1] at a2
      exact ⟨may_of (by omega) (by omega) (by omega) a2, a3, by simpa using a4⟩
theorem wrong_two (x : Ins) (n locks : Int) : 0 ≤ (wrong x n locks).2 ∧ (wrong x n locks).2 ≤ 4 := by
  unfold wrong
  (repeat' split) <;> simp
theorem decFrom_err {n : Int} : ∀ (f i : Nat) (b : List UInt8) (e : Int × Int), decFrom b n i f = .error e → 12 * (i + f) = b.length → e.1 ≠ 0 ∧ 0 ≤ e.2 ∧ e.2 ≤ b.length
  | 0, i, b, e, h, _ => by simp [decFrom] at h
  | f + 1, i, b, e, h, hl => by
    simp only [decFrom] at h
    split at h
    · split at h
      · rename_i e' h1; cases h; exact decFrom_err f (i + 1) b _ h1 (by omega)
      · cases h
    · rename_i h0
      cases h
      have := wrong_two (get ((b.drop (12 * i)).take 12)) n 8
      exact ⟨h0, by simp only; omega, by simp only; omega⟩
theorem dec_err {b : List UInt8} {e : Int × Int} (h : dec b = .error e) : e.1 ≠ 0 ∧ 0 ≤ e.2 ∧ e.2 ≤ b.length := by
  unfold dec at h
  split at h
  · cases h; simp; omega
  · split at h
    · cases h; simp
    · exact decFrom_err _ _ _ _ h (by omega)
end Go.CodeP
