/- The reference's reading of a script, plainly: it tells what dec tells. No program in sight. -/
import Derived.Test.YtgmibjhbneggeaaScriptP
import Derived.Test.YtgmibjhbneggeaaReaderP
namespace Go.ScriptP
open Go.RowKit Go.BytesP Go.ReaderP

/-- A step, as the reference reads it. -/
def rStepN (b : List UInt8) (k : Int) (n : Nat × St) : Step × St := if k = 2 then (⟨k, n.1, wrap64 (rNum b n.2 8).1⟩, (rNum b n.2 8).2) else (⟨k, n.1, 0⟩, n.2)
def rStepK (b : List UInt8) (k : Int × St) : Step × St := rStepN b k.1 (rNum b k.2 4)
def rStep (b : List UInt8) (s : St) : Step × St := rStepK b (rInt b s 1 1 3 1 1)
theorem num_of {b : List UInt8} {p m : Nat} : num b p m = if b.length < p + m then none else some (numV b p m) := rfl
theorem rStepK_err (b : List UInt8) (k : Int) (e : Int × Int) : (rStepK b (k, .error e)).2 = .error e := by
  unfold rStepK rStepN
  simp only [rNum]
  split <;> rfl
theorem rStep_err {b : List UInt8} {p : Nat} {e : Int × Int} (h : pStep b p = .error e) : (rStep b (.ok p)).2 = .error e := by
  unfold pStep at h
  split at h
  · rename_i h0
    have hp : b.length ≤ p := by rcases Nat.lt_or_ge p b.length with g | g; (rw [List.getElem?_eq_getElem g] at h0; cases h0); exact g
    cases h
    have e1 : rInt b (.ok p) 1 1 3 1 1 = (0, .error (5, b.length)) := by unfold rInt; simp only; rw [if_pos (by omega)]
    rw [rStep, e1, rStepK_err]
  · rename_i k h0
    have hp : p < b.length := by rcases Nat.lt_or_ge p b.length with g | g; exact g; (rw [List.getElem?_eq_none g] at h0; cases h0)
    have hk : numV b p 1 = k.toNat := by rw [numV_one hp]; rw [List.getElem?_eq_getElem hp] at h0; injection h0 with h0; rw [h0]
    split at h
    · rename_i hb
      cases h
      have e1 : rInt b (.ok p) 1 1 3 1 1 = ((k.toNat : Int), .error (1, p)) := by
        unfold rInt; simp only; rw [if_neg (by omega), hk]
        by_cases hlt : (k.toNat : Int) < 1
        · rw [if_pos hlt]
        · rw [if_neg hlt, if_pos (by omega)]
      rw [rStep, e1, rStepK_err]
    · rename_i hb
      have e1 : rInt b (.ok p) 1 1 3 1 1 = ((k.toNat : Int), .ok (p + 1)) := by
        unfold rInt; simp only; rw [if_neg (by omega), hk, if_neg (by omega), if_neg (by omega)]
      rw [rStep, e1, rStepK]
      rw [num_of] at h
      simp only [rNum]
      by_cases h5 : b.length < p + 1 + 4
      · rw [if_pos h5] at h ⊢
        cases h
        unfold rStepN
        split <;> rfl
      · rw [if_neg h5] at h ⊢
        simp only at h
        unfold rStepN
        split at h
        · rename_i h2
          rw [num_of] at h
          rw [if_pos (by omega)]
          simp only [rNum]
          by_cases h7 : b.length < p + 1 + 4 + 8
          · rw [if_pos (by omega)] at h
            rw [if_pos h7]
            cases h; rfl
          · rw [if_neg (by omega)] at h
            cases h
        · cases h
theorem rStep_ok {b : List UInt8} {p q : Nat} {s : Step} (h : pStep b p = .ok (s, q)) : rStep b (.ok p) = (s, .ok q) := by
  unfold pStep at h
  split at h
  · cases h
  · rename_i k h0
    have hp : p < b.length := by rcases Nat.lt_or_ge p b.length with g | g; exact g; (rw [List.getElem?_eq_none g] at h0; cases h0)
    have hk : numV b p 1 = k.toNat := by rw [numV_one hp]; rw [List.getElem?_eq_getElem hp] at h0; injection h0 with h0; rw [h0]
    split at h
    · cases h
    · rename_i hb
      have e1 : rInt b (.ok p) 1 1 3 1 1 = ((k.toNat : Int), .ok (p + 1)) := by
        unfold rInt; simp only; rw [if_neg (by omega), hk, if_neg (by omega), if_neg (by omega)]
      rw [rStep, e1, rStepK]
      rw [num_of] at h
      simp only [rNum]
      by_cases h5 : b.length < p + 1 + 4
      · rw [if_pos h5] at h; cases h
      · rw [if_neg h5] at h ⊢
        simp only at h
        unfold rStepN
        split at h
        · rename_i h2
          rw [num_of] at h
          rw [if_pos (by omega)]
          simp only [rNum]
          by_cases h7 : b.length < p + 1 + 4 + 8
          · rw [if_pos (by omega)] at h; cases h
          · rw [if_neg (by omega)] at h
            rw [if_neg h7]
            simp only [Except.ok.injEq, Prod.mk.injEq] at h
            obtain ⟨rfl, rfl⟩ := h
            rfl
        · rename_i h2
          rw [if_neg (by omega)]
          simp only [Except.ok.injEq, Prod.mk.injEq] at h
          obtain ⟨rfl, rfl⟩ := h
          rfl
theorem rStep_bd (b : List UInt8) (s : St) : 0 ≤ (rInt b s 1 1 3 1 1).1 ∧ (rInt b s 1 1 3 1 1).1 ≤ 255 := by
  unfold rInt
  cases s with
  | error e => simp
  | ok p =>
    simp only
    split
    · simp
    · have := numV_lt b p 1
      simp only; omega
theorem rNum_bd (b : List UInt8) (s : St) (m : Nat) : (rNum b s m).1 < 256 ^ m := by
  unfold rNum
  cases s with
  | error e => exact Nat.pow_pos (by decide)
  | ok p =>
    simp only
    split
    · exact Nat.pow_pos (by decide)
    · exact numV_lt b p m
/-- The mark, as the reference reads it. -/
theorem rMark_pMark {b : List UInt8} : ∀ (f k : Nat), k + f = 5 → rMark b (.ok k) (mark.drop k) = match pMark b k f with | .error e => .error e | .ok _ => .ok 5
  | 0, k, h => by
    obtain rfl : k = 5 := by omega
    rfl
  | f + 1, k, h => by
    have hk : k < mark.length := by show k < 5; omega
    rw [List.drop_eq_getElem_cons hk]
    simp only [rMark, pMark]
    by_cases hb : b.length < k + 1
    · rw [if_pos hb, rMark_error, List.getElem?_eq_none (by omega)]
    · have hkb : k < b.length := by omega
      rw [if_neg hb, List.getElem?_eq_getElem hkb, List.getElem?_eq_getElem hk, numV_one hkb]
      simp only
      by_cases e : b[k] = mark[k]
      · rw [if_pos (by rw [e]), if_pos (by rw [e]), rMark_pMark f (k + 1) (by omega)]
      · rw [if_neg (fun h => e (UInt8.toNat_inj.1 h)), if_neg (by simpa using e), rMark_error]
/-- How the reference stands behind the head: how many there are, and where. -/
def rHead (b : List UInt8) : Int × St := rInt b (rMark b (.ok 0) mark) 2 0 1024 3 3
theorem rHead_dec {b : List UInt8} (h : b.length ≤ 1048576) : 0 ≤ (rHead b).1 ∧ (rHead b).1 ≤ 65535 ∧ match (rHead b).2 with | .error x => dec b = .error x ∧ x.1 ≠ 0 | .ok p => p = 7 ∧ 7 ≤ b.length ∧ (rHead b).1 ≤ 1024 ∧ dec b = fin b [] 7 (rHead b).1.toNat := by
  have hm := rMark_pMark (b := b) 5 0 rfl
  rw [List.drop_zero] at hm
  have hd := dec_marked h
  unfold marked at hd
  unfold rHead
  rw [hm]
  have hpe := pMark_err 5 0 b
  cases hp : pMark b 0 5 with
  | error e =>
    rw [hp] at hd
    have := (hpe e hp).1
    refine ⟨by simp [rInt], by simp [rInt], hd, ?_⟩
    omega
  | ok u =>
    rw [hp] at hd
    simp only at hd
    unfold headed at hd
    rw [num_of] at hd
    simp only [rInt]
    have hv := numV_lt b 5 2
    by_cases hs : b.length < 5 + 2
    · rw [if_pos hs] at hd ⊢
      exact ⟨by simp, by simp, hd, by simp⟩
    · rw [if_neg hs] at hd ⊢
      simp only at hd ⊢
      rw [if_neg (show ¬ (numV b 5 2 : Int) < 0 by omega)]
      by_cases hg : 1024 < numV b 5 2
      · rw [if_pos hg] at hd
        rw [if_pos (by omega)]
        exact ⟨by omega, by omega, hd, by simp⟩
      · rw [if_neg hg] at hd
        rw [if_neg (by omega)]
        exact ⟨by omega, by omega, rfl, by omega, by omega, by simpa using hd⟩
end Go.ScriptP
