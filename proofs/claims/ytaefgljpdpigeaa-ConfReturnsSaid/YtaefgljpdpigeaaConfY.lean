/- What Decode takes may be, and is its bytes; what is wrong has a place in them (layer 14). No program in sight. -/
import Derived.Test.YtaefgljpdpigeaaConfXb
namespace Go.Proofs.Ytaefgljpdpigeaa.Conf
open Go.RowKit Go.Fb Go.CodeP Go.BytesP Go.ReaderP
set_option linter.unusedVariables false
/-- An error that is one, in the bytes. -/
def Bad (b : List UInt8) (e : Int × Int) : Prop := e.1 ≠ 0 ∧ 0 ≤ e.2 ∧ e.2 ≤ b.length
theorem num_err {b : List UInt8} {m : Nat} {f : Nat → Int} {p : Nat} {e : Int × Int} (hp : p ≤ b.length) (h : numD b m f p = .error e) : Bad b e := by
  unfold numD at h
  split at h
  · cases h; exact ⟨by simp, by simp, by simp⟩
  · split at h
    · cases h
    · rename_i h1; cases h; exact ⟨h1, by simp, by simp only; omega⟩
theorem num_ok {b : List UInt8} {m : Nat} {f : Nat → Int} {p v p' : Nat} (h : numD b m f p = .ok (v, p')) : p' = p + m ∧ p + m ≤ b.length ∧ f v = 0 ∧ v < 256 ^ m ∧ b.drop p = le v m ++ b.drop (p + m) := by
  unfold numD at h
  split at h
  · cases h
  · rename_i hl
    split at h
    · rename_i h1
      cases h
      have h3 : ((b.drop p).take m).length = m := by rw [List.length_take, List.length_drop]; omega
      have h4 := le_val ((b.drop p).take m)
      rw [h3] at h4
      refine ⟨rfl, by omega, h1, numV_lt b p m, ?_⟩
      unfold numV
      rw [h4, ← List.drop_drop, List.take_append_drop]
    · cases h
theorem labels_err : ∀ (k : Nat) (b : List UInt8) (acc : List Int) (p : Nat) (e : Int × Int), p ≤ b.length → labelsD b k acc p = .error e → Bad b e
  | 0, b, acc, p, e, _, h => by cases h
  | k + 1, b, acc, p, e, hp, h => by
    rw [labelsD] at h
    cases hn : numD b 8 (labF acc) p with
    | error x => rw [hn] at h; cases h; exact num_err hp hn
    | ok q =>
      obtain ⟨a, p'⟩ := q
      rw [hn] at h
      obtain ⟨rfl, h2, -⟩ := num_ok hn
      exact labels_err k b _ _ e h2 h
theorem labels_ok : ∀ (k : Nat) (b : List UInt8) (acc l : List Int) (p p' : Nat), p ≤ b.length → labelsD b k acc p = .ok (l, p') → ∃ l1, l = acc ++ l1 ∧ l1.length = k ∧ p' ≤ b.length ∧ b.drop p = encL l1 ++ b.drop p' ∧ (∀ x ∈ l1, 0 ≤ x ∧ x ≤ 18446744073709551615) ∧ ∀ i (h : i < l1.length), labF (acc ++ l1.take i) l1[i].toNat = 0
  | 0, b, acc, l, p, p', hp, h => by cases h; exact ⟨[], by simp, rfl, hp, by simp [encL], by simp, by simp⟩
  | k + 1, b, acc, l, p, p', hp, h => by
    rw [labelsD] at h
    cases hn : numD b 8 (labF acc) p with
    | error x => rw [hn] at h; cases h
    | ok q =>
      obtain ⟨a, p1⟩ := q
      rw [hn] at h
      obtain ⟨rfl, h2, h3, h4, h5⟩ := num_ok hn
      obtain ⟨l1, rfl, g2, g3, g4, g5, g6⟩ := labels_ok k b _ l _ p' h2 h
      refine ⟨(a : Int) :: l1, by simp, by simp [g2], g3, ?_, ?_, ?_⟩
      · rw [h5, g4]; simp [encL]
      · intro x hx
        rcases List.mem_cons.1 hx with rfl | hx
        · have : a < 18446744073709551616 := h4
          omega
        · exact g5 x hx
      · intro i hi
        cases i with
        | zero => rw [List.take_zero, List.append_nil]; exact h3
        | succ i =>
          have := g6 i (by simpa using hi)
          rw [List.append_assoc] at this
          exact this
theorem table_err {parts : Int} : ∀ (k : Nat) (b : List UInt8) (acc : List Int) (p : Nat) (e : Int × Int), p ≤ b.length → tableD b parts k acc p = .error e → Bad b e
  | 0, b, acc, p, e, _, h => by cases h
  | k + 1, b, acc, p, e, hp, h => by
    rw [tableD] at h
    cases hn : numD b 1 (partF parts) p with
    | error x => rw [hn] at h; cases h; exact num_err hp hn
    | ok q =>
      obtain ⟨a, p'⟩ := q
      rw [hn] at h
      obtain ⟨rfl, h2, -⟩ := num_ok hn
      exact table_err k b _ _ e h2 h
theorem partF_zero {parts : Int} {v : Nat} (h : partF parts v = 0) : (v : Int) < parts := by
  unfold partF at h
  split at h
  · exact absurd h (by decide)
  · omega
theorem table_ok {parts : Int} : ∀ (k : Nat) (b : List UInt8) (acc l : List Int) (p p' : Nat), p ≤ b.length → tableD b parts k acc p = .ok (l, p') → ∃ l1, l = acc ++ l1 ∧ l1.length = k ∧ p' ≤ b.length ∧ b.drop p = encT l1 ++ b.drop p' ∧ ∀ x ∈ l1, 0 ≤ x ∧ x < parts
  | 0, b, acc, l, p, p', hp, h => by cases h; exact ⟨[], by simp, rfl, hp, by simp [encT], by simp⟩
  | k + 1, b, acc, l, p, p', hp, h => by
    rw [tableD] at h
    cases hn : numD b 1 (partF parts) p with
    | error x => rw [hn] at h; cases h
    | ok q =>
      obtain ⟨a, p1⟩ := q
      rw [hn] at h
      obtain ⟨rfl, h2, h3, h4, h5⟩ := num_ok hn
      obtain ⟨l1, rfl, g2, g3, g4, g5⟩ := table_ok k b _ l _ p' h2 h
      refine ⟨(a : Int) :: l1, by simp, by simp [g2], g3, ?_, ?_⟩
      · rw [h5, g4]; simp [encT]
      · intro x hx
        rcases List.mem_cons.1 hx with rfl | hx
        · have := partF_zero h3
          omega
        · exact g5 x hx
theorem ins_err {b : List UInt8} {n locks : Int} {p : Nat} {e : Int × Int} (hp : p ≤ b.length) (h : insD b n locks p = .error e) : Bad b e := by
  unfold insD at h
  split at h
  · cases h; exact ⟨by simp, by simp, by simp⟩
  · split at h
    · cases h
    · rename_i h0 h1
      cases h
      have := wrong_two (get ((b.drop p).take 12)) n locks
      exact ⟨h1, by simp only; omega, by simp only; omega⟩
theorem ins_ok {b : List UInt8} {n locks : Int} {p p' : Nat} {x : Ins} (h : insD b n locks p = .ok (x, p')) : p' = p + 12 ∧ p + 12 ≤ b.length ∧ check x n locks = 0 ∧ (-9223372036854775808 ≤ x.imm ∧ x.imm ≤ 9223372036854775807) ∧ b.drop p = enc x ++ b.drop (p + 12) := by
  unfold insD at h
  split at h
  · cases h
  · rename_i hl
    split at h
    · rename_i h1
      cases h
      have h3 : ((b.drop p).take 12).length = 12 := by rw [List.length_take, List.length_drop]; omega
      obtain ⟨e1, e2, e3⟩ := enc_get h3
      refine ⟨rfl, by omega, h1, ⟨e2, e3⟩, ?_⟩
      rw [e1, ← List.drop_drop, List.take_append_drop]
    · cases h
theorem code_err {n locks : Int} : ∀ (k : Nat) (b : List UInt8) (acc : List Ins) (p : Nat) (e : Int × Int), p ≤ b.length → codeD b n locks k acc p = .error e → Bad b e
  | 0, b, acc, p, e, _, h => by cases h
  | k + 1, b, acc, p, e, hp, h => by
    rw [codeD] at h
    cases hn : insD b n locks p with
    | error x => rw [hn] at h; cases h; exact ins_err hp hn
    | ok q =>
      obtain ⟨a, p'⟩ := q
      rw [hn] at h
      obtain ⟨rfl, h2, -⟩ := ins_ok hn
      exact code_err k b _ _ e h2 h
theorem code_ok {n locks : Int} : ∀ (k : Nat) (b : List UInt8) (acc l : List Ins) (p p' : Nat), p ≤ b.length → codeD b n locks k acc p = .ok (l, p') → ∃ l1, l = acc ++ l1 ∧ l1.length = k ∧ p' ≤ b.length ∧ b.drop p = encode l1 ++ b.drop p' ∧ (∀ x ∈ l1, check x n locks = 0) ∧ InV l1
  | 0, b, acc, l, p, p', hp, h => by cases h; exact ⟨[], by simp, rfl, hp, by simp [encode], by simp, by simp [InV]⟩
  | k + 1, b, acc, l, p, p', hp, h => by
    rw [codeD] at h
    cases hn : insD b n locks p with
    | error x => rw [hn] at h; cases h
    | ok q =>
      obtain ⟨a, p1⟩ := q
      rw [hn] at h
      obtain ⟨rfl, h2, h3, h4, h5⟩ := ins_ok hn
      obtain ⟨l1, rfl, g2, g3, g4, g5, g6⟩ := code_ok k b _ l _ p' h2 h
      refine ⟨a :: l1, by simp, by simp [g2], g3, ?_, ?_, ?_⟩
      · rw [h5, g4]; simp [encode]
      · intro x hx
        rcases List.mem_cons.1 hx with rfl | hx
        · exact h3
        · exact g5 x hx
      · intro x hx
        rcases List.mem_cons.1 hx with rfl | hx
        · exact h4
        · exact g6 x hx
theorem proc_err {parts locks : Int} {b : List UInt8} {p : Nat} {e : Int × Int} (hp : p ≤ b.length) (h : procD b parts locks p = .error e) : Bad b e := by
  unfold procD at h
  cases h1 : numD b 1 (partF parts) p with
  | error x => rw [h1] at h; cases h; exact num_err hp h1
  | ok q =>
    obtain ⟨v, p1⟩ := q
    obtain ⟨rfl, g1, -⟩ := num_ok h1
    rw [h1] at h
    simp only at h
    cases h2 : numD b 2 codeF (p + 1) with
    | error x => rw [h2] at h; cases h; exact num_err g1 h2
    | ok q =>
      obtain ⟨k, p2⟩ := q
      obtain ⟨rfl, g2, -⟩ := num_ok h2
      rw [h2] at h
      simp only at h
      cases h3 : codeD b k locks k [] (p + 1 + 2) with
      | error x => rw [h3] at h; cases h; exact code_err _ _ _ _ _ g2 h3
      | ok q => rw [h3] at h; cases h
theorem proc_ok {parts locks : Int} (hl0 : 0 ≤ locks) (hl8 : locks ≤ 8) {b : List UInt8} {p p' : Nat} {x : Int × List Ins} (hp : p ≤ b.length) (h : procD b parts locks p = .ok (x, p')) : p' ≤ b.length ∧ b.drop p = encP x ++ b.drop p' ∧ (0 ≤ x.1 ∧ x.1 < parts) ∧ may x.2 locks = (0, 0) ∧ InV x.2 := by
  unfold procD at h
  cases h1 : numD b 1 (partF parts) p with
  | error x => rw [h1] at h; cases h
  | ok q =>
    obtain ⟨v, p1⟩ := q
    obtain ⟨rfl, g1, g2, g3, g4⟩ := num_ok h1
    rw [h1] at h
    simp only at h
    cases h2 : numD b 2 codeF (p + 1) with
    | error x => rw [h2] at h; cases h
    | ok q =>
      obtain ⟨k, p2⟩ := q
      obtain ⟨rfl, k1, k2, k3, k4⟩ := num_ok h2
      rw [h2] at h
      simp only at h
      cases h3 : codeD b k locks k [] (p + 1 + 2) with
      | error x => rw [h3] at h; cases h
      | ok q =>
        obtain ⟨l, p3⟩ := q
        rw [h3] at h
        cases h
        obtain ⟨l1, e1, e2, e3, e4, e5, e6⟩ := code_ok k b [] l _ _ k1 h3
        rw [List.nil_append] at e1
        subst e1
        have hk : k ≤ 256 := by
          unfold codeF at k2
          split at k2
          · exact absurd k2 (by decide)
          · omega
        refine ⟨e3, ?_, ⟨by simp only; omega, partF_zero g2⟩, may_of hl0 hl8 (by simp only; omega) (by simp only; rw [e2]; exact e5), e6⟩
        unfold encP
        simp only
        rw [g4, k4, e4, e2]
        simp only [List.append_assoc]
theorem procs_err {parts locks : Int} (hl0 : 0 ≤ locks) (hl8 : locks ≤ 8) : ∀ (k : Nat) (b : List UInt8) (acc : List (Int × List Ins)) (p : Nat) (e : Int × Int), p ≤ b.length → procsD b parts locks k acc p = .error e → Bad b e
  | 0, b, acc, p, e, _, h => by cases h
  | k + 1, b, acc, p, e, hp, h => by
    rw [procsD] at h
    cases hn : procD b parts locks p with
    | error x => rw [hn] at h; cases h; exact proc_err hp hn
    | ok q =>
      obtain ⟨a, p'⟩ := q
      rw [hn] at h
      obtain ⟨h2, -⟩ := proc_ok hl0 hl8 hp hn
      exact procs_err hl0 hl8 k b _ _ e h2 h
theorem procs_ok {parts locks : Int} (hl0 : 0 ≤ locks) (hl8 : locks ≤ 8) : ∀ (k : Nat) (b : List UInt8) (acc l : List (Int × List Ins)) (p p' : Nat), p ≤ b.length → procsD b parts locks k acc p = .ok (l, p') → ∃ l1, l = acc ++ l1 ∧ l1.length = k ∧ p' ≤ b.length ∧ b.drop p = encPs l1 ++ b.drop p' ∧ ∀ x ∈ l1, (0 ≤ x.1 ∧ x.1 < parts) ∧ may x.2 locks = (0, 0) ∧ InV x.2
  | 0, b, acc, l, p, p', hp, h => by cases h; exact ⟨[], by simp, rfl, hp, by simp [encPs], by simp⟩
  | k + 1, b, acc, l, p, p', hp, h => by
    rw [procsD] at h
    cases hn : procD b parts locks p with
    | error x => rw [hn] at h; cases h
    | ok q =>
      obtain ⟨a, p1⟩ := q
      rw [hn] at h
      obtain ⟨h2, h3, h4⟩ := proc_ok hl0 hl8 hp hn
      obtain ⟨l1, rfl, g2, g3, g4, g5⟩ := procs_ok hl0 hl8 k b _ l _ p' h2 h
      refine ⟨a :: l1, by simp, by simp [g2], g3, ?_, ?_⟩
      · rw [h3, g4]; simp [encPs]
      · intro x hx
        rcases List.mem_cons.1 hx with rfl | hx
        · exact h4
        · exact g5 x hx
theorem mark_err : ∀ (l : List UInt8) (b : List UInt8) (p : Nat) (e : Int × Int), p ≤ b.length → markD b l p = .error e → Bad b e
  | [], b, p, e, _, h => by cases h
  | c :: l, b, p, e, hp, h => by
    rw [markD] at h
    cases hn : numD b 1 (fun v => if v = c.toNat then 0 else 4) p with
    | error x => rw [hn] at h; cases h; exact num_err hp hn
    | ok q =>
      obtain ⟨a, p'⟩ := q
      rw [hn] at h
      obtain ⟨rfl, h2, -⟩ := num_ok hn
      exact mark_err l b _ e h2 h
theorem mark_inv : ∀ (l : List UInt8) (b : List UInt8) (p p' : Nat), p ≤ b.length → markD b l p = .ok p' → p' ≤ b.length ∧ b.drop p = l ++ b.drop p'
  | [], b, p, p', hp, h => by cases h; exact ⟨hp, rfl⟩
  | c :: l, b, p, p', hp, h => by
    rw [markD] at h
    cases hn : numD b 1 (fun v => if v = c.toNat then 0 else 4) p with
    | error x => rw [hn] at h; cases h
    | ok q =>
      obtain ⟨a, p1⟩ := q
      rw [hn] at h
      obtain ⟨rfl, h2, h3, h4, h5⟩ := num_ok hn
      have ha : a = c.toNat := by
        by_cases e : a = c.toNat
        · exact e
        · simp only [if_neg e] at h3; exact absurd h3 (by decide)
      obtain ⟨g1, g2⟩ := mark_inv l b _ p' h2 h
      refine ⟨g1, ?_⟩
      have hc := c.toNat_lt
      have e1 : le (a : Int) 1 = [c] := by
        rw [le_one (by omega) (by omega), ha, Int.toNat_natCast]
        simp
      rw [h5, e1, g2]
      rfl
end Go.Proofs.Ytaefgljpdpigeaa.Conf
