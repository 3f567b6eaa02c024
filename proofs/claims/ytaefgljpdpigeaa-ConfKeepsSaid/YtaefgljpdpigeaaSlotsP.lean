/- Ticks and whose they are, plainly (chapter 3): what goes round and round, counted. No program in sight. -/
namespace Go.SlotsP

/-- How many of the next n are so, from a on. -/
def cw (f : Nat → Bool) (a : Nat) : Nat → Nat
  | 0 => 0
  | n + 1 => cw f a n + if f (a + n) then 1 else 0
variable {f : Nat → Bool} {k : Nat}
theorem cw_add (a n m : Nat) : cw f a (n + m) = cw f a n + cw f (a + n) m := by
  induction m with
  | zero => rfl
  | succ m ih => rw [← Nat.add_assoc]; simp only [cw]; rw [ih, Nat.add_assoc, Nat.add_assoc]
theorem cw_le (a n : Nat) : cw f a n ≤ n := by
  induction n with
  | zero => exact Nat.le_refl _
  | succ n ih => simp only [cw]; split <;> omega
theorem cw_mono (a : Nat) {n m : Nat} (h : n ≤ m) : cw f a n ≤ cw f a m := by
  obtain ⟨d, rfl⟩ := Nat.le.dest h
  rw [cw_add]; omega
theorem cw_one (a : Nat) : cw f a 1 = if f a then 1 else 0 := by simp [cw]
theorem cw_shift (hp : ∀ i, f (i + k) = f i) (a n : Nat) : cw f (a + k) n = cw f a n := by
  induction n with
  | zero => rfl
  | succ n ih => simp only [cw]; rw [ih, show a + k + n = a + n + k by omega, hp]
theorem cw_full (hp : ∀ i, f (i + k) = f i) (a : Nat) : cw f a k = cw f 0 k := by
  induction a with
  | zero => rfl
  | succ a ih =>
    rw [← ih]
    have h1 := cw_add (f := f) a 1 k
    have h2 := cw_add (f := f) a k 1
    rw [Nat.add_comm] at h1
    rw [h1, cw_one, cw_one, hp] at h2
    omega
theorem cw_mul (hp : ∀ i, f (i + k) = f i) (a q : Nat) : cw f a (q * k) = q * cw f 0 k := by
  induction q with
  | zero => simp [cw]
  | succ q ih => rw [Nat.succ_mul, cw_add, ih, cw_full hp (a + q * k), Nat.succ_mul]
theorem per_mul (hp : ∀ i, f (i + k) = f i) (q i : Nat) : f (i + q * k) = f i := by
  induction q with
  | zero => simp
  | succ q ih => rw [Nat.succ_mul, ← Nat.add_assoc, hp, ih]
theorem per_mod (hp : ∀ i, f (i + k) = f i) (i : Nat) : f i = f (i % k) := by
  have := per_mul hp (i / k) (i % k)
  rw [Nat.mul_comm, Nat.mod_add_div] at this
  exact this
theorem cw_shiftq (hp : ∀ i, f (i + k) = f i) (a q n : Nat) : cw f (a + q * k) n = cw f a n := by
  induction q with
  | zero => simp
  | succ q ih => rw [Nat.succ_mul, ← Nat.add_assoc, cw_shift hp, ih]
theorem cw_divmod (hp : ∀ i, f (i + k) = f i) (t : Nat) : cw f 0 t = t / k * cw f 0 k + cw f 0 (t % k) := by
  have h : t = t / k * k + t % k := by rw [Nat.mul_comm]; exact (Nat.div_add_mod t k).symm
  have h2 := cw_add (f := f) 0 (t / k * k) (t % k)
  rw [← h, cw_mul hp, cw_shiftq hp] at h2
  exact h2
theorem cw_pos (a g : Nat) : 0 < cw f a g ↔ ∃ j, j < g ∧ f (a + j) = true := by
  induction g with
  | zero => simp [cw]
  | succ g ih =>
    simp only [cw]
    constructor
    · intro h
      by_cases h1 : f (a + g) = true
      · exact ⟨g, by omega, h1⟩
      · rw [if_neg h1] at h
        obtain ⟨j, hj, e⟩ := ih.1 (by omega)
        exact ⟨j, by omega, e⟩
    · rintro ⟨j, hj, e⟩
      by_cases h1 : j = g
      · subst h1; rw [if_pos e]; omega
      · have := ih.2 ⟨j, by omega, e⟩; omega
theorem cw_zero (a n : Nat) (h : ∀ j, j < n → f (a + j) = false) : cw f a n = 0 := by
  rcases Nat.eq_zero_or_pos (cw f a n) with h1 | h1
  · exact h1
  · obtain ⟨j, hj, e⟩ := (cw_pos a n).1 h1
    rw [h j hj] at e; cases e

/-! ### The next one -/
/-- In how many the next one is there. -/
def dist (f : Nat → Bool) (a : Nat) : Nat → Nat
  | 0 => 0
  | n + 1 => if f a then 1 else dist f (a + 1) n + 1
theorem dist_eq {n : Nat} : ∀ {k a : Nat}, (∀ j, j < n → f (a + j) = false) → f (a + n) = true → n < k → dist f a k = n + 1 := by
  induction n with
  | zero =>
    intro k a h h1 hk
    obtain ⟨k, rfl⟩ : ∃ m, k = m + 1 := ⟨k - 1, by omega⟩
    simp only [dist]
    rw [Nat.add_zero] at h1
    rw [if_pos h1]
  | succ n ih =>
    intro k a h h1 hk
    obtain ⟨k, rfl⟩ : ∃ m, k = m + 1 := ⟨k - 1, by omega⟩
    have h0 := h 0 (by omega)
    rw [Nat.add_zero] at h0
    simp only [dist]
    rw [if_neg (by rw [h0]; decide), ih (fun j hj => by rw [show a + 1 + j = a + (j + 1) by omega]; exact h _ (by omega)) (by rw [show a + 1 + n = a + (n + 1) by omega]; exact h1) (by omega)]
theorem first_of (a : Nat) : ∀ m, (∃ j, j < m ∧ f (a + j) = true) → ∃ n, n < m ∧ f (a + n) = true ∧ ∀ j, j < n → f (a + j) = false := by
  intro m
  induction m with
  | zero => rintro ⟨j, hj, _⟩; omega
  | succ m ih =>
    rintro ⟨j, hj, e⟩
    by_cases h : ∃ j, j < m ∧ f (a + j) = true
    · obtain ⟨n, h1, h2, h3⟩ := ih h
      exact ⟨n, by omega, h2, h3⟩
    · have hjm : j = m := by
        rcases Nat.lt_or_ge j m with h1 | h1
        · exact absurd ⟨j, h1, e⟩ h
        · omega
      subst hjm
      refine ⟨j, by omega, e, fun i hi => ?_⟩
      cases h1 : f (a + i) with
      | false => rfl
      | true => exact absurd ⟨i, hi, h1⟩ h
/-- There is one in each round. -/
def Some (f : Nat → Bool) (k : Nat) : Prop := ∃ j, j < k ∧ f j = true
theorem some_at (hp : ∀ i, f (i + k) = f i) (hs : Some f k) (a : Nat) : ∃ j, j < k ∧ f (a + j) = true := by
  rw [← cw_pos, cw_full hp, cw_pos]
  obtain ⟨j, h1, h2⟩ := hs
  exact ⟨j, h1, by rw [Nat.zero_add]; exact h2⟩
theorem dist_at (hp : ∀ i, f (i + k) = f i) (hs : Some f k) (a : Nat) : ∃ n, dist f a k = n + 1 ∧ n < k ∧ f (a + n) = true ∧ ∀ j, j < n → f (a + j) = false := by
  obtain ⟨n, h1, h2, h3⟩ := first_of a k (some_at hp hs a)
  exact ⟨n, dist_eq h3 h2 h1, h1, h2, h3⟩
theorem dist_le_iff (hp : ∀ i, f (i + k) = f i) (hs : Some f k) (a g : Nat) : dist f a k ≤ g ↔ 0 < cw f a g := by
  obtain ⟨n, e, hn, h2, h3⟩ := dist_at hp hs a
  rw [e, cw_pos]
  constructor
  · intro h; exact ⟨n, by omega, h2⟩
  · rintro ⟨j, hj, e⟩
    rcases Nat.lt_or_ge j n with h | h
    · rw [h3 j h] at e; cases e
    · omega
theorem dist_shift (hp : ∀ i, f (i + k) = f i) (q : Nat) : ∀ (n a : Nat), dist f (a + q * k) n = dist f a n := by
  intro n
  induction n with
  | zero => intro a; rfl
  | succ n ih => intro a; simp only [dist]; rw [per_mul hp, show a + q * k + 1 = a + 1 + q * k by omega, ih]
/-- The greatest of the first m. -/
def gapTo (f : Nat → Bool) (k : Nat) : Nat → Nat
  | 0 => 0
  | m + 1 => max (gapTo f k m) (dist f m k)
theorem gapTo_ge {i m : Nat} (h : i < m) : dist f i k ≤ gapTo f k m := by
  induction m with
  | zero => omega
  | succ m ih =>
    simp only [gapTo]
    by_cases h1 : i = m
    · subst h1; omega
    · have := ih (by omega); omega
theorem gapTo_at {m : Nat} (h : 0 < m) : ∃ i, i < m ∧ dist f i k = gapTo f k m := by
  induction m with
  | zero => omega
  | succ m ih =>
    simp only [gapTo]
    by_cases h1 : gapTo f k m ≤ dist f m k
    · exact ⟨m, by omega, by omega⟩
    · by_cases h0 : 0 < m
      · obtain ⟨i, h2, h3⟩ := ih h0
        exact ⟨i, by omega, by omega⟩
      · obtain rfl : m = 0 := by omega
        simp [gapTo] at h1
theorem gapTo_le (hp : ∀ i, f (i + k) = f i) (hs : Some f k) : ∀ m, gapTo f k m ≤ k := by
  intro m
  induction m with
  | zero => exact Nat.zero_le _
  | succ m ih =>
    simp only [gapTo]
    obtain ⟨n, e, hn, _⟩ := dist_at hp hs m
    omega
theorem gap_ge (hp : ∀ i, f (i + k) = f i) (hk : 0 < k) (a : Nat) : dist f a k ≤ gapTo f k k := by
  have h := dist_shift (f := f) hp (a / k) k (a % k)
  rw [Nat.mul_comm, Nat.mod_add_div] at h
  rw [h]
  exact gapTo_ge (Nat.mod_lt _ hk)
/-- Are there some in each of the first m rows of g? -/
def allB (f : Nat → Bool) (g : Nat) : Nat → Bool
  | 0 => true
  | m + 1 => allB f g m && decide (0 < cw f m g)
theorem allB_iff (hp : ∀ i, f (i + k) = f i) (hs : Some f k) (g m : Nat) : allB f g m = true ↔ gapTo f k m ≤ g := by
  induction m with
  | zero => simp [allB, gapTo]
  | succ m ih =>
    simp only [allB, gapTo, Bool.and_eq_true, decide_eq_true_eq]
    rw [ih, ← dist_le_iff hp hs]
    omega

/-! ### So many behind the first -/
def seek (f : Nat → Bool) (t left : Nat) : Nat → Nat
  | 0 => t
  | n + 1 => if f t then (if left = 0 then t else seek f (t + 1) (left - 1) n) else seek f (t + 1) left n
theorem cw_head (t n : Nat) : cw f t (n + 1) = (if f t then 1 else 0) + cw f (t + 1) n := by
  have h := cw_add (f := f) t 1 n
  rw [Nat.add_comm 1 n, cw_one] at h
  exact h
theorem seek_spec : ∀ (n t left : Nat), left < cw f t n → f (seek f t left n) = true ∧ t ≤ seek f t left n ∧ seek f t left n < t + n ∧ cw f t (seek f t left n - t) = left := by
  intro n
  induction n with
  | zero => intro t left h; simp [cw] at h
  | succ n ih =>
    intro t left h
    rw [cw_head] at h
    simp only [seek]
    by_cases h1 : f t = true
    · rw [if_pos h1] at h ⊢
      by_cases h2 : left = 0
      · rw [if_pos h2, h2]; exact ⟨h1, Nat.le_refl _, by omega, by simp [cw]⟩
      · rw [if_neg h2]
        obtain ⟨a, b, c, d⟩ := ih (t + 1) (left - 1) (by omega)
        refine ⟨a, by omega, by omega, ?_⟩
        rw [show seek f (t + 1) (left - 1) n - t = (seek f (t + 1) (left - 1) n - (t + 1)) + 1 by omega, cw_head, if_pos h1, d]
        omega
    · rw [if_neg h1] at h ⊢
      obtain ⟨a, b, c, d⟩ := ih (t + 1) left (by omega)
      refine ⟨a, by omega, by omega, ?_⟩
      rw [show seek f (t + 1) left n - t = (seek f (t + 1) left n - (t + 1)) + 1 by omega, cw_head, if_neg h1, d]
      omega
theorem at_unique {t u v : Nat} (hu : f u = true) (hv : f v = true) (htu : t ≤ u) (htv : t ≤ v) (h : cw f t (u - t) = cw f t (v - t)) : u = v := by
  have key : ∀ u v : Nat, f u = true → t ≤ u → u < v → cw f t (u - t) < cw f t (v - t) := by
    intro u v hu h1 h2
    have h3 : cw f t (u - t + 1) = cw f t (u - t) + 1 := by
      simp only [cw]; rw [show t + (u - t) = u by omega, if_pos hu]
    have h4 := cw_mono (f := f) t (show u - t + 1 ≤ v - t by omega)
    omega
  rcases Nat.lt_trichotomy u v with h1 | h1 | h1
  · have := key u v hu htu h1; omega
  · exact h1
  · have := key v u hv htv h1; omega

/-! ### The longest row without one -/
/-- How many there were one behind the other without, and the most there were. -/
def rowL (f : Nat → Bool) (a : Nat) : Nat → Nat × Nat
  | 0 => (0, 0)
  | j + 1 => if f (a + j) then (0, (rowL f a j).2) else ((rowL f a j).1 + 1, max (rowL f a j).2 ((rowL f a j).1 + 1))
theorem rowL_row (a : Nat) : ∀ j, (rowL f a j).1 ≤ j ∧ ∀ i, j - (rowL f a j).1 ≤ i → i < j → f (a + i) = false := by
  intro j
  induction j with
  | zero => exact ⟨Nat.le_refl _, fun i h1 h2 => by omega⟩
  | succ j ih =>
    obtain ⟨h1, h2⟩ := ih
    simp only [rowL]
    by_cases h : f (a + j) = true
    · rw [if_pos h]; exact ⟨Nat.zero_le _, fun i h1 h2 => by simp only at h1; omega⟩
    · rw [if_neg h]
      refine ⟨by simp only; omega, fun i h3 h4 => ?_⟩
      simp only at h3
      by_cases e : i = j
      · subst e; simpa using h
      · exact h2 i (by omega) (by omega)
theorem rowL_le (a : Nat) : ∀ j, (rowL f a j).1 ≤ (rowL f a j).2 := by
  intro j
  induction j with
  | zero => exact Nat.le_refl _
  | succ j ih => simp only [rowL]; split <;> simp only <;> omega
theorem rowL_mono (a : Nat) (i : Nat) : ∀ d, (rowL f a i).2 ≤ (rowL f a (i + d)).2 := by
  intro d
  induction d with
  | zero => exact Nat.le_refl _
  | succ d ih =>
    refine Nat.le_trans ih ?_
    rw [← Nat.add_assoc]
    simp only [rowL]; split <;> simp only <;> omega
theorem rowL_run (a j : Nat) : ∀ m, (∀ i, i < m → f (a + j + i) = false) → m ≤ (rowL f a (j + m)).1 := by
  intro m
  induction m with
  | zero => intro _; exact Nat.zero_le _
  | succ m ih =>
    intro h
    have h1 := ih fun i hi => h i (by omega)
    rw [← Nat.add_assoc]
    simp only [rowL]
    rw [if_neg (by rw [← Nat.add_assoc, h m (by omega)]; decide)]
    simp only; omega
theorem rowL_gap (hp : ∀ i, f (i + k) = f i) (hs : Some f k) (hk : 0 < k) (a : Nat) : ∀ j, (rowL f a j).2 + 1 ≤ gapTo f k k := by
  intro j
  induction j with
  | zero =>
    obtain ⟨n, e, _⟩ := dist_at hp hs 0
    have := gap_ge hp hk 0
    simp only [rowL]; omega
  | succ j ih =>
    obtain ⟨h1, h2⟩ := rowL_row (f := f) a (j + 1)
    have hr := rowL_le (f := f) a j
    by_cases h : f (a + j) = true
    · simp only [rowL]; rw [if_pos h]; exact ih
    · have h3 : rowL f a (j + 1) = ((rowL f a j).1 + 1, max (rowL f a j).2 ((rowL f a j).1 + 1)) := by simp only [rowL]; rw [if_neg h]
      rw [h3] at h1 h2 ⊢
      simp only at h1 h2 ⊢
      have hd := gap_ge hp hk (a + (j + 1 - ((rowL f a j).1 + 1)))
      obtain ⟨n, e, hn, h5, h6⟩ := dist_at hp hs (a + (j + 1 - ((rowL f a j).1 + 1)))
      have h7 : (rowL f a j).1 + 1 ≤ n := by
        rcases Nat.lt_or_ge n ((rowL f a j).1 + 1) with h8 | h8
        · have := h2 (j + 1 - ((rowL f a j).1 + 1) + n) (by omega) (by omega)
          rw [← Nat.add_assoc, h5] at this; cases this
        · exact h8
      omega
theorem longest (hp : ∀ i, f (i + k) = f i) (hs : Some f k) (hk : 0 < k) (a : Nat) : (rowL f a (3 * k)).2 + 1 = gapTo f k k := by
  have h1 := rowL_gap hp hs hk a (3 * k)
  obtain ⟨i, hi, e⟩ := gapTo_at (f := f) (k := k) hk
  -- the same place, in the first round from a on
  obtain ⟨d, hd, x, ex⟩ : ∃ d, d < k ∧ ∃ x, (a + d) = i + x * k ∨ (a + d) + x * k = i := by
    refine ⟨(i + k - a % k) % k, Nat.mod_lt _ hk, ?_⟩
    have ha := Nat.div_add_mod a k
    have hm := Nat.mod_lt a hk
    rw [Nat.mul_comm] at ha
    by_cases hc : a % k ≤ i
    · have e1 : (i + k - a % k) % k = i - a % k := by
        rw [show i + k - a % k = i - a % k + k by omega, Nat.add_mod_right, Nat.mod_eq_of_lt (by omega)]
      exact ⟨a / k, .inl (by rw [e1]; omega)⟩
    · have e1 : (i + k - a % k) % k = i + k - a % k := Nat.mod_eq_of_lt (by omega)
      exact ⟨a / k + 1, .inl (by rw [e1, Nat.succ_mul]; omega)⟩
  have e2 : dist f (a + d) k = gapTo f k k := by
    rcases ex with ex | ex
    · rw [ex, dist_shift hp]; exact e
    · rw [← ex, dist_shift hp] at e; exact e
  obtain ⟨n, e3, hn, _, h6⟩ := dist_at hp hs (a + d)
  have h7 := rowL_run (f := f) a d n h6
  have h8 := rowL_le (f := f) a (d + n)
  have h9 := rowL_mono (f := f) a (d + n) (3 * k - (d + n))
  rw [show d + n + (3 * k - (d + n)) = 3 * k by omega] at h9
  omega

/-! ### Tables -/
/-- Whose a tick is. -/
def own (T : List Int) (t : Nat) : Int := T.getD (t % T.length) 0
def mine (T : List Int) (p : Int) (t : Nat) : Bool := decide (own T t = p)
theorem mine_per (T : List Int) (p : Int) (i : Nat) : mine T p (i + T.length) = mine T p i := by simp [mine, own]
theorem own_mem {T : List Int} (h : 0 < T.length) (t : Nat) : own T t ∈ T := by
  have := Nat.mod_lt t h
  unfold own
  rw [List.getD_eq_getElem?_getD, List.getElem?_eq_getElem this]
  exact List.getElem_mem _
theorem some_iff {T : List Int} {p : Int} : Some (mine T p) T.length ↔ p ∈ T := by
  constructor
  · rintro ⟨j, h1, h2⟩
    have := own_mem (T := T) (by omega) j
    simp only [mine, decide_eq_true_eq] at h2
    rw [h2] at this; exact this
  · intro h
    obtain ⟨j, hj, e⟩ := List.mem_iff_getElem.1 h
    refine ⟨j, hj, ?_⟩
    simp [mine, own, Nat.mod_eq_of_lt hj, hj, e]
theorem cnt_pos {T : List Int} {p : Int} : 0 < cw (mine T p) 0 T.length ↔ p ∈ T := by
  rw [cw_pos, ← some_iff]; simp [Some]
/-- How many ahead of a tick. -/
def aheadT (T : List Int) (p : Int) (t : Int) : Int := cw (mine T p) 0 t.toNat
def count (T : List Int) (p a b : Int) : Int := max 0 (aheadT T p b - aheadT T p a)
theorem count_le (T : List Int) (p a b : Int) (h : b ≤ a) : count T p a b = 0 := by
  have := cw_mono (f := mine T p) 0 (show b.toNat ≤ a.toNat by omega)
  unfold count aheadT; omega
theorem count_lt (T : List Int) (p a b : Int) (h : a ≤ b) : count T p a b = aheadT T p b - aheadT T p a := by
  have := cw_mono (f := mine T p) 0 (show a.toNat ≤ b.toNat by omega)
  unfold count aheadT; omega
theorem count_nat (T : List Int) (p : Int) (a n : Nat) : count T p a ((a : Int) + n) = cw (mine T p) a n := by
  rw [count_lt _ _ _ _ (by omega)]
  unfold aheadT
  have h := cw_add (f := mine T p) 0 a n
  rw [Nat.zero_add] at h
  rw [show ((a : Int) + n).toNat = a + n by omega, Int.toNat_natCast, h]
  omega
theorem ahead_bd (T : List Int) (p t : Int) : 0 ≤ aheadT T p t ∧ (0 ≤ t → aheadT T p t ≤ t) ∧ (t ≤ 0 → aheadT T p t = 0) := by
  have := cw_le (f := mine T p) 0 t.toNat
  refine ⟨by unfold aheadT; omega, fun h => by unfold aheadT; omega, fun h => ?_⟩
  unfold aheadT; rw [show t.toNat = 0 by omega]; rfl
def gap (T : List Int) (p : Int) : Nat := if p ∈ T then gapTo (mine T p) T.length T.length else 0
/-- The tick of a slot: and what is wrong. -/
def nth (T : List Int) (p a n : Int) : Int × Int :=
  if a < 0 ∨ n < 0 then (0, 1)
  else if ¬ p ∈ T then (0, 17)
  else if 4611686018427387904 < a ∨ 4611686018427387904 < n then (0, 2)
  else if (4611686018427387904 - a.toNat) / T.length < n.toNat / cw (mine T p) 0 T.length then (0, 2)
  else if 4611686018427387904 < seek (mine T p) (a.toNat + n.toNat / cw (mine T p) 0 T.length * T.length) (n.toNat % cw (mine T p) 0 T.length) T.length then (0, 2)
  else (seek (mine T p) (a.toNat + n.toNat / cw (mine T p) 0 T.length * T.length) (n.toNat % cw (mine T p) 0 T.length) T.length, 0)
theorem seek_at {T : List Int} {p : Int} (hm : p ∈ T) (a n : Nat) : mine T p (seek (mine T p) (a + n / cw (mine T p) 0 T.length * T.length) (n % cw (mine T p) 0 T.length) T.length) = true ∧
    a + n / cw (mine T p) 0 T.length * T.length ≤ seek (mine T p) (a + n / cw (mine T p) 0 T.length * T.length) (n % cw (mine T p) 0 T.length) T.length ∧
    cw (mine T p) a (seek (mine T p) (a + n / cw (mine T p) 0 T.length * T.length) (n % cw (mine T p) 0 T.length) T.length - a) = n := by
  have hc := cnt_pos.2 hm
  have hl := Nat.mod_lt n hc
  obtain ⟨h1, h2, _, h4⟩ := seek_spec (f := mine T p) T.length (a + n / cw (mine T p) 0 T.length * T.length) (n % cw (mine T p) 0 T.length) (by rw [cw_full (mine_per T p) (a + n / cw (mine T p) 0 T.length * T.length)]; exact hl)
  refine ⟨h1, h2, ?_⟩
  generalize seek (mine T p) (a + n / cw (mine T p) 0 T.length * T.length) (n % cw (mine T p) 0 T.length) T.length = u at *
  have h5 := cw_add (f := mine T p) a (n / cw (mine T p) 0 T.length * T.length) (u - (a + n / cw (mine T p) 0 T.length * T.length))
  rw [h4, cw_mul (mine_per T p)] at h5
  rw [show u - a = n / cw (mine T p) 0 T.length * T.length + (u - (a + n / cw (mine T p) 0 T.length * T.length)) by omega, h5, Nat.mul_comm]
  exact Nat.div_add_mod n _
theorem seek_ge {T : List Int} {p : Int} (hm : p ∈ T) (a n : Nat) : a + n ≤ seek (mine T p) (a + n / cw (mine T p) 0 T.length * T.length) (n % cw (mine T p) 0 T.length) T.length := by
  obtain ⟨_, h2, h3⟩ := seek_at hm a n
  have := cw_le (f := mine T p) a (seek (mine T p) (a + n / cw (mine T p) 0 T.length * T.length) (n % cw (mine T p) 0 T.length) T.length - a)
  omega
theorem nth_at {T : List Int} {p : Int} {a t : Nat} (hl : T.length ≤ 64) (ha : a ≤ 1152921504606846976) (h1 : a ≤ t) (h2 : t < a + 3 * T.length) (hm : mine T p t = true) : nth T p a (cw (mine T p) a (t - a) : Nat) = ((t : Int), 0) := by
  have hk : 0 < T.length := by omega
  have hin : p ∈ T := by
    have := own_mem hk t
    simp only [mine, decide_eq_true_eq] at hm
    rw [hm] at this; exact this
  have hc := cnt_pos.2 hin
  have hle := cw_le (f := mine T p) a (t - a)
  obtain ⟨g1, g2, g3⟩ := seek_at hin a (cw (mine T p) a (t - a))
  have hu := at_unique (t := a) g1 hm (by omega) h1 g3
  unfold nth
  rw [if_neg (by omega), if_neg (by simpa using hin), if_neg (by omega), Int.toNat_natCast, Int.toNat_natCast, hu]
  have hrounds : cw (mine T p) a (t - a) / cw (mine T p) 0 T.length ≤ 192 := by
    have := Nat.div_le_self (cw (mine T p) a (t - a)) (cw (mine T p) 0 T.length)
    omega
  have hbig : 192 ≤ (4611686018427387904 - a) / T.length := by
    rw [Nat.le_div_iff_mul_le hk]
    have : 192 * T.length ≤ 192 * 64 := Nat.mul_le_mul_left _ hl
    omega
  rw [if_neg (by omega), if_neg (by omega)]
/-- All partitions together. -/
def sumP (T : List Int) (g : Int → Int) : Nat → Int
  | 0 => 0
  | m + 1 => sumP T g m + g m
theorem sum_one (T : List Int) (t : Nat) : ∀ m : Nat, (sumP T (fun p => if mine T p t then 1 else 0) m) = if 0 ≤ own T t ∧ own T t < m then 1 else 0 := by
  intro m
  induction m with
  | zero => simp only [sumP]; rw [if_neg (by omega)]
  | succ m ih =>
    show sumP T (fun p => if mine T p t then 1 else 0) m + (if mine T m t then 1 else 0) = _
    rw [ih]
    by_cases h : own T t = m
    · have h1 : mine T m t = true := by simp [mine, h]
      rw [if_pos h1, if_neg (by omega), if_pos (by omega)]; rfl
    · have h1 : ¬ mine T m t = true := by simp [mine, h]
      rw [if_neg h1]
      by_cases h2 : 0 ≤ own T t ∧ own T t < m
      · rw [if_pos h2, if_pos (by omega)]; rfl
      · rw [if_neg h2, if_neg (by omega)]; rfl
theorem sum_add (T : List Int) (g h : Int → Int) : ∀ m : Nat, sumP T (fun p => g p + h p) m = sumP T g m + sumP T h m := by
  intro m
  induction m with
  | zero => rfl
  | succ m ih => simp only [sumP, ih]; omega
theorem sum_sub (T : List Int) (g h : Int → Int) : ∀ m : Nat, sumP T (fun p => g p - h p) m = sumP T g m - sumP T h m := by
  intro m
  induction m with
  | zero => rfl
  | succ m ih => simp only [sumP, ih]; omega
theorem sum_congr (T : List Int) {g h : Int → Int} (e : ∀ p : Nat, g p = h p) : ∀ m : Nat, sumP T g m = sumP T h m := by
  intro m
  induction m with
  | zero => rfl
  | succ m ih => show sumP T g m + g m = sumP T h m + h m; rw [ih, e]
theorem sum_zero (T : List Int) : ∀ m : Nat, sumP T (fun _ => 0) m = 0 := by
  intro m
  induction m with
  | zero => rfl
  | succ m ih => show sumP T (fun _ => 0) m + 0 = 0; rw [ih]; rfl
theorem sum_cw (T : List Int) (parts : Nat) (hT : ∀ x ∈ T, 0 ≤ x ∧ x < parts) (hk : 0 < T.length) (a : Nat) : ∀ n : Nat, sumP T (fun p => (cw (mine T p) a n : Nat)) parts = n := by
  intro n
  induction n with
  | zero => exact (sum_congr T (fun p => rfl) parts).trans (sum_zero T parts)
  | succ n ih =>
    have h1 := sum_congr T (g := fun p => ((cw (mine T p) a (n + 1) : Nat) : Int)) (h := fun p => ((cw (mine T p) a n : Nat) : Int) + (if mine T p (a + n) then 1 else 0)) (fun p => by simp only [cw]; split <;> simp) parts
    rw [h1, sum_add, ih, sum_one, if_pos (hT _ (own_mem hk _))]
    omega
theorem sum_count (T : List Int) (parts : Nat) (hT : ∀ x ∈ T, 0 ≤ x ∧ x < parts) (hk : 0 < T.length) (a c : Int) (h : a ≤ c) : sumP T (fun p => count T p a c) parts = max 0 c - max 0 a := by
  have h1 := sum_congr T (g := fun p => count T p a c) (h := fun p => aheadT T p c - aheadT T p a) (fun p => count_lt T _ a c h) parts
  rw [h1, sum_sub]
  unfold aheadT
  rw [sum_cw T parts hT hk, sum_cw T parts hT hk]
  omega
theorem count_add (T : List Int) (p a b c : Int) (h1 : a ≤ b) (h2 : b ≤ c) : count T p a c = count T p a b + count T p b c := by
  rw [count_lt _ _ _ _ (by omega), count_lt _ _ _ _ h1, count_lt _ _ _ _ h2]; omega
theorem sum_bd (T : List Int) (a c : Int) (h : a ≤ c) (hk : 0 < T.length) (parts : Nat) (hT : ∀ x ∈ T, 0 ≤ x ∧ x < parts) : ∀ m, m ≤ parts → 0 ≤ sumP T (fun p => count T p a c) m ∧ sumP T (fun p => count T p a c) m ≤ max 0 c - max 0 a := by
  intro m hm
  rw [← sum_count T parts hT hk a c h]
  obtain ⟨d, rfl⟩ := Nat.le.dest hm
  clear hm hT
  have h0 : ∀ m, 0 ≤ sumP T (fun p => count T p a c) m := by
    intro m
    induction m with
    | zero => exact Int.le_refl _
    | succ m ih => simp only [sumP]; have : 0 ≤ count T m a c := by unfold count; omega
                   omega
  refine ⟨h0 m, ?_⟩
  induction d with
  | zero => exact Int.le_refl _
  | succ d ih =>
    rw [← Nat.add_assoc]
    simp only [sumP]
    have : 0 ≤ count T (m + d : Nat) a c := by unfold count; omega
    omega
end Go.SlotsP
