/- What Decode takes may be, and is its bytes (layer 14): the whole. No program in sight. -/
import Derived.Test.YtaefgljpdpigeaaConfY
namespace Go.Proofs.Ytaefgljpdpigeaa.Conf
open Go.RowKit Go.Fb Go.CodeP Go.BytesP Go.ReaderP
set_option linter.unusedVariables false
theorem lab_err {b : List UInt8} {p : Nat} {e : Int × Int} (hp : p ≤ b.length) (h : labD b p = .error e) : Bad b e := by
  unfold labD at h
  cases h1 : numD b 1 (countF 8) p with
  | error x => rw [h1] at h; cases h; exact num_err hp h1
  | ok q => obtain ⟨v, p1⟩ := q; rw [h1] at h; obtain ⟨rfl, g1, -⟩ := num_ok h1; exact labels_err _ _ _ _ _ g1 h
theorem count_zero {v : Nat} {most : Int} (h : countF most v = 0) : 1 ≤ v ∧ (v : Int) ≤ most := many_zero h
theorem lab_ok {b : List UInt8} {p p' : Nat} {l : List Int} (hp : p ≤ b.length) (h : labD b p = .ok (l, p')) : p' ≤ b.length ∧ b.drop p = le l.length 1 ++ encL l ++ b.drop p' ∧ labE l = (0, 0) ∧ ∀ x ∈ l, 0 ≤ x ∧ x ≤ 18446744073709551615 := by
  unfold labD at h
  cases h1 : numD b 1 (countF 8) p with
  | error x => rw [h1] at h; cases h
  | ok q =>
    obtain ⟨v, p1⟩ := q
    rw [h1] at h
    obtain ⟨rfl, g1, g2, g3, g4⟩ := num_ok h1
    have g2 := count_zero g2
    obtain ⟨l1, e, e2, e3, e4, e5, e6⟩ := labels_ok _ _ _ _ _ _ g1 h
    rw [List.nil_append] at e
    subst e
    refine ⟨e3, by rw [g4, e4, e2, List.append_assoc], labE_ok (by omega) (by omega) (fun j h1 h2 => ?_), e5⟩
    have h3 := e6 j h2
    rw [List.nil_append] at h3
    unfold labF at h3
    have hl : (l.take j).length = j := by rw [List.length_take]; omega
    rw [hl, if_neg (by omega)] at h3
    have f1 : (l.take j).getD (j - 1) 0 = l.getD (j - 1) 0 := by rw [List.getD_eq_getElem?_getD, List.getD_eq_getElem?_getD, List.getElem?_take, if_pos (by omega)]
    have f2 : ((l[j].toNat : Nat) : Int) = l.getD j 0 := by
      have := (e5 _ (List.getElem_mem h2)).1
      rw [List.getD_eq_getElem?_getD, List.getElem?_eq_getElem h2]; simp; omega
    rw [f1, f2] at h3
    exact h3
theorem tab_err {parts : Int} {b : List UInt8} {p : Nat} {e : Int × Int} (hp : p ≤ b.length) (h : tabD b parts p = .error e) : Bad b e := by
  unfold tabD at h
  cases h1 : numD b 1 (countF 64) p with
  | error x => rw [h1] at h; cases h; exact num_err hp h1
  | ok q => obtain ⟨v, p1⟩ := q; rw [h1] at h; obtain ⟨rfl, g1, -⟩ := num_ok h1; exact table_err _ _ _ _ _ g1 h
theorem tab_ok {parts : Int} {b : List UInt8} {p p' : Nat} {l : List Int} (hp : p ≤ b.length) (h : tabD b parts p = .ok (l, p')) : p' ≤ b.length ∧ b.drop p = le l.length 1 ++ encT l ++ b.drop p' ∧ (1 ≤ l.length ∧ l.length ≤ 64) ∧ ∀ x ∈ l, 0 ≤ x ∧ x < parts := by
  unfold tabD at h
  cases h1 : numD b 1 (countF 64) p with
  | error x => rw [h1] at h; cases h
  | ok q =>
    obtain ⟨v, p1⟩ := q
    rw [h1] at h
    obtain ⟨rfl, g1, g2, g3, g4⟩ := num_ok h1
    have g2 := count_zero g2
    obtain ⟨l1, e, e2, e3, e4, e5⟩ := table_ok _ _ _ _ _ _ g1 h
    rw [List.nil_append] at e
    subst e
    exact ⟨e3, by rw [g4, e4, e2, List.append_assoc], by omega, e5⟩
theorem four_err {b : List UInt8} {p : Nat} {e : Int × Int} (hp : p ≤ b.length) (h : fourD b p = .error e) : Bad b e := by
  unfold fourD at h
  cases h1 : numD b 2 (rangeF 2) p with
  | error x => rw [h1] at h; cases h; exact num_err hp h1
  | ok q =>
    obtain ⟨v1, p1⟩ := q; rw [h1] at h; obtain ⟨rfl, g1, -⟩ := num_ok h1
    simp only at h
    cases h2 : numD b 1 (rangeF 3) (p + 2) with
    | error x => rw [h2] at h; cases h; exact num_err g1 h2
    | ok q =>
      obtain ⟨v2, p2⟩ := q; rw [h2] at h; obtain ⟨rfl, g2, -⟩ := num_ok h2
      simp only at h
      cases h3 : numD b 1 (rangeF 4) (p + 2 + 1) with
      | error x => rw [h3] at h; cases h; exact num_err g2 h3
      | ok q =>
        obtain ⟨v3, p3⟩ := q; rw [h3] at h; obtain ⟨rfl, g3, -⟩ := num_ok h3
        simp only at h
        cases h4 : numD b 2 (rangeF 5) (p + 2 + 1 + 1) with
        | error x => rw [h4] at h; cases h; exact num_err g3 h4
        | ok q => rw [h4] at h; cases h
theorem four_ok {b : List UInt8} {p p' v1 v2 v3 v4 : Nat} (hp : p ≤ b.length) (h : fourD b p = .ok ((v1, v2, v3, v4), p')) : p' ≤ b.length ∧ b.drop p = (le v1 2 ++ (le v2 1 ++ (le v3 1 ++ le v4 2))) ++ b.drop p' ∧ rangedE 2 v1 = 0 ∧ rangedE 3 v2 = 0 ∧ rangedE 4 v3 = 0 ∧ rangedE 5 v4 = 0 := by
  unfold fourD at h
  cases h1 : numD b 2 (rangeF 2) p with
  | error x => rw [h1] at h; cases h
  | ok q =>
    obtain ⟨w1, p1⟩ := q; rw [h1] at h; obtain ⟨rfl, g1, k1, -, m1⟩ := num_ok h1
    simp only at h
    cases h2 : numD b 1 (rangeF 3) (p + 2) with
    | error x => rw [h2] at h; cases h
    | ok q =>
      obtain ⟨w2, p2⟩ := q; rw [h2] at h; obtain ⟨rfl, g2, k2, -, m2⟩ := num_ok h2
      simp only at h
      cases h3 : numD b 1 (rangeF 4) (p + 2 + 1) with
      | error x => rw [h3] at h; cases h
      | ok q =>
        obtain ⟨w3, p3⟩ := q; rw [h3] at h; obtain ⟨rfl, g3, k3, -, m3⟩ := num_ok h3
        simp only at h
        cases h4 : numD b 2 (rangeF 5) (p + 2 + 1 + 1) with
        | error x => rw [h4] at h; cases h
        | ok q =>
          obtain ⟨w4, p4⟩ := q; rw [h4] at h; obtain ⟨rfl, g4, k4, -, m4⟩ := num_ok h4
          cases h
          refine ⟨g4, ?_, k1, k2, k3, k4⟩
          rw [m1, m2, m3, m4]
          simp only [List.append_assoc]
theorem locks_of {v : Int} (h : rangedE 4 v = 0) : 0 ≤ v ∧ v ≤ 8 := ranged_zero h
theorem prs_err {parts locks : Int} (hl0 : 0 ≤ locks) (hl8 : locks ≤ 8) {b : List UInt8} {p : Nat} {e : Int × Int} (hp : p ≤ b.length) (h : prsD b parts locks p = .error e) : Bad b e := by
  unfold prsD at h
  cases h1 : numD b 1 (countF 32) p with
  | error x => rw [h1] at h; cases h; exact num_err hp h1
  | ok q => obtain ⟨v, p1⟩ := q; rw [h1] at h; obtain ⟨rfl, g1, -⟩ := num_ok h1; exact procs_err hl0 hl8 _ _ _ _ _ g1 h
theorem prs_ok {parts locks : Int} (hl0 : 0 ≤ locks) (hl8 : locks ≤ 8) {b : List UInt8} {p p' : Nat} {l : List (Int × List Ins)} (hp : p ≤ b.length) (h : prsD b parts locks p = .ok (l, p')) : p' ≤ b.length ∧ b.drop p = le l.length 1 ++ encPs l ++ b.drop p' ∧ (1 ≤ l.length ∧ l.length ≤ 32) ∧ ∀ x ∈ l, (0 ≤ x.1 ∧ x.1 < parts) ∧ may x.2 locks = (0, 0) ∧ InV x.2 := by
  unfold prsD at h
  cases h1 : numD b 1 (countF 32) p with
  | error x => rw [h1] at h; cases h
  | ok q =>
    obtain ⟨v, p1⟩ := q
    rw [h1] at h
    obtain ⟨rfl, g1, g2, g3, g4⟩ := num_ok h1
    have g2 := count_zero g2
    obtain ⟨l1, e, e2, e3, e4, e5⟩ := procs_ok hl0 hl8 _ _ _ _ _ _ g1 h
    rw [List.nil_append] at e
    subst e
    exact ⟨e3, by rw [g4, e4, e2, List.append_assoc], by omega, e5⟩
theorem many_of {n : Nat} {m : Int} (h1 : 1 ≤ n) (h2 : (n : Int) ≤ m) : manyE n m = 0 := by unfold manyE; rw [if_neg (by omega), if_neg (by omega)]
theorem new_of {T : List Int} {parts : Int} (h1 : 1 ≤ parts) (h2 : parts ≤ 8) (h3 : 1 ≤ T.length) (h4 : T.length ≤ 64) (h5 : ∀ x ∈ T, 0 ≤ x ∧ x < parts) : (Slots.newE T parts).1 = 0 := by
  unfold Slots.newE
  rw [if_neg (by omega), if_neg (by omega)]
  have : T.findIdx (Slots.bad parts) = T.length := List.findIdx_eq_length.2 fun x hx => by
    have := h5 x hx
    simp [Slots.bad]
    omega
  rw [this, if_neg (Nat.lt_irrefl _)]
theorem body_err {b : List UInt8} {p : Nat} {e : Int × Int} (hp : p ≤ b.length) (h : bodyD b p = .error e) : Bad b e := by
  unfold bodyD at h
  cases h1 : labD b p with
  | error x => rw [h1] at h; cases h; exact lab_err hp h1
  | ok q =>
    obtain ⟨ls, p1⟩ := q
    rw [h1] at h
    have a1 := (lab_ok hp h1).1
    simp only at h
    cases h2 : tabD b ls.length p1 with
    | error x => rw [h2] at h; cases h; exact tab_err a1 h2
    | ok q =>
      obtain ⟨tb, p2⟩ := q
      rw [h2] at h
      have a2 := (tab_ok a1 h2).1
      simp only at h
      cases h3 : fourD b p2 with
      | error x => rw [h3] at h; cases h; exact four_err a2 h3
      | ok q =>
        obtain ⟨⟨v1, v2, v3, v4⟩, p3⟩ := q
        rw [h3] at h
        obtain ⟨a3, -, -, -, k3, -⟩ := four_ok a2 h3
        have hk := locks_of k3
        simp only at h
        cases h4 : prsD b ls.length v3 p3 with
        | error x => rw [h4] at h; cases h; exact prs_err hk.1 hk.2 a3 h4
        | ok q => rw [h4] at h; cases h
theorem body_ok {b : List UInt8} {p p' : Nat} {c : Cf} (hp : p ≤ b.length) (h : bodyD b p = .ok (c, p')) : p' ≤ b.length ∧ b.drop p = bodyB c ++ b.drop p' ∧ mayC c = (0, 0) ∧ Fits c := by
  unfold bodyD at h
  cases h1 : labD b p with
  | error x => rw [h1] at h; cases h
  | ok q =>
    obtain ⟨ls, p1⟩ := q
    rw [h1] at h
    obtain ⟨a1, b1, c1, d1⟩ := lab_ok hp h1
    simp only at h
    cases h2 : tabD b ls.length p1 with
    | error x => rw [h2] at h; cases h
    | ok q =>
      obtain ⟨tb, p2⟩ := q
      rw [h2] at h
      obtain ⟨a2, b2, c2, d2⟩ := tab_ok a1 h2
      simp only at h
      cases h3 : fourD b p2 with
      | error x => rw [h3] at h; cases h
      | ok q =>
        obtain ⟨⟨v1, v2, v3, v4⟩, p3⟩ := q
        rw [h3] at h
        obtain ⟨a3, b3, k1, k2, k3, k4⟩ := four_ok a2 h3
        have hk := locks_of k3
        simp only at h
        cases h4 : prsD b ls.length v3 p3 with
        | error x => rw [h4] at h; cases h
        | ok q =>
          obtain ⟨ps, p4⟩ := q
          rw [h4] at h
          cases h
          obtain ⟨a4, b4, c4, d4⟩ := prs_ok hk.1 hk.2 a3 h4
          have hll := lab_len (l := ls) (by rw [c1])
          refine ⟨a4, ?_, ?_, ⟨d1, fun p hp => (d4 p hp).2.2⟩⟩
          · unfold bodyB
            simp only
            rw [b1, b2, b3, b4]
            simp only [List.append_assoc]
          · refine mayC_ok (c := ⟨ls, tb, v1, v2, v3, v4, ps⟩) ⟨by simp only; rw [c1], many_of c2.1 (by simp only; omega), new_of (by simp only; omega) (by simp only; omega) c2.1 c2.2 d2⟩ (fun j hj => ?_) (many_of c4.1 (by simp only; omega)) (fun j hj => ?_)
            · rcases (by omega : j = 0 ∨ j = 1 ∨ j = 2 ∨ j = 3 ∨ j = 4 ∨ j = 5) with rfl | rfl | rfl | rfl | rfl | rfl
              · rfl
              · rfl
              · exact k1
              · exact k2
              · exact k3
              · exact k4
            · obtain ⟨e1, e2, -⟩ := d4 _ (List.getElem_mem hj)
              have hj' : j < ps.length := hj
              have e1' : 0 ≤ (ps[j]'hj').1 ∧ (ps[j]'hj').1 < ls.length := e1
              have e3 : withinB (ps[j]'hj').1 0 ((ls.length : Int) - 1) = true := decide_eq_true (by omega)
              have e4 : procE ls.length v3 (ps[j]'hj') = 0 := by
                unfold procE
                rw [e3, if_pos rfl]
                exact congrArg Prod.fst e2
              exact e4
theorem dec_some {b : List UInt8} {c : Cf} (h : decD b = .ok c) : mayC c = (0, 0) ∧ Fits c ∧ encB c = b := by
  unfold decD at h
  split at h
  · cases h
  · cases h1 : markD b markB 0 with
    | error x => rw [h1] at h; cases h
    | ok p =>
      rw [h1] at h
      obtain ⟨a1, b1⟩ := mark_inv markB b 0 p (Nat.zero_le _) h1
      simp only at h
      cases h2 : bodyD b p with
      | error x => rw [h2] at h; cases h
      | ok q =>
        obtain ⟨c', p'⟩ := q
        rw [h2] at h
        simp only at h
        obtain ⟨a2, b2, a3, a4⟩ := body_ok a1 h2
        split at h
        · cases h
        · rename_i hlt
          cases h
          refine ⟨a3, a4, ?_⟩
          rw [List.drop_zero] at b1
          rw [encB_body, b1, b2, List.drop_of_length_le (by omega), List.append_nil]
theorem dec_bad {b : List UInt8} {e : Int × Int} (h : decD b = .error e) : Bad b e := by
  unfold decD at h
  split at h
  · cases h; exact ⟨by simp, by simp, by simp only; omega⟩
  · cases h1 : markD b markB 0 with
    | error x => rw [h1] at h; cases h; exact mark_err markB b 0 _ (Nat.zero_le _) h1
    | ok p =>
      rw [h1] at h
      obtain ⟨a1, b1⟩ := mark_inv markB b 0 p (Nat.zero_le _) h1
      simp only at h
      cases h2 : bodyD b p with
      | error x => rw [h2] at h; cases h; exact body_err a1 h2
      | ok q =>
        obtain ⟨c', p'⟩ := q
        rw [h2] at h
        simp only at h
        split at h
        · rename_i hlt; cases h; exact ⟨by simp, by simp, by simp only; omega⟩
        · cases h
end Go.Proofs.Ytaefgljpdpigeaa.Conf
