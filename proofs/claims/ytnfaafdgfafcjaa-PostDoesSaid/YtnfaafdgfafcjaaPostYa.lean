/- The plain law of PostFair (layer 10). -/
import Derived.Test.YtnfaafdgfafcjaaPostX
namespace Go.Proofs.Ytnfaafdgfafcjaa.Lane
open Go.RowKit Go.Fb
set_option linter.unusedVariables false
def dist (c q n : Nat) : Nat := if c ≤ q then q - c else q + n - c
structure Fair (n q : Nat) (stand : List Int) (Ls : List Lane) (c got i : Nat) : Prop where
  len : Ls.length = n
  few : n ≤ 9
  cur : c < n
  hq : q < n
  good : ∀ L ∈ Ls, L.waits = [] ∧ L.room ≤ 64 ∧ L.vals.length ≤ 64 ∧ 0 ≤ L.taken ∧ L.taken ≤ 65535
  at_ : (laneAt Ls (q : Int)).vals = stand.drop got
  time : i + dist c q n + 1 ≤ (got + 1) * n
theorem takeL_one {L : Lane} {v : Int} {rest : List Int} (hv : L.vals = v :: rest) (hw : L.waits = []) : takeL L = ({ L with vals := rest, taken := min (L.taken + 1) 65535 }, tookV v (0, 0) false 0) := by
  obtain ⟨r, vs, ws, t, d⟩ := L
  simp only at hv hw
  subst hv
  subst hw
  rfl
theorem mod_two {x n : Nat} (h : x < n + n) : x % n = if x < n then x else x - n := by
  by_cases c : x < n
  · rw [if_pos c, Nat.mod_eq_of_lt c]
  · rw [if_neg c, Nat.mod_eq_sub_mod (by omega), Nat.mod_eq_of_lt (by omega)]
section
variable {n q : Nat} {stand : List Int} {Ls : List Lane} {c got i : Nat}
theorem Fair.put (h : Fair n q stand Ls c got i) (l v : Int) (hl : l ≠ q) : Fair n q stand (putP Ls l v).1 c got i := by
  unfold putP
  by_cases hr : 0 ≤ l ∧ l < (Ls.length : Int)
  · rw [if_pos hr]
    obtain ⟨k, rfl, hk⟩ : ∃ k : Nat, l = k ∧ k < Ls.length := ⟨l.toNat, by omega, by omega⟩
    have hkq : k ≠ q := fun e => hl (by rw [e])
    rw [laneAt_eq hk, Int.toNat_natCast]
    refine ⟨by rw [List.length_set]; exact h.len, h.few, h.cur, h.hq, fun L hL => ?_, ?_, h.time⟩
    · rcases List.mem_or_eq_of_mem_set hL with hL | rfl
      · exact h.good L hL
      · have := h.good _ (List.getElem_mem hk)
        unfold putL
        split
        · exact this
        · rename_i hc
          refine ⟨this.1, this.2.1, ?_, this.2.2.2⟩
          simp only [List.length_append, List.length_singleton]
          have := this.2.1
          omega
    · rw [← h.at_]
      have hq := h.hq
      have hl := h.len
      rw [laneAt_eq (by rw [List.length_set]; omega), laneAt_eq (by omega), List.getElem_set_ne hkq]
  · rw [if_neg hr]; exact h
theorem Fair.take (h : Fair n q stand Ls c got i) (hg : got < stand.length) : ∃ (j : Nat) (v : Int) (Ls' : List Lane) (c' : Nat), takeP Ls c = (Ls', (c' : Int), tookN v j (0, 0) false 0) ∧ j < n ∧ (j = q → v = stand[got] ∧ Fair n q stand Ls' c' (got + 1) (i + 1)) ∧ (j ≠ q → Fair n q stand Ls' c' got (i + 1)) := by
  have hlen := h.len
  have hcn := h.cur
  have hqn := h.hq
  have hql : q < Ls.length := by omega
  have hat := h.at_
  rw [laneAt_eq hql] at hat
  have hne : 0 < Ls[q].vals.length := by rw [hat, List.length_drop]; omega
  have hd : dist c q n < n := by unfold dist; split <;> omega
  have hmod : ∀ k, k < n → ((c : Int) + (k : Int)) % (Ls.length : Int) = ((if c + k < n then c + k else c + k - n : Nat) : Int) := fun k hk => by
    rw [hlen, show (c : Int) + (k : Int) = ((c + k : Nat) : Int) by omega, ← Int.natCast_emod, mod_two (by omega)]
  have hfull : fullAt Ls c (dist c q n) = true := by
    unfold fullAt
    rw [hmod _ hd, show (if c + dist c q n < n then c + dist c q n else c + dist c q n - n) = q by unfold dist; split <;> split <;> omega, laneAt_eq hql]
    exact decide_eq_true hne
  have hex : ∃ x ∈ List.range Ls.length, fullAt Ls c x = true := ⟨dist c q n, List.mem_range.2 (by omega), hfull⟩
  have hkl := List.findIdx_lt_length_of_exists hex
  have hkt := List.findIdx_getElem (w := hkl)
  have hkf : ∀ j, j < (List.range Ls.length).findIdx (fullAt Ls c) → fullAt Ls c j = false := fun j hj => by
    have := List.not_of_lt_findIdx hj
    rw [List.getElem_range] at this
    exact this
  rw [List.getElem_range] at hkt
  rw [List.length_range] at hkl
  have hkd : (List.range Ls.length).findIdx (fullAt Ls c) ≤ dist c q n := by
    refine Nat.le_of_not_lt fun hlt => ?_
    rw [hkf _ hlt] at hfull
    cases hfull
  generalize (List.range Ls.length).findIdx (fullAt Ls c) = k at *
  obtain ⟨j, hj⟩ : ∃ j, j = if c + k < n then c + k else c + k - n := ⟨_, rfl⟩
  have hjn : j < n := by rw [hj]; split <;> omega
  have hjl : j < Ls.length := by omega
  have hmk := hmod k (by omega)
  rw [← hj] at hmk
  have E := takeP_at hkl hkt hkf hmk hjl
  have hjf : 0 < Ls[j].vals.length := by
    unfold fullAt at hkt
    rw [hmk, laneAt_eq hjl] at hkt
    exact of_decide_eq_true hkt
  have hgj := h.good _ (List.getElem_mem hjl)
  obtain ⟨v, rest, hv⟩ : ∃ v rest, Ls[j].vals = v :: rest := by
    cases hc : Ls[j].vals with
    | nil => rw [hc] at hjf; cases hjf
    | cons v rest => exact ⟨v, rest, rfl⟩
  have ht1 : takeL Ls[j] = ({ Ls[j] with vals := rest, taken := min (Ls[j].taken + 1) 65535 }, tookV v (0, 0) false 0) := takeL_one hv hgj.1
  have ht3 : takeV Ls[j] = (v, (0, 0), false, 0) := by
    unfold takeV
    rw [hv, hgj.1]
    try rfl
  have ht2 : takeT Ls[j] j = tookN v j (0, 0) false 0 := by unfold takeT; rw [ht3]
  rw [ht1, ht2] at E
  have hc' : ((j : Int) + 1) % (Ls.length : Int) = ((if j + 1 < n then j + 1 else j + 1 - n : Nat) : Int) := by
    rw [hlen, show (j : Int) + 1 = ((j + 1 : Nat) : Int) by omega, ← Int.natCast_emod, mod_two (by omega)]
  rw [hc'] at E
  have hgood : ∀ L ∈ Ls.set j { Ls[j] with vals := rest, taken := min (Ls[j].taken + 1) 65535 }, L.waits = [] ∧ L.room ≤ 64 ∧ L.vals.length ≤ 64 ∧ 0 ≤ L.taken ∧ L.taken ≤ 65535 := by
    intro L hL
    rcases List.mem_or_eq_of_mem_set hL with hL | rfl
    · exact h.good L hL
    · have h64 := hgj.2.2.1
      rw [hv, List.length_cons] at h64
      exact ⟨hgj.1, hgj.2.1, by show rest.length ≤ 64; omega, by show 0 ≤ min (Ls[j].taken + 1) 65535; omega, by show min (Ls[j].taken + 1) 65535 ≤ 65535; omega⟩
  have htime := h.time
  refine ⟨j, v, _, _, E, hjn, fun e => ?_, fun e => ?_⟩
  · subst e
    rw [hat] at hv
    rw [List.drop_eq_getElem_cons hg] at hv
    injection hv with hv1 hv2
    refine ⟨hv1.symm, by rw [List.length_set]; exact hlen, h.few, by split <;> omega, hjn, hgood, ?_, ?_⟩
    · rw [laneAt_eq (by rw [List.length_set]; exact hjl), List.getElem_set_self]
      exact hv2.symm
    · have e1 : dist (if j + 1 < n then j + 1 else j + 1 - n) j n = n - 1 := by unfold dist; split <;> split <;> omega
      rw [e1, Nat.add_mul, Nat.one_mul]
      omega
  · refine ⟨by rw [List.length_set]; exact hlen, h.few, by split <;> omega, hqn, hgood, ?_, ?_⟩
    · rw [laneAt_eq (by rw [List.length_set]; exact hql), List.getElem_set_ne e]
      exact hat
    · have e1 : dist (if j + 1 < n then j + 1 else j + 1 - n) q n + 1 ≤ dist c q n := by
        have hk2 : k ≠ dist c q n := fun ek => e (by rw [hj, ek]; unfold dist; split <;> split <;> omega)
        have hk3 : k < dist c q n := by omega
        revert hk3
        rw [hj]
        unfold dist
        split <;> split <;> split <;> split <;> omega
      omega
end
end Go.Proofs.Ytnfaafdgfafcjaa.Lane
