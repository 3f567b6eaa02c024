/- The walks of what tells whether lists are the same (layer 14): of numbers. Printed by wip/tools/mkEq14.py. -/
import Derived.Test.YtaefgljpdpigeaaConfV
namespace Go.Proofs.Ytaefgljpdpigeaa.Conf
open Go.RowKit Go.Fb Go.CodeP Go.BytesP Go.ReaderP
set_option linter.unusedVariables false
noncomputable def eqb {α : Type} (a b : α) : Bool := @decide (a = b) (Classical.propDecidable _)
theorem eqb_true {α : Type} {a b : α} (h : a = b) : eqb a b = true := by unfold eqb; simp [h]
theorem eqb_false {α : Type} {a b : α} (h : ¬ a = b) : eqb a b = false := by unfold eqb; simp [h]
theorem eqb_refl {α : Type} (a : α) : eqb a a = true := eqb_true rfl
theorem take_next {α : Type} {a b : List α} {j : Nat} (h1 : j < a.length) (h2 : j < b.length) (ht : a.take j = b.take j) (e : a[j] = b[j]) : a.take (j + 1) = b.take (j + 1) := by
  rw [List.take_succ_eq_append_getElem h1, List.take_succ_eq_append_getElem h2, ht, e]
theorem eq_u64 {w : World} {B : Nat} {A1 A2 : Option Addr} {n1 n2 c1 c2 : Nat} {l1 l2 : List Int} (h1 : SliceOf (Rep.int .u64) w B A1 n1 c1 l1) (h2 : SliceOf (Rep.int .u64) w B A2 n2 c2 l2) :
    Calls Try.prog 37 #[.slice A1 n1 c1, .slice A2 n2 c2] w fun e w' => e = .returned (.bool (eqb l1 l2)) ∧ New w w' := by
  have e1 := h1.len
  have e2 := h2.len
  have b1 := h1.bound
  have b2 := h2.bound
  by_cases hn : n1 = n2
  · subst hn
    have T1 := Lib.hid (fun j (a : j < l1.length) (b : j < l2.length) (ht : l1.take j = l2.take j) (e : l1[j] = l2[j]) => take_next a b ht e)
    have T2 := Lib.hid (fun j (a : j < l1.length) (b : j < l2.length) (e : ¬ l1[j] = l2[j]) => show eqb l1 l2 = false from eqb_false fun h => e (by subst h; rfl))
    have T3 := Lib.hid (fun (ht : l1.take n1 = l2.take n1) => show eqb l1 l2 = true from eqb_true (by rw [List.take_of_length_le (by omega), List.take_of_length_le (by omega)] at ht; exact ht))
    generalize eqb l1 l2 = res at *
    have H1 := Lib.hid h1
    have H2 := Lib.hid h2
    have E1 := Lib.hid e1
    have E2 := Lib.hid e2
    clear h1 h2 e1 e2
    go_enter Try.func37, Try.ntmps37
    go_wp2_with fail
    go_loopw [13] (fun s wr => ∃ j q : Nat, j ≤ n1 ∧ s = .int .i64 j ∧ wr = w.drewN q ∧ Hid (l1.take j = l2.take j)) (fun s _ => (n1 - intOf s).toNat)
    case atStart => exact ⟨0, 0, Nat.zero_le _, rfl, rfl, Lib.hid rfl⟩
    case round =>
      obtain ⟨j, q, hj, rfl, rfl, D⟩ := hrel
      by_cases hlt : j < n1
      · have a1 : j < l1.length := by have := E1.out; omega
        have a2 : j < l2.length := by have := E2.out; omega
        obtain ⟨g1, o1, rfl, -, hc1⟩ := H1.out.ints (by omega)
        obtain ⟨g2, o2, rfl, -, hc2⟩ := H2.out.ints (by omega)
        have x1 := hc1 j a1
        have x2 := hc2 j a2
        have D2 := Lib.hid (fun e => T1.out j a1 a2 D.out e)
        have D3 := Lib.hid (fun e => T2.out j a1 a2 e)
        have hlt' : (j : Int) < (n1 : Int) := by omega
        clear hc1 hc2
        generalize l1[j] = u at *
        generalize l2[j] = v at *
        by_cases he : u = v
        · subst he
          have D4 := Lib.hid (D2.out rfl)
          clear a1 a2
          go_wp2_with fail
          go_quiet (fail)
          go_wp2_with fail
          exact ⟨⟨j + 1, _, by omega, by go_num, rfl, D4⟩, by simp [intOf]; omega⟩
        · have E := Lib.hid (D3.out he)
          have he' : (u != v) = true := by simpa using he
          clear a1 a2 he
          go_wp2_with fail
          go_quiet (fail)
          go_wp2_with fail
          go_ret
          rw [E.out]
          exact ⟨rfl, ((Kept.refl _ _).drewN _).drewN _⟩
      · obtain rfl : j = n1 := by omega
        have E := Lib.hid (T3.out D.out)
        go_wp2_with fail
        go_ret
        rw [E.out]
        exact ⟨rfl, (Kept.refl _ _).drewN _⟩
  · have E := Lib.hid (show eqb l1 l2 = false from eqb_false fun h => hn (by rw [e1, e2, h]))
    have hn2 : ((n1 : Int) != (n2 : Int)) = true := by simp; omega
    clear h1 h2 e1 e2 hn
    go_enter Try.func37, Try.ntmps37
    go_wp2_with fail
    go_ret
    rw [E.out]
    exact ⟨rfl, Kept.refl _ _⟩
theorem eq_int {w : World} {B : Nat} {A1 A2 : Option Addr} {n1 n2 c1 c2 : Nat} {l1 l2 : List Int} (h1 : SliceOf (Rep.int .i64) w B A1 n1 c1 l1) (h2 : SliceOf (Rep.int .i64) w B A2 n2 c2 l2) :
    Calls Try.prog 38 #[.slice A1 n1 c1, .slice A2 n2 c2] w fun e w' => e = .returned (.bool (eqb l1 l2)) ∧ New w w' := by
  have e1 := h1.len
  have e2 := h2.len
  have b1 := h1.bound
  have b2 := h2.bound
  by_cases hn : n1 = n2
  · subst hn
    have T1 := Lib.hid (fun j (a : j < l1.length) (b : j < l2.length) (ht : l1.take j = l2.take j) (e : l1[j] = l2[j]) => take_next a b ht e)
    have T2 := Lib.hid (fun j (a : j < l1.length) (b : j < l2.length) (e : ¬ l1[j] = l2[j]) => show eqb l1 l2 = false from eqb_false fun h => e (by subst h; rfl))
    have T3 := Lib.hid (fun (ht : l1.take n1 = l2.take n1) => show eqb l1 l2 = true from eqb_true (by rw [List.take_of_length_le (by omega), List.take_of_length_le (by omega)] at ht; exact ht))
    generalize eqb l1 l2 = res at *
    have H1 := Lib.hid h1
    have H2 := Lib.hid h2
    have E1 := Lib.hid e1
    have E2 := Lib.hid e2
    clear h1 h2 e1 e2
    go_enter Try.func38, Try.ntmps38
    go_wp2_with fail
    go_loopw [13] (fun s wr => ∃ j q : Nat, j ≤ n1 ∧ s = .int .i64 j ∧ wr = w.drewN q ∧ Hid (l1.take j = l2.take j)) (fun s _ => (n1 - intOf s).toNat)
    case atStart => exact ⟨0, 0, Nat.zero_le _, rfl, rfl, Lib.hid rfl⟩
    case round =>
      obtain ⟨j, q, hj, rfl, rfl, D⟩ := hrel
      by_cases hlt : j < n1
      · have a1 : j < l1.length := by have := E1.out; omega
        have a2 : j < l2.length := by have := E2.out; omega
        obtain ⟨g1, o1, rfl, -, hc1⟩ := H1.out.ints (by omega)
        obtain ⟨g2, o2, rfl, -, hc2⟩ := H2.out.ints (by omega)
        have x1 := hc1 j a1
        have x2 := hc2 j a2
        have D2 := Lib.hid (fun e => T1.out j a1 a2 D.out e)
        have D3 := Lib.hid (fun e => T2.out j a1 a2 e)
        have hlt' : (j : Int) < (n1 : Int) := by omega
        clear hc1 hc2
        generalize l1[j] = u at *
        generalize l2[j] = v at *
        by_cases he : u = v
        · subst he
          have D4 := Lib.hid (D2.out rfl)
          clear a1 a2
          go_wp2_with fail
          go_quiet (fail)
          go_wp2_with fail
          exact ⟨⟨j + 1, _, by omega, by go_num, rfl, D4⟩, by simp [intOf]; omega⟩
        · have E := Lib.hid (D3.out he)
          have he' : (u != v) = true := by simpa using he
          clear a1 a2 he
          go_wp2_with fail
          go_quiet (fail)
          go_wp2_with fail
          go_ret
          rw [E.out]
          exact ⟨rfl, ((Kept.refl _ _).drewN _).drewN _⟩
      · obtain rfl : j = n1 := by omega
        have E := Lib.hid (T3.out D.out)
        go_wp2_with fail
        go_ret
        rw [E.out]
        exact ⟨rfl, (Kept.refl _ _).drewN _⟩
  · have E := Lib.hid (show eqb l1 l2 = false from eqb_false fun h => hn (by rw [e1, e2, h]))
    have hn2 : ((n1 : Int) != (n2 : Int)) = true := by simp; omega
    clear h1 h2 e1 e2 hn
    go_enter Try.func38, Try.ntmps38
    go_wp2_with fail
    go_ret
    rw [E.out]
    exact ⟨rfl, Kept.refl _ _⟩
theorem req_u64 {w : World} {B : Nat} {A1 A2 : Option Addr} {n1 n2 c1 c2 : Nat} {l1 l2 : List Int} (h1 : SliceOf (Rep.int .u64) w B A1 n1 c1 l1) (h2 : SliceOf (Rep.int .u64) w B A2 n2 c2 l2) :
    Calls Try.prog 46 #[.slice A1 n1 c1, .slice A2 n2 c2] w fun e w' => e = .returned (.bool (eqb l1 l2)) ∧ New w w' := by
  have e1 := h1.len
  have e2 := h2.len
  have b1 := h1.bound
  have b2 := h2.bound
  by_cases hn : n1 = n2
  · subst hn
    have T1 := Lib.hid (fun j (a : j < l1.length) (b : j < l2.length) (ht : l1.take j = l2.take j) (e : l1[j] = l2[j]) => take_next a b ht e)
    have T2 := Lib.hid (fun j (a : j < l1.length) (b : j < l2.length) (e : ¬ l1[j] = l2[j]) => show eqb l1 l2 = false from eqb_false fun h => e (by subst h; rfl))
    have T3 := Lib.hid (fun (ht : l1.take n1 = l2.take n1) => show eqb l1 l2 = true from eqb_true (by rw [List.take_of_length_le (by omega), List.take_of_length_le (by omega)] at ht; exact ht))
    generalize eqb l1 l2 = res at *
    have H1 := Lib.hid h1
    have H2 := Lib.hid h2
    have E1 := Lib.hid e1
    have E2 := Lib.hid e2
    clear h1 h2 e1 e2
    go_enter Try.func46, Try.ntmps46
    go_wp2_with fail
    go_loopw [5] (fun s wr => ∃ j q : Nat, j ≤ n1 ∧ s = .int .i64 j ∧ wr = w.drewN q ∧ Hid (l1.take j = l2.take j)) (fun s _ => (n1 - intOf s).toNat)
    case atStart => exact ⟨0, 0, Nat.zero_le _, rfl, rfl, Lib.hid rfl⟩
    case round =>
      obtain ⟨j, q, hj, rfl, rfl, D⟩ := hrel
      by_cases hlt : j < n1
      · have a1 : j < l1.length := by have := E1.out; omega
        have a2 : j < l2.length := by have := E2.out; omega
        obtain ⟨g1, o1, rfl, -, hc1⟩ := H1.out.ints (by omega)
        obtain ⟨g2, o2, rfl, -, hc2⟩ := H2.out.ints (by omega)
        have x1 := hc1 j a1
        have x2 := hc2 j a2
        have D2 := Lib.hid (fun e => T1.out j a1 a2 D.out e)
        have D3 := Lib.hid (fun e => T2.out j a1 a2 e)
        have hlt' : (j : Int) < (n1 : Int) := by omega
        clear hc1 hc2
        generalize l1[j] = u at *
        generalize l2[j] = v at *
        by_cases he : u = v
        · subst he
          have D4 := Lib.hid (D2.out rfl)
          clear a1 a2
          go_wp2_with fail
          go_quiet (fail)
          go_wp2_with fail
          exact ⟨⟨j + 1, _, by omega, by go_num, rfl, D4⟩, by simp [intOf]; omega⟩
        · have E := Lib.hid (D3.out he)
          have he' : (u != v) = true := by simpa using he
          clear a1 a2 he
          go_wp2_with fail
          go_quiet (fail)
          go_wp2_with fail
          go_ret
          rw [E.out]
          exact ⟨rfl, ((Kept.refl _ _).drewN _).drewN _⟩
      · obtain rfl : j = n1 := by omega
        have E := Lib.hid (T3.out D.out)
        go_wp2_with fail
        go_ret
        rw [E.out]
        exact ⟨rfl, (Kept.refl _ _).drewN _⟩
  · have E := Lib.hid (show eqb l1 l2 = false from eqb_false fun h => hn (by rw [e1, e2, h]))
    have hn2 : ((n1 : Int) != (n2 : Int)) = true := by simp; omega
    clear h1 h2 e1 e2 hn
    go_enter Try.func46, Try.ntmps46
    go_wp2_with fail
    go_ret
    rw [E.out]
    exact ⟨rfl, Kept.refl _ _⟩
theorem req_int {w : World} {B : Nat} {A1 A2 : Option Addr} {n1 n2 c1 c2 : Nat} {l1 l2 : List Int} (h1 : SliceOf (Rep.int .i64) w B A1 n1 c1 l1) (h2 : SliceOf (Rep.int .i64) w B A2 n2 c2 l2) :
    Calls Try.prog 47 #[.slice A1 n1 c1, .slice A2 n2 c2] w fun e w' => e = .returned (.bool (eqb l1 l2)) ∧ New w w' := by
  have e1 := h1.len
  have e2 := h2.len
  have b1 := h1.bound
  have b2 := h2.bound
  by_cases hn : n1 = n2
  · subst hn
    have T1 := Lib.hid (fun j (a : j < l1.length) (b : j < l2.length) (ht : l1.take j = l2.take j) (e : l1[j] = l2[j]) => take_next a b ht e)
    have T2 := Lib.hid (fun j (a : j < l1.length) (b : j < l2.length) (e : ¬ l1[j] = l2[j]) => show eqb l1 l2 = false from eqb_false fun h => e (by subst h; rfl))
    have T3 := Lib.hid (fun (ht : l1.take n1 = l2.take n1) => show eqb l1 l2 = true from eqb_true (by rw [List.take_of_length_le (by omega), List.take_of_length_le (by omega)] at ht; exact ht))
    generalize eqb l1 l2 = res at *
    have H1 := Lib.hid h1
    have H2 := Lib.hid h2
    have E1 := Lib.hid e1
    have E2 := Lib.hid e2
    clear h1 h2 e1 e2
    go_enter Try.func47, Try.ntmps47
    go_wp2_with fail
    go_loopw [5] (fun s wr => ∃ j q : Nat, j ≤ n1 ∧ s = .int .i64 j ∧ wr = w.drewN q ∧ Hid (l1.take j = l2.take j)) (fun s _ => (n1 - intOf s).toNat)
    case atStart => exact ⟨0, 0, Nat.zero_le _, rfl, rfl, Lib.hid rfl⟩
    case round =>
      obtain ⟨j, q, hj, rfl, rfl, D⟩ := hrel
      by_cases hlt : j < n1
      · have a1 : j < l1.length := by have := E1.out; omega
        have a2 : j < l2.length := by have := E2.out; omega
        obtain ⟨g1, o1, rfl, -, hc1⟩ := H1.out.ints (by omega)
        obtain ⟨g2, o2, rfl, -, hc2⟩ := H2.out.ints (by omega)
        have x1 := hc1 j a1
        have x2 := hc2 j a2
        have D2 := Lib.hid (fun e => T1.out j a1 a2 D.out e)
        have D3 := Lib.hid (fun e => T2.out j a1 a2 e)
        have hlt' : (j : Int) < (n1 : Int) := by omega
        clear hc1 hc2
        generalize l1[j] = u at *
        generalize l2[j] = v at *
        by_cases he : u = v
        · subst he
          have D4 := Lib.hid (D2.out rfl)
          clear a1 a2
          go_wp2_with fail
          go_quiet (fail)
          go_wp2_with fail
          exact ⟨⟨j + 1, _, by omega, by go_num, rfl, D4⟩, by simp [intOf]; omega⟩
        · have E := Lib.hid (D3.out he)
          have he' : (u != v) = true := by simpa using he
          clear a1 a2 he
          go_wp2_with fail
          go_quiet (fail)
          go_wp2_with fail
          go_ret
          rw [E.out]
          exact ⟨rfl, ((Kept.refl _ _).drewN _).drewN _⟩
      · obtain rfl : j = n1 := by omega
        have E := Lib.hid (T3.out D.out)
        go_wp2_with fail
        go_ret
        rw [E.out]
        exact ⟨rfl, (Kept.refl _ _).drewN _⟩
  · have E := Lib.hid (show eqb l1 l2 = false from eqb_false fun h => hn (by rw [e1, e2, h]))
    have hn2 : ((n1 : Int) != (n2 : Int)) = true := by simp; omega
    clear h1 h2 e1 e2 hn
    go_enter Try.func47, Try.ntmps47
    go_wp2_with fail
    go_ret
    rw [E.out]
    exact ⟨rfl, Kept.refl _ _⟩
end Go.Proofs.Ytaefgljpdpigeaa.Conf
