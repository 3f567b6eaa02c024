/- The walks of conf.lay and of the reference's Number (layer 14): a number's bytes behind others. -/
import Derived.Test.YtaefgljpdpigeaaConfM
import Derived.Test.YtaefgljpdpigeaaCodeJc
namespace Go.Proofs.Ytaefgljpdpigeaa.Conf
open Go.RowKit Go.Fb Go.CodeP Go.BytesP
open Go.Proofs.Ytaefgljpdpigeaa.Code (RowB tyBytes byte_bv u64_bd)
set_option linter.unusedVariables false
/-- What a number's bytes behind others leave. -/
def Laid (w w' : World) (r : Option Nat) (n : Nat) (e : Ending) (l : List UInt8) : Prop :=
  ∃ r' A' c', e = .returned (.slice A' n c') ∧ RowB w' r' A' n c' l ∧ Kept (fun k => r = some k) w w' ∧ ∀ k, r' = some k → r = some k ∨ w.heap.size ≤ k
section
variable {w : World} {r : Option Nat} {A : Option Addr} {n c : Nat} {pre : List UInt8} {v : Int} {m : Nat}
set_option maxHeartbeats 1000000 in
theorem lay_any (hr : RowB w r A n c pre) (h0 : 0 ≤ v) (h1 : v ≤ 18446744073709551615) (hm : m ≤ 8) (hn : n ≤ 2097152) : Calls Try.prog 26 #[.slice A n c, .int .u64 v, .int .i64 m] w fun e w' => Laid w w' r (n + m) e (pre ++ le v m) := by
  unfold Laid
  have hlt := hr.lt (by decide)
  have HR := Lib.hid hr
  clear hr
  go_enter Try.func26, Try.ntmps26
  go_wp2_with fail
  go_loopw [0, 9] (fun v' i wr => ∃ (k : Nat) (rr : Option Nat) (AA : Option Addr) (c3 : Nat), k ≤ m ∧ i = .int .i64 k ∧ v' = .slice AA (n + k) c3 ∧ RowB wr rr AA (n + k) c3 (pre ++ le v k) ∧ (∀ g, rr = some g → (r = some g ∨ w.heap.size ≤ g)) ∧ Kept (fun k => r = some k) w wr) (fun _ i _ => (m - intOf i).toNat)
  case atStart => exact ⟨0, r, A, c, Nat.zero_le _, rfl, rfl, by rw [show le v 0 = [] from rfl, List.append_nil]; exact HR.out, fun g h => .inl h, Kept.refl _ _⟩
  case round =>
    obtain ⟨k, rr, AA, c3, hk, rfl, rfl, hrow, hnx, hkp⟩ := hrel
    have HROW := Lib.hid hrow
    have HNX_ := Lib.hid hnx
    have HKP := Lib.hid hkp
    clear hrow hnx hkp
    by_cases hlt : k < m
    · have w5 : IntKind.i64.wrap (8 * (k : Int)) = 8 * (k : Int) := IntWalk.i64_in _ (by omega)
      go_wp2_with (at_builtin; refine wpList_append_one (cs := [.int .u8 ((v / 2 ^ (8 * k)) % 256)]) tyBytes rfl _ _ rfl rfl HROW.out rfl rfl rfl (by simp [Value.oneCell']) (by unfold maxLen; omega) (by omega) ?_; intro r5 A5 c5 w5 hr5 hk5 hn5)
      refine ⟨⟨k + 1, r5, A5, c5, by omega, by go_num, rfl, ?_, ?_, ?_⟩, by simp [intOf]; omega⟩
      · rw [byte_bv] at hr5
        unfold RowB
        rw [le_snoc, ← List.append_assoc, List.map_append]
        exact hr5
      · intro g hg
        rcases hn5 g hg with h | h
        · exact HNX_.out g h
        · have := HKP.out.size; exact .inr (by omega)
      · exact HKP.out.step hk5 fun i hi e => by
          rcases HNX_.out i e with h | h
          · exact h
          · omega
    · obtain rfl : k = m := by omega
      go_wp2_with fail
      go_ret
      exact ⟨rr, AA, c3, rfl, HROW.out, HKP.out, HNX_.out⟩
set_option maxHeartbeats 1000000 in
theorem rnum_any (hr : RowB w r A n c pre) (h0 : 0 ≤ v) (h1 : v ≤ 18446744073709551615) (hm : m ≤ 8) (hn : n ≤ 2097152) : Calls Try.prog 48 #[.slice A n c, .int .u64 v, .int .i64 m] w fun e w' => Laid w w' r (n + m) e (pre ++ le v m) := by
  unfold Laid
  have hlt := hr.lt (by decide)
  have HR := Lib.hid hr
  clear hr
  go_enter Try.func48, Try.ntmps48
  go_wp2_with fail
  go_loopw [0, 7] (fun v' i wr => ∃ (k : Nat) (rr : Option Nat) (AA : Option Addr) (c3 : Nat), k ≤ m ∧ i = .int .i64 k ∧ v' = .slice AA (n + k) c3 ∧ RowB wr rr AA (n + k) c3 (pre ++ le v k) ∧ (∀ g, rr = some g → (r = some g ∨ w.heap.size ≤ g)) ∧ Kept (fun k => r = some k) w wr) (fun _ i _ => (m - intOf i).toNat)
  case atStart => exact ⟨0, r, A, c, Nat.zero_le _, rfl, rfl, by rw [show le v 0 = [] from rfl, List.append_nil]; exact HR.out, fun g h => .inl h, Kept.refl _ _⟩
  case round =>
    obtain ⟨k, rr, AA, c3, hk, rfl, rfl, hrow, hnx, hkp⟩ := hrel
    have HROW := Lib.hid hrow
    have HNX_ := Lib.hid hnx
    have HKP := Lib.hid hkp
    clear hrow hnx hkp
    by_cases hlt : k < m
    · have w5 : IntKind.i64.wrap (8 * (k : Int)) = 8 * (k : Int) := IntWalk.i64_in _ (by omega)
      go_wp2_with (at_builtin; refine wpList_append_one (cs := [.int .u8 ((v / 2 ^ (8 * k)) % 256)]) tyBytes rfl _ _ rfl rfl HROW.out rfl rfl rfl (by simp [Value.oneCell']) (by unfold maxLen; omega) (by omega) ?_; intro r5 A5 c5 w5 hr5 hk5 hn5)
      refine ⟨⟨k + 1, r5, A5, c5, by omega, by go_num, rfl, ?_, ?_, ?_⟩, by simp [intOf]; omega⟩
      · rw [byte_bv] at hr5
        unfold RowB
        rw [le_snoc, ← List.append_assoc, List.map_append]
        exact hr5
      · intro g hg
        rcases hn5 g hg with h | h
        · exact HNX_.out g h
        · have := HKP.out.size; exact .inr (by omega)
      · exact HKP.out.step hk5 fun i hi e => by
          rcases HNX_.out i e with h | h
          · exact h
          · omega
    · obtain rfl : k = m := by omega
      go_wp2_with fail
      go_ret
      exact ⟨rr, AA, c3, rfl, HROW.out, HKP.out, HNX_.out⟩
end
end Go.Proofs.Ytaefgljpdpigeaa.Conf
