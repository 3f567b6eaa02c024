/- The walks of chapter 16's reference: wrong, May, Number, Encode. -/
import Derived.Test.YtgmibjhbneggeaaScriptR
namespace Go.Proofs.Ytgmibjhbneggeaa.Script
open Go.RowKit Go.Fb Go.BytesP Go.ScriptP
set_option linter.unusedVariables false

theorem ref_wrong (s : Step) (w : World) : Calls Try.prog 19 #[.agg #[.int .i64 s.k, .int .i64 s.n, .int .i64 s.v]] w fun e w' => e = .returned (.int .i64 (wrong s)) ∧ New w w' := by
  obtain ⟨k, n, v⟩ := s
  simp only
  have key : k < 1 ∨ (1 ≤ k ∧ 3 < k) ∨ (1 ≤ k ∧ k ≤ 3 ∧ n < 0) ∨ (1 ≤ k ∧ k ≤ 3 ∧ 0 ≤ n ∧ 4294967296 ≤ n) ∨ (1 ≤ k ∧ k ≤ 3 ∧ 0 ≤ n ∧ n < 4294967296 ∧ k = 2) ∨ (1 ≤ k ∧ k ≤ 3 ∧ 0 ≤ n ∧ n < 4294967296 ∧ k ≠ 2 ∧ v ≠ 0) ∨ (1 ≤ k ∧ k ≤ 3 ∧ 0 ≤ n ∧ n < 4294967296 ∧ k ≠ 2 ∧ v = 0) := by omega
  rcases key with h1 | ⟨h0, h1⟩ | ⟨h0, h1, h2⟩ | ⟨h0, h1, h2, h3⟩ | ⟨h0, h1, h2, h3, rfl⟩ | ⟨h0, h1, h2, h3, h4, h5⟩ | ⟨h0, h1, h2, h3, h4, rfl⟩
  · have E := Lib.hid (show wrong ⟨k, n, v⟩ = 1 by unfold wrong; simp only; rw [if_pos (by omega)])
    go_enter Try.func19, Try.ntmps19
    go_wp2_with fail
    go_ret
    exact ⟨by rw [E.out]; rfl, (Kept.refl _ _).alloc _⟩
  · have E := Lib.hid (show wrong ⟨k, n, v⟩ = 1 by unfold wrong; simp only; rw [if_pos (by omega)])
    go_enter Try.func19, Try.ntmps19
    go_wp2_with fail
    go_ret
    exact ⟨by rw [E.out]; rfl, (Kept.refl _ _).alloc _⟩
  · have E := Lib.hid (show wrong ⟨k, n, v⟩ = 2 by unfold wrong; simp only; rw [if_neg (by omega), if_pos (by omega)])
    go_enter Try.func19, Try.ntmps19
    go_wp2_with fail
    go_ret
    exact ⟨by rw [E.out]; rfl, (Kept.refl _ _).alloc _⟩
  · have E := Lib.hid (show wrong ⟨k, n, v⟩ = 2 by unfold wrong; simp only; rw [if_neg (by omega), if_pos (by omega)])
    go_enter Try.func19, Try.ntmps19
    go_wp2_with fail
    go_ret
    exact ⟨by rw [E.out]; rfl, (Kept.refl _ _).alloc _⟩
  · have E := Lib.hid (show wrong ⟨2, n, v⟩ = 0 by unfold wrong; simp only; rw [if_neg (by omega), if_neg (by omega), if_neg (by omega)])
    go_enter Try.func19, Try.ntmps19
    go_wp2_with fail
    go_ret
    exact ⟨by rw [E.out]; rfl, (Kept.refl _ _).alloc _⟩
  · have E := Lib.hid (show wrong ⟨k, n, v⟩ = 11 by unfold wrong; simp only; rw [if_neg (by omega), if_neg (by omega), if_pos (by omega)])
    have g4 : (k != 2) = true := by simpa using h4
    clear h4
    have g5 : (v != 0) = true := by simpa using h5
    clear h5
    go_enter Try.func19, Try.ntmps19
    go_wp2_with fail
    go_ret
    exact ⟨by rw [E.out]; rfl, (Kept.refl _ _).alloc _⟩
  · have E := Lib.hid (show wrong ⟨k, n, 0⟩ = 0 by unfold wrong; simp only; rw [if_neg (by omega), if_neg (by omega), if_neg (by omega)])
    have g4 : (k != 2) = true := by simpa using h4
    clear h4
    go_enter Try.func19, Try.ntmps19
    go_wp2_with fail
    go_ret
    exact ⟨by rw [E.out]; rfl, (Kept.refl _ _).alloc _⟩
theorem ref_may (A : Option Addr) (n c : Nat) (l : List Step) (w : World) (hl : SliceOf repStep w w.heap.size A n c l) : Calls Try.prog 10 #[.slice A n c] w fun e w' => e = .returned (.tuple #[.int .i64 (may l).1, .int .i64 (may l).2]) ∧ New w w' := by
  have hn := hl.len
  have hb := hl.bound
  have HL := Lib.hid hl
  have HN := Lib.hid hn
  clear hl hn
  by_cases h0 : 1024 < n
  · have e : may l = (3, 1024) := by unfold may; rw [if_pos (by have := HN.out; omega)]
    have E := Lib.hid e; clear e
    go_enter Try.func10, Try.ntmps10
    go_wp2_with fail
    go_ret2
    exact ⟨by rw [E.out]; rfl, Kept.refl _ _⟩
  · go_enter Try.func10, Try.ntmps10
    go_wp2_with fail
    go_loopw [4] (fun i wr => ∃ k : Nat, k ≤ n ∧ i = .int .i64 k ∧ may l = mayFrom k (l.drop k) ∧ New w wr) (fun i _ => (n - intOf i).toNat)
    case atStart => exact ⟨0, by omega, rfl, by unfold may; rw [if_neg (by have := HN.out; omega)]; rfl, Kept.refl _ _⟩
    case round =>
      obtain ⟨k, hk, rfl, hm, hnew⟩ := hrel
      have HM := Lib.hid hm
      have HW := Lib.hid hnew
      clear hm hnew
      by_cases hlt : k < n
      · obtain ⟨b, o, rfl, hb', hc⟩ := steps_at (HL.out.below HW.out.below) (by omega)
        have hkl : k < l.length := by have := HN.out; omega
        obtain ⟨c0, c1, c2⟩ := hc k hkl
        have hd : l.drop k = l[k] :: l.drop (k + 1) := List.drop_eq_getElem_cons hkl
        have HD := Lib.hid hd
        clear hc hd
        by_cases hw0 : wrong l[k] = 0
        · have hw0' : (wrong l[k] != 0) = false := by simpa using hw0
          have HW0 := Lib.hid hw0
          clear hw0
          go_wp2_with (go_at_call 19; refine (ref_wrong _ _).mono ?_; rintro e w1 ⟨rfl, hw1⟩)
          go_roundw
          case rel => exact ⟨k + 1, by omega, by go_num, by rw [HM.out, HD.out, mayFrom, if_pos HW0.out], HW.out.trans hw1⟩
          case measure => simp [intOf]; omega
        · have hw0' : (wrong l[k] != 0) = true := by simpa using hw0
          have HW0 := Lib.hid hw0
          clear hw0
          go_wp2_with (go_at_call 19; refine (ref_wrong _ _).mono ?_; rintro e w1 ⟨rfl, hw1⟩)
          go_ret2
          exact ⟨by rw [HM.out, HD.out, mayFrom, if_neg HW0.out]; rfl, HW.out.trans hw1⟩
      · obtain rfl : k = n := by omega
        go_wp2_with fail
        go_ret2
        exact ⟨by rw [HM.out, List.drop_of_length_le (by have := HN.out; omega)]; rfl, HW.out⟩
theorem ref_number (B g0 c0 : Nat) (n : Int) (m : Nat) (l : List UInt8) (w : World) (hv : OwnB 5 w B (.slice (some ⟨g0, 0, none⟩) l.length c0) l) (hB : B ≤ w.heap.size) (h0 : 0 ≤ n) (h1 : n ≤ 18446744073709551615) (hm : m ≤ 8) (hlen : l.length ≤ 1048576) :
    Calls Try.prog 21 #[.slice (some ⟨g0, 0, none⟩) l.length c0, .int .u64 n, .int .i64 m] w fun e w' => ∃ g c, e = .returned (.slice (some ⟨g, 0, none⟩) (l.length + m) c) ∧ OwnB 5 w' B (.slice (some ⟨g, 0, none⟩) (l.length + m) c) (l ++ le n m) ∧ Kept (fun k => k = g0) w w' ∧ (g = g0 ∨ w.heap.size ≤ g) := by
  have HV := Lib.hid hv
  clear hv
  go_enter Try.func21, Try.ntmps21
  go_wp2_with fail
  go_loopw [0, 7] (fun v i wr => ∃ k g c : Nat, k ≤ m ∧ i = .int .i64 k ∧ v = .slice (some ⟨g, 0, none⟩) (l.length + k) c ∧ OwnB 5 wr B (.slice (some ⟨g, 0, none⟩) (l.length + k) c) (l ++ le n k) ∧ Kept (fun k => k = g0) w wr ∧ (g = g0 ∨ w.heap.size ≤ g)) (fun _ i _ => (m - intOf i).toNat)
  case atStart => exact ⟨0, g0, c0, by omega, rfl, rfl, by simpa [le] using HV.out, Kept.refl _ _, .inl rfl⟩
  case round =>
    obtain ⟨k, g, c, hk, rfl, rfl, ho, hkp, hg⟩ := hrel
    have HO := Lib.hid ho
    have HK := Lib.hid hkp
    have hs := hkp.size
    clear ho hkp
    by_cases hlt : k < m
    · have hlk : (l ++ le n k).length = l.length + k := by simp [length_le]
      have HLK := Lib.hid hlk
      have hbk : Value.int .u8 (n / 2 ^ (8 * k) % 256) = bv (UInt8.ofNat (n / 256 ^ k % 256).toNat) := by unfold bv; rw [byte_shift]
      have HBK := Lib.hid hbk
      clear hlk hbk
      go_wp2_with (at_builtin; refine wpList_byte tyBytes rfl _ _ rfl B rfl (.inl (HO.out.alloc _)) ⟨wr.heap.size, 0, none⟩ 1 _ _ rfl (new_cell _ _ _ _ rfl) HBK.out (by have := HLK.out; omega) (by simp; omega) ?_; intro g1 cap1 w1 ho1 hk1 hl1)
      rw [HLK.out] at ho1
      have hg1 : g1 = g0 ∨ w.heap.size ≤ g1 := by
        rcases hl1 with h | h
        · have h' : some g = some g1 := h
          injection h' with h'
          omega
        · have h' : (wr.alloc (.cells #[.int .u8 (n / 2 ^ (8 * k) % 256)] 5)).heap.size ≤ g1 := h
          rw [← size1] at h'
          omega
      have hk2 : Kept (fun k => k = g0) w w1 := (HK.out.alloc _).step hk1 fun i hi e => by
        have e' : some g = some i := e
        injection e' with e'
        omega
      have HG1 := Lib.hid hg1
      have HK2 := Lib.hid hk2
      have HO1 := Lib.hid ho1
      clear hg1 hk2 ho1 hk1 hl1
      go_roundw
      case rel => exact ⟨k + 1, g1, cap1, by omega, by go_num, by rw [length_le]; rfl, by rw [le_snoc, ← List.append_assoc]; exact HO1.out, HK2.out, HG1.out⟩
      case measure => simp [intOf]; omega
    · obtain rfl : k = m := by omega
      go_wp2_with fail
      go_ret
      exact ⟨g, c, rfl, HO.out, HK.out, hg⟩
end Go.Proofs.Ytgmibjhbneggeaa.Script
