/- The walk of chapter 6's law CodeApart. -/
import Derived.Test.YtfffjlcifokdmaaCodeN
namespace Go.Proofs.Ytfffjlcifokdmaa.Code
open Go.RowKit Go.Fb Go.BytesP Go.CodeP Go.ReaderP
set_option linter.unusedVariables false

/-- What was wrong first, behind k instructions. -/
def Firsts (l : List Ins) (n locks : Int) (k : Nat) (all first : Int) : Prop :=
  (all = 0 ∧ first = 0 ∧ mayFrom n locks 0 l = mayFrom n locks k (l.drop k)) ∨ (all ≠ 0 ∧ mayFrom n locks 0 l = (all, first))
theorem firsts_fine {l : List Ins} {n locks : Int} {k : Nat} {all first : Int} (h : Firsts l n locks k all first) (hk : k < l.length) (hc : check l[k] n locks = 0) : Firsts l n locks (k + 1) all first := by
  rcases h with ⟨h1, h2, h3⟩ | h
  · refine .inl ⟨h1, h2, ?_⟩
    rw [h3, List.drop_eq_getElem_cons hk, mayFrom, if_pos hc]
  · exact .inr h
theorem firsts_first {l : List Ins} {n locks : Int} {k : Nat} {first : Int} (h : Firsts l n locks k 0 first) (hk : k < l.length) (hc : check l[k] n locks ≠ 0) : Firsts l n locks (k + 1) (check l[k] n locks) k := by
  rcases h with ⟨h1, h2, h3⟩ | ⟨h, _⟩
  · refine .inr ⟨hc, ?_⟩
    rw [h3, List.drop_eq_getElem_cons hk, mayFrom, if_neg hc]
  · exact absurd rfl h
theorem firsts_more {l : List Ins} {n locks : Int} {k : Nat} {all first : Int} (h : Firsts l n locks k all first) (ha : all ≠ 0) : Firsts l n locks (k + 1) all first := by
  rcases h with ⟨h1, _⟩ | h
  · exact absurd h1 ha
  · exact .inr h
theorem firsts_end {l : List Ins} {n locks : Int} {k : Nat} {all first : Int} (h : Firsts l n locks k all first) (hk : l.length ≤ k) : mayFrom n locks 0 l = (all, first) ∧ (all = 0 → first = 0) := by
  rcases h with ⟨h1, h2, h3⟩ | ⟨h1, h2⟩
  · rw [h3, List.drop_of_length_le hk, h1, h2]
    exact ⟨rfl, fun _ => rfl⟩
  · exact ⟨h2, fun h => absurd h h1⟩
set_option maxRecDepth 100000 in
set_option maxHeartbeats 2000000 in
theorem apart_walk (A : Option Addr) (n c : Nat) (l : List Ins) (locks : Int) (hlk : (Lit.int .i64 locks).wf = true) (w : World) (hl : SliceOf repIns w w.heap.size A n c l) :
    Calls Try.prog 8 #[.slice A n c, .int .i64 locks] w fun e w' => e = .returned (.bool true) ∧ New w w' := by
  have hs : SliceOf repIns w w.heap.size A (min (n : Int) 300).toNat (min (n : Int) 300).toNat (l.take (min (n : Int) 300).toNat) := hl.take (by omega) (Nat.le_refl _) (by have := hl.bound; unfold maxLen; omega)
  have hbd := hl.bound
  obtain ⟨k1, k2⟩ := bounds_i64 hlk
  clear hl hlk
  obtain ⟨m, hm⟩ : ∃ m : Nat, min (n : Int) 300 = m := ⟨(min (n : Int) 300).toNat, by omega⟩
  rw [hm, Int.toNat_natCast] at hs
  have hm300 : m ≤ 300 := by omega
  go_enter Try.func8, Try.ntmps8
  go_wp2_with (go_at_call 10; refine (awake_any _).mono ?_; rintro e w1 ⟨rfl, hw1⟩)
  clear hm
  generalize l.take m = k at *
  have hn := hs.len
  have HW1 := Lib.hid hw1
  have HS := Lib.hid hs
  have HN := Lib.hid hn
  clear hw1 hs hn
  go_loopw [5, 6, 24] (fun a f i wr => ∃ (j : Nat) (all first : Int), j ≤ m ∧ i = .int .i64 j ∧ a = .int .i64 all ∧ f = .int .i64 first ∧ Firsts k m locks j all first ∧ New w wr) (fun _ _ i _ => (m - intOf i).toNat)
  case atStart => exact ⟨0, 0, 0, by omega, rfl, rfl, rfl, .inl ⟨rfl, rfl, rfl⟩, HW1.out⟩
  case round =>
    obtain ⟨j, all, first, hj, rfl, rfl, rfl, hf, hnew⟩ := hrel
    have HF := Lib.hid hf
    have HNEW := Lib.hid hnew
    clear hf hnew
    by_cases hlt : j < m
    · obtain ⟨b, o, rfl, hb', hc⟩ := ins_at (HS.out.below HNEW.out.below) (by omega)
      have hkl : j < k.length := by have := HN.out; omega
      obtain ⟨c0, c1, c2, c3, c4⟩ := hc j hkl
      have hch := fun n' l' W => check_any k[j] n' l' W
      unfold agg at hch
      have hfin : ∀ h : check k[j] m locks = 0, Firsts k m locks (j + 1) all first := fun h => firsts_fine HF.out hkl h
      have hfst : ∀ h : check k[j] m locks ≠ 0, all = 0 → Firsts k m locks (j + 1) (check k[j] m locks) j := fun h h0 => firsts_first (h0 ▸ HF.out) hkl h
      have hlg : check k[j] m locks = 0 → check k[j] (m + 1) locks = 0 := check_longer
      have hmr : check k[j] m locks = 0 → check k[j] m (locks + 1) = 0 := check_more
      generalize k[j] = x at *
      obtain ⟨op, a, b1, cc, imm⟩ := x
      simp only at c0 c1 c2 c3 c4 hch
      have HCH := Lib.hid hch
      have HFIN := Lib.hid hfin
      have HFST := Lib.hid hfst
      have HLG := Lib.hid hlg
      have HMR := Lib.hid hmr
      clear hch hfin hfst hlg hmr
      clear hc
      have hk1 : ∀ W, New (wr.alloc (.cells #[.int .i64 op, .int .i64 a, .int .i64 b1, .int .i64 cc, .int .i64 imm] 25)) W → Blk W wr.heap.size 25 #[.int .i64 op, .int .i64 a, .int .i64 b1, .int .i64 cc, .int .i64 imm] := fun W h => (Blk.made wr _ _).kept h id
      have HK1 := Lib.hid hk1
      clear hk1
      by_cases hq : check ⟨op, a, b1, cc, imm⟩ m locks = 0
      · have hq' : (check ⟨op, a, b1, cc, imm⟩ m locks == 0) = true := by simpa using hq
        have hq'' : (check ⟨op, a, b1, cc, imm⟩ m locks != 0) = false := by simpa using hq
        have g1 : (check ⟨op, a, b1, cc, imm⟩ (m + 1) locks != 0) = false := by simpa using HLG.out hq
        have g2 : (check ⟨op, a, b1, cc, imm⟩ m (locks + 1) != 0) = false := by simpa using HMR.out hq
        have HQ := Lib.hid hq
        clear hq
        go_wp2_with fail
        refine (HCH.out _ _ _).mono ?_
        rintro e w2 ⟨rfl, hw2⟩
        have q := HK1.out w2 hw2
        have q0 : w2.cell? ⟨wr.heap.size, 0, none⟩ = some (.int .i64 op) := q.cell 0
        have q1 : w2.cell? ⟨wr.heap.size, 1, none⟩ = some (.int .i64 a) := q.cell 1
        have q2 : w2.cell? ⟨wr.heap.size, 2, none⟩ = some (.int .i64 b1) := q.cell 2
        have q3 : w2.cell? ⟨wr.heap.size, 3, none⟩ = some (.int .i64 cc) := q.cell 3
        have q4 : w2.cell? ⟨wr.heap.size, 4, none⟩ = some (.int .i64 imm) := q.cell 4
        have HW2 := Lib.hid hw2
        clear hw2
        clear q
        go_wp2_with fail
        refine (HCH.out _ _ _).mono ?_
        rintro e w3 ⟨rfl, hw3⟩
        have q := HK1.out w3 (HW2.out.trans hw3)
        have p0 : w3.cell? ⟨wr.heap.size, 0, none⟩ = some (.int .i64 op) := q.cell 0
        have p1 : w3.cell? ⟨wr.heap.size, 1, none⟩ = some (.int .i64 a) := q.cell 1
        have p2 : w3.cell? ⟨wr.heap.size, 2, none⟩ = some (.int .i64 b1) := q.cell 2
        have p3 : w3.cell? ⟨wr.heap.size, 3, none⟩ = some (.int .i64 cc) := q.cell 3
        have p4 : w3.cell? ⟨wr.heap.size, 4, none⟩ = some (.int .i64 imm) := q.cell 4
        have HW3 := Lib.hid (HW2.out.trans hw3)
        clear hw3 q
        by_cases hl8 : locks < 8
        · go_wp2_with fail
          refine (HCH.out _ _ _).mono ?_
          rintro e w4 ⟨rfl, hw4⟩
          have HW4 := Lib.hid (HW3.out.trans hw4)
          clear hw4
          go_wp2_with fail
          exact ⟨⟨j + 1, all, first, by omega, by go_num, rfl, rfl, HFIN.out HQ.out, (HNEW.out.alloc _).trans HW4.out⟩, by simp [intOf]; omega⟩
        · go_wp2_with fail
          exact ⟨⟨j + 1, all, first, by omega, by go_num, rfl, rfl, HFIN.out HQ.out, (HNEW.out.alloc _).trans HW3.out⟩, by simp [intOf]; omega⟩
      · have hq' : (check ⟨op, a, b1, cc, imm⟩ m locks == 0) = false := by simpa using hq
        have hq'' : (check ⟨op, a, b1, cc, imm⟩ m locks != 0) = true := by simpa using hq
        have HQ := Lib.hid hq
        clear hq
        by_cases ha : all = 0
        · have ha' : (all == 0) = true := by simpa using ha
          have HA := Lib.hid ha
          clear ha
          go_wp2_with fail
          refine (HCH.out _ _ _).mono ?_
          rintro e w2 ⟨rfl, hw2⟩
          have HW2 := Lib.hid hw2
          clear hw2
          go_wp2_with fail
          exact ⟨⟨j + 1, _, j, by omega, by go_num, rfl, rfl, HFST.out HQ.out HA.out, (HNEW.out.alloc _).trans HW2.out⟩, by simp [intOf]; omega⟩
        · have ha' : (all == 0) = false := by simpa using ha
          have HA := Lib.hid ha
          clear ha
          go_wp2_with fail
          refine (HCH.out _ _ _).mono ?_
          rintro e w2 ⟨rfl, hw2⟩
          have HW2 := Lib.hid hw2
          clear hw2
          go_wp2_with fail
          exact ⟨⟨j + 1, all, first, by omega, by go_num, rfl, rfl, firsts_more HF.out HA.out, (HNEW.out.alloc _).trans HW2.out⟩, by simp [intOf]; omega⟩
    · obtain rfl : j = m := by omega
      obtain ⟨e1, e2⟩ := firsts_end HF.out (by have := HN.out; omega)
      have hmay : may k locks = if locks < 0 ∨ 8 < locks then (1, 0) else if 256 < j then (3, 256) else (all, first) := by
        unfold may; rw [← HN.out, e1]
      have HMAY := Lib.hid hmay
      have E2 := Lib.hid e2
      clear hmay e2
      clear e1
      go_wp2_with fail
      refine (may_any A j j k locks _ (news HS.out HNEW.out)).mono ?_
      rintro e w2 ⟨rfl, hw2⟩
      have HW2 := Lib.hid (HNEW.out.trans hw2)
      rw [HMAY.out]
      clear hw2
      by_cases h1 : locks < 0 ∨ 8 < locks
      · rw [if_pos h1]
        rcases h1 with h1 | h1
        all_goals
          go_wp2_with fail
          go_ret
          exact ⟨rfl, HW2.out⟩
      · rw [if_neg h1]
        have h2 : ¬ locks < 0 := by omega
        have h3 : ¬ 8 < locks := by omega
        clear h1
        by_cases h4 : 256 < j
        · rw [if_pos h4]
          go_wp2_with fail
          go_ret
          exact ⟨rfl, HW2.out⟩
        · rw [if_neg h4]
          by_cases ha : all = 0
          · obtain rfl := E2.out ha
            subst ha
            go_wp2_with fail
            go_ret
            exact ⟨rfl, HW2.out⟩
          · have ha' : (all == 0) = false := by simpa using ha
            have ha'' : (all != 0) = true := by simpa using ha
            clear ha
            go_wp2_with fail
            go_ret
            exact ⟨rfl, HW2.out⟩
end Go.Proofs.Ytfffjlcifokdmaa.Code
