/- A post made since w; the walks of firebreaklaw10's fixed and long (layer 10). -/
import Derived.Test.YtnfaafdgfafcjaaPostW
namespace Go.Proofs.Ytnfaafdgfafcjaa.Lane
open Go.RowKit Go.Fb
set_option linter.unusedVariables false
/-- A post that was made since w. -/
def OwnP (w w1 : World) (b : Nat) (Ls : List Lane) (cur : Int) : Prop := New w w1 ∧ ∃ F, PAt w1 b F Ls cur ∧ ∀ k, F k → w.heap.size ≤ k
section
variable {w w1 w2 : World} {b : Nat} {F : Nat → Prop} {Ls Ls' : List Lane} {cur cur' : Int}
theorem OwnP.fresh (h : OwnP w w1 b Ls cur) : New w w1 := h.1
theorem OwnP.new (h : OwnP w w1 b Ls cur) (hk : New w1 w2) : OwnP w w2 b Ls cur := by
  obtain ⟨h1, F, h2, h3⟩ := h
  exact ⟨h1.trans hk, F, h2.new hk, h3⟩
theorem OwnP.other {G : Nat → Prop} (h : OwnP w w1 b Ls cur) (hk : Kept G w1 w2) (hG : ∀ k, G k → w.heap.size ≤ k) (hd : ∀ F, PAt w1 b F Ls cur → (∀ k, F k → w.heap.size ≤ k) → ∀ k, F k → ¬ G k) : OwnP w w2 b Ls cur := by
  obtain ⟨h1, F, h2, h3⟩ := h
  exact ⟨h1.step hk (fun k hk e => by have := hG k e; omega), F, h2.kept hk (hd F h2 h3), h3⟩
theorem OwnP.ends {f : FuncId} {args : Array Value} {v : Value} (h : OwnP w w1 b Ls cur) (hc : ∀ F, PAt w1 b F Ls cur → Calls Try.prog f args w1 (PEnds w1 b F Ls' cur' v)) : Calls Try.prog f args w1 fun e w2 => e = .returned v ∧ OwnP w w2 b Ls' cur' := by
  obtain ⟨h1, F, h2, h3⟩ := h
  refine (hc F h2).mono ?_
  rintro e w2 ⟨rfl, h4, h5⟩
  refine ⟨rfl, h1.step h5 (fun k hk e => by have := h3 k e; omega), _, h4, fun k e => ?_⟩
  rcases e.1 with e' | e'
  · exact h3 k e'
  · exact Nat.le_trans h1.size e'
end
/-- A post whose blocks are F0's, or made since w0. -/
def OwnXP (w0 w1 : World) (F0 : Nat → Prop) (b : Nat) (Ls : List Lane) (cur : Int) : Prop := Kept F0 w0 w1 ∧ ∃ F, PAt w1 b F Ls cur ∧ ∀ k, F k → F0 k ∨ w0.heap.size ≤ k
theorem OwnXP.new {w0 w1 w2 : World} {F0 : Nat → Prop} {b : Nat} {Ls : List Lane} {cur : Int} (h : OwnXP w0 w1 F0 b Ls cur) (hk : New w1 w2) : OwnXP w0 w2 F0 b Ls cur := by
  obtain ⟨h1, F, h2, h3⟩ := h
  exact ⟨h1.step hk fun _ _ h => h.elim, F, h2.new hk, h3⟩
theorem OwnXP.ends {w0 w1 : World} {F0 : Nat → Prop} {b : Nat} {Ls Ls' : List Lane} {cur cur' : Int} {f : FuncId} {args : Array Value} {v : Value} (h : OwnXP w0 w1 F0 b Ls cur) (hc : ∀ F, PAt w1 b F Ls cur → Calls Try.prog f args w1 (PEnds w1 b F Ls' cur' v)) : Calls Try.prog f args w1 fun e w2 => e = .returned v ∧ OwnXP w0 w2 F0 b Ls' cur' := by
  obtain ⟨h1, F, h2, h3⟩ := h
  refine (hc F h2).mono ?_
  rintro e w2 ⟨rfl, h4, h5⟩
  refine ⟨rfl, h1.step h5 (fun k hk e => (h3 k e).resolve_right (by omega)), _, h4, fun k e => ?_⟩
  rcases e.1 with e' | e'
  · exact h3 k e'
  · exact .inr (Nat.le_trans h1.size e')
theorem new_ownP (w w1 : World) (hw : New w w1) (n room : Int) : Calls Try.prog 14 #[.int .i64 n, .int .i64 room] w1 fun e w' => ((1 ≤ n ∧ n ≤ 9 ∧ 1 ≤ room ∧ room ≤ 64) ∧ ∃ b, e = .returned (.tuple #[.pointer (some ⟨b, 0, none⟩), .int .i64 0]) ∧ OwnP w w' b (List.replicate n.toNat (empty room)) 0) ∨
    (¬ (1 ≤ n ∧ n ≤ 9 ∧ 1 ≤ room ∧ room ≤ 64) ∧ e = .returned (.tuple #[.pointer none, .int .i64 1]) ∧ New w w') := by
  refine (pnew_any n room w1).mono ?_
  rintro e w' ⟨hn, ⟨h, b, F, rfl, hA, hF⟩ | ⟨h, rfl⟩⟩
  · exact .inl ⟨h, b, rfl, hw.trans hn, F, hA, fun k e => Nat.le_trans hw.size (hF k e)⟩
  · exact .inr ⟨h, rfl, hw.trans hn⟩
def fx0 : List Lane := [⟨2, [], [], 0, 0⟩, ⟨2, [], [], 0, 0⟩, ⟨2, [], [], 0, 0⟩]
def fx1 : List Lane := [⟨2, [5], [], 0, 0⟩, ⟨2, [], [], 0, 0⟩, ⟨2, [], [], 0, 0⟩]
def fx2 : List Lane := [⟨2, [5, 6], [], 0, 0⟩, ⟨2, [], [], 0, 0⟩, ⟨2, [], [], 0, 0⟩]
def fx3 : List Lane := [⟨2, [5, 6], [], 0, 0⟩, ⟨2, [], [], 0, 0⟩, ⟨2, [7], [], 0, 0⟩]
def fx4 : List Lane := [⟨2, [6], [], 1, 0⟩, ⟨2, [], [], 0, 0⟩, ⟨2, [7], [], 0, 0⟩]
def fx5 : List Lane := [⟨2, [6], [], 1, 0⟩, ⟨2, [], [], 0, 0⟩, ⟨2, [], [], 1, 0⟩]
set_option maxHeartbeats 2000000 in
theorem fixed_any (w : World) : Calls Try.prog 5 #[] w fun e w' => e = .returned (.bool true) ∧ New w w' := by
  have hnew := new_ownP w w (Kept.refl _ _) 3 2
  have hp1 := fun b w1 (h : OwnP w w1 b fx0 0) => h.ends (fun F hF => pput_any hF 0 5 (by decide))
  have hp2 := fun b w1 (h : OwnP w w1 b fx1 0) => h.ends (fun F hF => pput_any hF 0 6 (by decide))
  have hp3 := fun b w1 (h : OwnP w w1 b fx2 0) => h.ends (fun F hF => pput_any hF 2 7 (by decide))
  have ht1 := fun b w1 (h : OwnP w w1 b fx3 0) => h.ends (fun F hF => ptake_any hF 0 rfl (by decide) (by decide) (by decide) (by decide))
  have ht2 := fun b w1 (h : OwnP w w1 b fx4 1) => h.ends (fun F hF => ptake_any hF 1 rfl (by decide) (by decide) (by decide) (by decide))
  have hsm := fun b w1 (h : OwnP w w1 b fx5 0) => (show Calls Try.prog 19 #[.pointer (some ⟨b, 0, none⟩)] w1 fun e w' => e = .returned (.bool true) ∧ w1 = w' from by obtain ⟨h1, F, h2, h3⟩ := h; exact some_any h2)
  rw [show putP fx0 0 5 = (fx1, 0) by rfl] at hp1
  rw [show putP fx1 0 6 = (fx2, 0) by rfl] at hp2
  rw [show putP fx2 2 7 = (fx3, 0) by rfl] at hp3
  rw [show takeP fx3 ((0 : Nat) : Int) = (fx4, 1, tookN 5 0 (0, 0) false 0) by rfl] at ht1
  rw [show takeP fx4 ((1 : Nat) : Int) = (fx5, 0, tookN 7 2 (0, 0) false 0) by rfl] at ht2
  rw [show List.replicate (3 : Int).toNat (empty 2) = fx0 by rfl] at hnew
  simp only [tookN] at ht1 ht2
  have HNEW := Lib.hid hnew
  have HP1 := Lib.hid hp1
  have HP2 := Lib.hid hp2
  have HP3 := Lib.hid hp3
  have HT1 := Lib.hid ht1
  have HT2 := Lib.hid ht2
  have HSM := Lib.hid hsm
  clear hnew hp1 hp2 hp3 ht1 ht2 hsm
  go_enter Try.func5, Try.ntmps5
  go_wp2_with fail
  refine HNEW.out.mono ?_
  rintro e w1 (⟨-, b, rfl, hw1⟩ | ⟨h, -, -⟩)
  · have HW1 := Lib.hid hw1
    clear hw1
    go_wp2_with fail
    refine (HP1.out _ _ HW1.out).mono ?_
    rintro e w2 ⟨rfl, hw2⟩
    have HW2 := Lib.hid hw2
    clear hw2
    go_wp2_with fail
    refine (HP2.out _ _ HW2.out).mono ?_
    rintro e w3 ⟨rfl, hw3⟩
    have HW3 := Lib.hid hw3
    clear hw3
    go_wp2_with fail
    refine (HP3.out _ _ HW3.out).mono ?_
    rintro e w4 ⟨rfl, hw4⟩
    have HW4 := Lib.hid hw4
    clear hw4
    go_wp2_with fail
    refine (HT1.out _ _ HW4.out).mono ?_
    rintro e w5 ⟨rfl, hw5⟩
    have hw6 := hw5.new ((Kept.refl (fun _ => False) w5).alloc (.cells #[.int .i64 0, .int .i64 0] 36))
    have HW5 := Lib.hid hw5
    have HW6 := Lib.hid hw6
    clear hw5 hw6
    go_upto_region 8 with (fail)
    generalize w5.alloc (.cells #[.int .i64 0, .int .i64 0] 36) = W6 at *
    go_wp2_with fail
    refine (HT2.out _ _ HW6.out).mono ?_
    rintro e w7 ⟨rfl, hw7⟩
    have hw8 := hw7.new ((Kept.refl (fun _ => False) w7).alloc (.cells #[.int .i64 0, .int .i64 0] 36))
    have HW7 := Lib.hid hw7
    have HW8 := Lib.hid hw8
    clear hw7 hw8
    go_upto_region 9 with (fail)
    generalize w7.alloc (.cells #[.int .i64 0, .int .i64 0] 36) = W8 at *
    go_wp2_with (refine (HSM.out _ _ HW8.out).mono ?_; rintro e w9 ⟨rfl, rfl⟩)
    go_ret
    exact ⟨rfl, HW8.out.fresh⟩
  · exact absurd (by decide) h
/-- Are lists longer than may be copied? -/
def longP (Ls : List Lane) : Bool := decide ((∃ L ∈ Ls, 1048576 < L.vals.length ∨ 4096 < L.waits.length) ∨ 1048576 < Ls.length)
section
variable {w : World} {B : Nat} {A : Option Addr} {n c : Nat} {Ls : List Lane}
set_option maxHeartbeats 2000000 in
theorem long_any (hl : SliceOf repT w B A n c Ls) : Calls Try.prog 6 #[.slice A n c] w fun e w' => e = .returned (.bool (longP Ls)) ∧ w = w' := by
  have hb := hl.bound
  have hln := hl.len
  have HAT := Lib.hid (fun h0 => lanes_at hl h0)
  have HLN := Lib.hid hln
  clear hln
  clear hl
  go_enter Try.func6, Try.ntmps6
  go_wp2_with fail
  go_loopw [3] (fun s wr => ∃ i : Nat, i ≤ n ∧ s = .int .i64 i ∧ wr = w ∧ Hid (∀ j (hj : j < Ls.length), j < i → Ls[j].vals.length ≤ 1048576 ∧ Ls[j].waits.length ≤ 4096)) (fun s _ => (n - intOf s).toNat)
  case atStart => exact ⟨0, Nat.zero_le _, rfl, rfl, Lib.hid fun j hj h => absurd h (Nat.not_lt_zero _)⟩
  case round =>
    obtain ⟨i, hi, rfl, rfl, hno⟩ := hrel
    by_cases hlt : i < n
    · have hil : i < Ls.length := by rw [← HLN.out]; exact hlt
      obtain ⟨g, o, rfl, -, hat⟩ := HAT.out (by omega)
      obtain ⟨Av, cv, Aw, cw, ⟨y0, y1, -, -⟩, hv, hw⟩ := hat i hil
      have hbv := hv.bound
      have hbw := hw.bound
      have HN1 := Lib.hid (fun (hq : Ls[i].vals.length ≤ 1048576 ∧ Ls[i].waits.length ≤ 4096) j (hj : j < Ls.length) (h : j < i + 1) => show Ls[j].vals.length ≤ 1048576 ∧ Ls[j].waits.length ≤ 4096 by
        by_cases e : j = i
        · subst e; exact hq
        · exact hno.out j hj (by omega))
      have HY := Lib.hid (fun (hq : 1048576 < Ls[i].vals.length ∨ 4096 < Ls[i].waits.length) => show longP Ls = true from decide_eq_true (.inl ⟨_, List.getElem_mem hil, hq⟩))
      generalize Ls[i].vals.length = nv at *
      generalize Ls[i].waits.length = nw at *
      clear hv hw hat
      by_cases h1 : 1048576 < nv
      · have E := Lib.hid (HY.out (.inl h1))
        have h1' : (1048576 : Int) < (nv : Int) := by omega
        go_wp2_with fail
        go_ret
        exact ⟨by rw [E.out]; rfl, by trivial⟩
      · have h1' : (nv : Int) ≤ 1048576 := by omega
        by_cases h2 : 4096 < nw
        · have E := Lib.hid (HY.out (.inr h2))
          have h2' : (4096 : Int) < (nw : Int) := by omega
          go_wp2_with fail
          go_ret
          exact ⟨by rw [E.out]; rfl, by trivial⟩
        · have h2' : (nw : Int) ≤ 4096 := by omega
          have H2 := Lib.hid (HN1.out (by omega))
          clear h1 h2
          go_wp2_with fail
          go_roundw
          case rel => exact ⟨i + 1, by omega, by go_num, trivial, H2⟩
          case measure => simp [intOf]; omega
    · obtain rfl : i = n := by omega
      have hE : longP Ls = decide (1048576 < i) := by
        unfold longP
        rw [decide_eq_decide]
        constructor
        · rintro (⟨L, hL, h⟩ | h)
          · obtain ⟨j, hj, rfl⟩ := List.mem_iff_getElem.1 hL
            have := hno.out j hj (by rw [HLN.out]; exact hj)
            omega
          · rw [HLN.out]; exact h
        · intro h
          exact .inr (by rw [← HLN.out]; exact h)
      have HE := Lib.hid hE
      clear hE
      by_cases h1 : 1048576 < i
      · have h1' : (1048576 : Int) < (i : Int) := by omega
        go_wp2_with fail
        go_ret
        exact ⟨by rw [HE.out, decide_eq_true h1]; simp [Array.getD], by trivial⟩
      · have h1' : (i : Int) ≤ 1048576 := by omega
        go_wp2_with fail
        go_ret
        exact ⟨by rw [HE.out, decide_eq_false h1]; simp [Array.getD]; omega, by trivial⟩
end
end Go.Proofs.Ytnfaafdgfafcjaa.Lane
