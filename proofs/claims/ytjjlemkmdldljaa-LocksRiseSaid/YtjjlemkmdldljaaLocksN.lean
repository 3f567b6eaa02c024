/- The walk of the reference's Give and Holds (layer 12). -/
import Derived.Test.YtjjlemkmdldljaaLocksM
namespace Go.Proofs.Ytjjlemkmdldljaa.Locks
open Go.RowKit Go.Fb
set_option linter.unusedVariables false
section
variable {w w' : World} {b : Nat} {F : Nat → Prop} {L : List (Int × List Int)}
theorem rtake_any (h : RAt w b F L) (n p : Int) (hlen : ∀ x ∈ L, x.2.length ≤ 1048576) : Calls Try.prog 29 #[.pointer (some ⟨b, 0, none⟩), .int .i64 n, .int .i64 p] w (REnds w b F (takeL L n p).1 (.tuple #[.bool (takeL L n p).2.1, .int .i64 (takeL L n p).2.2])) := by
  unfold takeL
  by_cases he : wrongN L.length n p = 0
  · rw [if_neg (by simpa using he)]
    by_cases hq : (waitAt L p).2 = true
    · rw [if_pos hq]; exact rtake_waits h n p he hq
    · rw [if_neg hq]
      obtain ⟨k, rfl, hk, hp⟩ := wrong_zero he
      have e : L.getD k (0, []) = L[k] := by simp [List.getD_eq_getElem?_getD, List.getElem?_eq_getElem hk]
      rw [Int.toNat_natCast, e]
      exact rtake_good h k p hk hp (by simpa using hq) (hlen _ (List.getElem_mem hk))
  · rw [if_pos he]; exact rtake_bad h n p he
theorem rgive_bad (h : RAt w b F L) (n p : Int) (he : wrongN L.length n p ≠ 0) : Calls Try.prog 30 #[.pointer (some ⟨b, 0, none⟩), .int .i64 n, .int .i64 p] w (REnds w b F L (.tuple #[.int .i64 0, .int .i64 (wrongN L.length n p)])) := by
  have hw := asked_any h n p
  generalize wrongN L.length n p = x at *
  have hx : (x != 0) = true := by simpa using he
  have H := Lib.hid h
  have HW := Lib.hid hw
  clear h hw
  clear he
  go_enter Try.func30, Try.ntmps30
  go_wp2_with fail
  refine HW.out.mono ?_
  rintro e w' ⟨rfl, rfl⟩
  go_wp2_with fail
  go_ret2
  exact REnds.now H.out (Kept.refl _ _)
theorem RAt.own_here (h : RAt w b F L) (k : Nat) (hk : k < L.length) : ∃ g o co, w.cell? ⟨b, 0, none⟩ = some (.slice (some ⟨g, o, none⟩) L.length co) ∧ L.length ≤ co ∧ co ≤ 9223372036854775807 ∧ w.cell? ⟨g, o + k, none⟩ = some (.int .i64 L[k].1) ∧ w.frozen? ⟨g, o + k, none⟩ = false ∧ F g := by
  obtain ⟨⟨ro, Ao, co, rq, Aq, cq, Y, hp, hY⟩, h4⟩ := h
  obtain ⟨y0, y1, -, -, b1, b2, b3, b4⟩ := hp.cells
  obtain ⟨g, o, hro, rfl, x0, xf⟩ := hp.own_at k hk
  rw [map_own_getD L k hk] at x0
  exact ⟨g, o, co, y0, b1, b2, x0, xf, hp.f1 g hro⟩
theorem give_hand {x : Int × List Int} {p : Int} (h : x.1 = p) : giveAt x p = handAt x := by
  obtain ⟨a, q⟩ := x
  unfold giveAt handAt
  rw [if_neg (by simpa using h)]
  cases q <;> rfl
theorem rgive_good (h : RAt w b F L) (k : Nat) (p : Int) (hk : k < L.length) (hp0 : 0 ≤ p) (hql : L[k].2.length ≤ 1048576) : Calls Try.prog 30 #[.pointer (some ⟨b, 0, none⟩), .int .i64 (k : Int), .int .i64 p] w (REnds w b F (L.set k (giveAt L[k] p)) (.tuple #[.int .i64 (giveAt L[k] p).1, .int .i64 0])) := by
  have hw := asked_any h k p
  rw [show wrongN L.length k p = 0 by unfold wrongN; rw [if_neg (by omega), if_neg (by omega)]] at hw
  obtain ⟨g, o, co, y0, b1, b2, x0, -, -⟩ := h.own_here k hk
  have hhand := hand_any h k hk hql
  have e2 : (0 : Int) ≤ (k : Int) := by omega
  by_cases ho : L[k].1 = p
  · rw [give_hand ho]
    rw [ho] at x0
    have hset : (L.set k (handAt L[k])).length = L.length := List.length_set
    have hget : ∃ (h : k < (L.set k (handAt L[k])).length), (L.set k (handAt L[k]))[k]'h = handAt L[k] := ⟨by rw [hset]; exact hk, by simp⟩
    generalize handAt L[k] = x at *
    generalize hL' : L.set k x = L' at *
    obtain ⟨N, hN⟩ : ∃ N, N = L.length := ⟨_, rfl⟩
    have e3 : (k : Int) < (N : Int) := by omega
    rw [← hN] at y0 b1
    have H := Lib.hid h
    have HW := Lib.hid hw
    have HHAND := Lib.hid hhand
    have HN := Lib.hid hN
    have HSET := Lib.hid hset
    have HGET := Lib.hid hget
    have HL' := Lib.hid hL'
    clear h hw hhand hN hset hget hL'
    clear ho hql
    go_enter Try.func30, Try.ntmps30
    go_wp2_with fail
    refine HW.out.mono ?_
    rintro e w' ⟨rfl, rfl⟩
    go_wp2_with fail
    refine HHAND.out.mono ?_
    rintro e w2 ⟨rfl, hr2, hk2⟩
    obtain ⟨hk2', hg2⟩ := HGET.out
    obtain ⟨g', o', co', z0, b1', b2', z1, -, -⟩ := hr2.own_here k hk2'
    rw [hg2] at z1
    clear hg2 hk2'
    rw [HSET.out, ← HN.out] at z0
    obtain ⟨x1, x2⟩ := x
    have HR2 := Lib.hid hr2
    have HK2 := Lib.hid hk2
    clear hr2 hk2
    clear y0 x0
    go_wp2_with fail
    go_ret2
    exact ⟨rfl, HR2.out, HK2.out⟩
  · rw [show giveAt L[k] p = L[k] by unfold giveAt; rw [if_pos ho], List.set_getElem_self]
    generalize L[k].1 = v at *
    have ho' : (v == p) = false := by simpa using ho
    obtain ⟨N, hN⟩ : ∃ N, N = L.length := ⟨_, rfl⟩
    have e3 : (k : Int) < (N : Int) := by omega
    rw [← hN] at y0 b1
    have H := Lib.hid h
    have HW := Lib.hid hw
    have HN := Lib.hid hN
    clear h hw hN
    clear hhand ho hql
    go_enter Try.func30, Try.ntmps30
    go_wp2_with fail
    refine HW.out.mono ?_
    rintro e w' ⟨rfl, rfl⟩
    go_wp2_with fail
    go_ret2
    exact REnds.now H.out (Kept.refl _ _)
theorem rgive_any (h : RAt w b F L) (n p : Int) (hlen : ∀ x ∈ L, x.2.length ≤ 1048576) : Calls Try.prog 30 #[.pointer (some ⟨b, 0, none⟩), .int .i64 n, .int .i64 p] w (REnds w b F (giveL L n p).1 (.tuple #[.int .i64 (giveL L n p).2.1, .int .i64 (giveL L n p).2.2])) := by
  unfold giveL
  by_cases he : wrongN L.length n p = 0
  · rw [if_neg (by simpa using he)]
    obtain ⟨k, rfl, hk, hp⟩ := wrong_zero he
    have e : L.getD k (0, []) = L[k] := by simp [List.getD_eq_getElem?_getD, List.getElem?_eq_getElem hk]
    rw [Int.toNat_natCast, e]
    exact rgive_good h k p hk hp (hlen _ (List.getElem_mem hk))
  · rw [if_pos he]; exact rgive_bad h n p he
def rheldL (L : List (Int × List Int)) (p : Int) : List Int := if p < 0 then [] else heldL L p
set_option maxHeartbeats 1000000 in
theorem rholds_any (h : RAt w b F L) (p : Int) (hL : L.length ≤ 1048576) : Calls Try.prog 32 #[.pointer (some ⟨b, 0, none⟩), .int .i64 p] w fun e w' =>
    ∃ r A c, e = .returned (.slice A (rheldL L p).length c) ∧ Row w' 1 r A (rheldL L p).length c ((rheldL L p).map (Value.int .i64)) ∧ (∀ k, r = some k → w.heap.size ≤ k) ∧ New w w' := by
  have H := Lib.hid h
  have hc : ∃ A co, w.cell? ⟨b, 0, none⟩ = some (.slice A L.length co) ∧ L.length ≤ co ∧ co ≤ 9223372036854775807 := by
    obtain ⟨⟨ro, Ao, co, rq, Aq, cq, Y, hp, hY⟩, h4⟩ := h
    obtain ⟨y0, y1, -, -, b1, b2, b3, b4⟩ := hp.cells
    exact ⟨_, _, y0, b1, b2⟩
  obtain ⟨A0, co, y0, b1, b2⟩ := hc
  have hk1 : New w (w.alloc (.cells #[] 3)) := (Kept.refl _ _).alloc _
  have hrow0 : Row (w.alloc (.cells #[] 3)) 1 none (some ⟨w.heap.size, 0, none⟩) 0 0 [] := row_nil _ 1 _
  have HC := Lib.hid (fun W (hW : New w W) => (hW.cell (p := ⟨b, 0, none⟩) (lt_of_cell y0).1 id).trans y0)
  have hne := World.new_ne w _ y0
  by_cases hp : p < 0
  · rw [show rheldL L p = [] from if_pos hp]
    have hL0 := lt_of_cell y0
    generalize L.length = n at *
    go_enter Try.func32, Try.ntmps32
    go_upto_region 2 with (fail)
    have HROW0 := Lib.hid hrow0
    clear hrow0
    generalize w.alloc (.cells #[] 3) = W at *
    have y0' := HC.out W hk1
    have HK1 := Lib.hid hk1
    clear hk1
    clear y0
    go_wp2_with fail
    go_loopw [5, 6] (fun s i wr => i = .int .i64 0 ∧ s = .slice (some ⟨w.heap.size, 0, none⟩) 0 0 ∧ wr = W) (fun _ _ _ => 0)
    case atStart => exact ⟨rfl, rfl, rfl⟩
    case round =>
      obtain ⟨rfl, rfl, rfl⟩ := hrel
      by_cases hn : (0 : Int) < (n : Int)
      · go_wp2_with fail
        go_ret
        exact ⟨none, _, 0, rfl, HROW0.out, by simp, HK1.out⟩
      · go_wp2_with fail
        go_ret
        exact ⟨none, _, 0, rfl, HROW0.out, by simp, HK1.out⟩
  · rw [show rheldL L p = heldL L p from if_neg hp]
    have hp0 : 0 ≤ p := by omega
    clear hp
    unfold heldL
    obtain ⟨n, hn⟩ : ∃ n, n = L.length := ⟨_, rfl⟩
    rw [← hn] at y0 b1 HC hL ⊢
    have HN := Lib.hid hn
    clear hn
    go_enter Try.func32, Try.ntmps32
    go_upto_region 2 with (fail)
    have HROW0 := Lib.hid hrow0
    clear hrow0
    generalize hW0 : w.alloc (.cells #[] 3) = W0 at *
    have HK1 := Lib.hid hk1
    have HW0 := Lib.hid hW0
    clear hk1 hW0
    clear y0
    go_wp2_with fail
    go_loopw [5, 6] (fun s i wr => ∃ (j m : Nat) (r : Option Nat) (A : Option Addr) (c : Nat), j ≤ n ∧ i = .int .i64 j ∧ s = .slice A m c ∧ m = (heldTo L p j).length ∧ Row wr 1 r A m c ((heldTo L p j).map (Value.int .i64)) ∧ (∀ k, r = some k → w.heap.size ≤ k) ∧ New w wr) (fun _ i _ => (n - intOf i).toNat)
    case atStart => exact ⟨0, 0, none, some ⟨w.heap.size, 0, none⟩, 0, Nat.zero_le _, rfl, rfl, rfl, HROW0.out, by simp, HK1.out⟩
    case round =>
      obtain ⟨j, m, r5, A5, c5, hj, rfl, rfl, hm, hr5, hf5, hnr⟩ := hrel
      have y0 := HC.out wr hnr
      by_cases hlt : j < n
      · have hjL : j < L.length := by rw [← HN.out]; exact hlt
        obtain ⟨g, o, co', z0, -, -, x0, -, -⟩ := (H.out.new hnr).own_here j hjL
        rw [← HN.out] at z0
        obtain ⟨rfl, rfl⟩ : A0 = some ⟨g, o, none⟩ ∧ co = co' := by
          rw [y0] at z0; injection z0 with z0; injection z0 with z1 _ z2; exact ⟨z1, z2⟩
        have hstep : heldTo L p (j + 1) = heldTo L p j ++ (if L[j].1 = p ∧ p ≠ -1 then [(j : Int)] else []) := by
          rw [show heldTo L p (j + 1) = heldTo L p j ++ (if (L.getD j (0, [])).1 = p ∧ p ≠ -1 then [(j : Int)] else []) from rfl]
          rw [List.getD_eq_getElem?_getD, List.getElem?_eq_getElem hjL]
          rfl
        have hml : m ≤ j := by rw [hm]; exact heldTo_len _ _ _
        have hb5 := hr5.bound
        generalize L[j].1 = ow at *
        clear z0
        have e2 : (0 : Int) ≤ (j : Int) := by omega
        have e3 : (j : Int) < (n : Int) := by omega
        by_cases ho : ow = p
        · rw [if_pos ⟨ho, by omega⟩] at hstep
          subst ho
          have HF5 := Lib.hid hf5
          have HSTEP := Lib.hid hstep
          have HM := Lib.hid hm
          have HNR := Lib.hid hnr
          have HR5 := Lib.hid hr5
          clear hf5 hstep hm hnr hr5
          go_wp2_with (at_builtin; refine wpList_append_one (cs := [.int .i64 (j : Int)]) tyInts rfl (.tmp 30) (.tmp 32) rfl rfl HR5.out rfl rfl rfl (by simp [Value.oneCell']) (by unfold maxLen; omega) (by omega) ?_; intro r2 A2 c2' w2 hr2 hk2 hn2; have HR2 := Lib.hid hr2; have HK2 := Lib.hid hk2; have HN2 := Lib.hid hn2; clear hr2 hk2 hn2)
          go_roundw
          case rel =>
            refine ⟨j + 1, m + 1, r2, A2, c2', by omega, by go_num, rfl, by rw [HSTEP.out, List.length_append, ← HM.out]; rfl, by rw [HSTEP.out, List.map_append]; exact HR2.out, fun k hk => ?_, HNR.out.step HK2.out fun k hk e => absurd (HF5.out k e) (Nat.not_le.2 hk)⟩
            rcases HN2.out k hk with e | e
            · exact HF5.out k e
            · exact Nat.le_trans HNR.out.size e
          case measure => simp [intOf]; omega
        · rw [if_neg (fun h => ho h.1), List.append_nil] at hstep
          have ho' : (ow == p) = false := by simpa using ho
          have HF5 := Lib.hid hf5
          have HSTEP := Lib.hid hstep
          have HM := Lib.hid hm
          have HNR := Lib.hid hnr
          have HR5 := Lib.hid hr5
          clear hf5 hstep hm hnr hr5
          clear ho
          go_wp2_with fail
          go_roundw
          case rel => exact ⟨j + 1, m, r5, A5, c5, by omega, by go_num, rfl, by rw [HSTEP.out]; exact HM.out, by rw [HSTEP.out]; exact HR5.out, HF5.out, HNR.out⟩
          case measure => simp [intOf]; omega
      · obtain rfl : j = n := by omega
        have HNR := Lib.hid hnr
        have HR5 := Lib.hid hr5
        have HF5 := Lib.hid hf5
        have HM := Lib.hid hm
        clear hnr hr5 hf5 hm
        go_wp2_with fail
        go_ret
        exact ⟨r5, A5, c5, by rw [← HM.out]; rfl, by rw [← HM.out]; exact HR5.out, HF5.out, HNR.out⟩
end
end Go.Proofs.Ytjjlemkmdldljaa.Locks
