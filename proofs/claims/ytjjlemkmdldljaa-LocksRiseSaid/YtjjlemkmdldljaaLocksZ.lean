/- The walks of package locks' New, Take (layer 12). -/
import Derived.Test.YtjjlemkmdldljaaLocksY
namespace Go.Proofs.Ytjjlemkmdldljaa.Locks
open Go.RowKit Go.Fb
set_option linter.unusedVariables false
def free : Lk := ⟨-1, none, none, 0, []⟩
set_option maxHeartbeats 1000000 in
theorem new_any (n : Int) (w : World) : Calls Try.prog 8 #[.int .i64 n] w fun e w' => New w w' ∧
    ((0 ≤ n ∧ n ≤ 8 ∧ e = .returned (.tuple #[.pointer (some ⟨w.heap.size, 0, none⟩), .int .i64 0]) ∧ ∃ F, At w' w.heap.size F (List.replicate n.toNat (-1, [])) ∧ ∀ k, F k → w.heap.size ≤ k) ∨ (¬ (0 ≤ n ∧ n ≤ 8) ∧ e = .returned (.tuple #[.pointer none, .int .i64 1]))) := by
  by_cases h : 0 ≤ n ∧ n ≤ 8
  · obtain ⟨m, rfl⟩ : ∃ m : Nat, n = m := ⟨n.toNat, by omega⟩
    have hm : m ≤ 8 := by omega
    have hb0 : Blk (w.alloc (.cells #[.slice none 0 0] 54)) w.heap.size 54 #[.slice none 0 0] := Blk.made _ _ _
    have hn0 : New w (w.alloc (.cells #[.slice none 0 0] 54)) := (Kept.refl _ _).alloc _
    have hp0 : Parts (w.alloc (.cells #[.slice none 0 0] 54)) w.heap.size none none 0 [] := ⟨hb0, Row.nil _ _, by simp, by simp, by simp, fun i j hi => absurd hi (by simp)⟩
    have HP0 := Lib.hid hp0
    have HN0 := Lib.hid hn0
    clear hp0 hn0
    clear h hb0
    go_enter Try.func8, Try.ntmps8
    go_wp2_with fail
    generalize w.alloc (.cells #[.slice none 0 0] 54) = W0 at *
    go_loopw [14] (fun i wr => ∃ (j : Nat) (r : Option Nat) (A : Option Addr) (c : Nat), j ≤ m ∧ i = .int .i64 j ∧ New w wr ∧ Parts wr w.heap.size r A c (List.replicate j free) ∧ ∀ k, r = some k → w.heap.size ≤ k) (fun i _ => (m - intOf i).toNat)
    case atStart => exact ⟨0, none, none, 0, by omega, rfl, HN0.out, HP0.out, by simp⟩
    case round =>
      obtain ⟨j, r, A, c, hj, rfl, hnr, hp, hr⟩ := hrel
      by_cases hlt : j < m
      · have c0 := hp.blk.cell 0
        have f0 := hp.blk.free 0
        simp only [List.getElem?_toArray, List.getElem?_cons_zero, List.length_replicate] at c0
        have hrow := hp.row
        rw [List.length_replicate] at hrow
        have hbd := hrow.bound
        have HNR := Lib.hid hnr
        have HP := Lib.hid hp
        have HR := Lib.hid hr
        have HROW := Lib.hid hrow
        clear hnr hp hr hrow
        go_wp2_with (at_builtin; refine wpList_append_one (cs := [.int .i64 (-1), .slice none 0 0]) tyLocks rfl (.tmp 20) (.tmp 22) rfl rfl HROW.out rfl rfl rfl (by simp [Value.oneCell']) (by unfold maxLen; omega) (by omega) ?_; intro r2 A2 c2' w2 hr2 hk2 hn2; have hb2 := HP.out.blk.kept hk2 HP.out.d1; have x1 := hb2.cell 0; have x2 := hb2.free 0; simp only [List.length_replicate, List.getElem?_toArray, List.getElem?_cons_zero] at x1; have HR2 := Lib.hid hr2; have HK2 := Lib.hid hk2; have HN2 := Lib.hid hn2; clear hr2 hk2 hn2 hb2)
        go_roundw
        case rel =>
          have hp2 := HP.out.push (y := free) ⟨rfl, rfl, rfl, rfl⟩ (r' := r2) (A' := A2) (c' := c2') (w2 := w2) (by rw [List.length_append, List.length_replicate, List.flatMap_append]; exact HR2.out) HK2.out HN2.out
          rw [List.length_append, List.length_replicate, ← List.replicate_succ'] at hp2
          refine ⟨j + 1, r2, A2, c2', by omega, by go_num, ?_, hp2, ?_⟩
          · exact (HNR.out.step HK2.out fun k hk e => absurd (HR.out k e) (Nat.not_le.2 hk)).setCell (.inl (Nat.le_refl _)) _
          · intro k hk
            rcases HN2.out k hk with e | e
            · exact HR.out k e
            · exact Nat.le_trans HNR.out.size e
        case measure => simp [intOf]; omega
      · obtain rfl : j = m := by omega
        have hf : ∃ F, At wr w.heap.size F (List.replicate j (-1, [])) ∧ ∀ k, F k → w.heap.size ≤ k := by
          refine ⟨fun k => w.heap.size ≤ k ∧ k < wr.heap.size, ⟨⟨r, A, c, _, by rw [List.map_replicate]; rfl, hp, fun k hk => ⟨hr k hk, hp.row.lt (by decide) k hk⟩, fun x hx k hk => ?_⟩, ⟨Nat.le_refl _, hp.blk.lt⟩, fun k hk => hk.2⟩, fun k hk => hk.1⟩
          rw [List.eq_of_mem_replicate hx] at hk
          cases hk
        have HNR := Lib.hid hnr
        have HF := Lib.hid hf
        clear hnr hf
        clear hp hr
        go_wp2_with fail
        go_ret2
        exact ⟨HNR.out, .inl ⟨by omega, by omega, rfl, by rw [Int.toNat_natCast]; exact HF.out⟩⟩
  · have H := Lib.hid h
    by_cases h0 : n < 0
    · clear h
      go_enter Try.func8, Try.ntmps8
      go_wp2
      go_ret2
      exact ⟨Kept.refl _ _, .inr ⟨H.out, rfl⟩⟩
    · have h0' : 0 ≤ n := by omega
      have h1 : 8 < n := by omega
      clear h h0
      go_enter Try.func8, Try.ntmps8
      go_wp2
      go_ret2
      exact ⟨Kept.refl _ _, .inr ⟨H.out, rfl⟩⟩
end Go.Proofs.Ytjjlemkmdldljaa.Locks
