/- The walk of the reference's New (layer 12). -/
import Derived.Test.YtjjlemkmdldljaaLocksO
namespace Go.Proofs.Ytjjlemkmdldljaa.Locks
open Go.RowKit Go.Fb
set_option linter.unusedVariables false
def rfree : Lk := ⟨0, none, none, 0, []⟩
theorem Told.store {w : World} {B no nq b : Nat} {ro : Option Nat} {Ao : Option Addr} {co : Nat} {rq : Option Nat} {Aq : Option Addr} {cq : Nat} {os : List Int} {Y : List Lk} (h : Told B w no nq ro Ao co rq Aq cq os Y) (b1 : ro ≠ some b) (b2 : rq ≠ some b) (b3 : ∀ y ∈ Y, y.r ≠ some b) (i : Nat) (v : Value) : Told B (w.setCell ⟨b, i, none⟩ v) no nq ro Ao co rq Aq cq os Y :=
  h.kept (Kept.set1 w b i v) (fun k e h => b1 (by rw [e, h])) (fun k e h => b2 (by rw [e, h])) (fun y hy k e h => b3 y hy (by rw [e, h]))
set_option maxHeartbeats 1000000 in
theorem rnew_any (n : Int) (w : World) : Calls Try.prog 9 #[.int .i64 n] w fun e w' => New w w' ∧
    ((0 ≤ n ∧ n ≤ 8 ∧ e = .returned (.tuple #[.pointer (some ⟨w.heap.size, 0, none⟩), .int .i64 0]) ∧ ∃ F, RAt w' w.heap.size F (List.replicate n.toNat (-1, [])) ∧ ∀ k, F k → w.heap.size ≤ k) ∨ (¬ (0 ≤ n ∧ n ≤ 8) ∧ e = .returned (.tuple #[.pointer none, .int .i64 1]))) := by
  by_cases h : 0 ≤ n ∧ n ≤ 8
  · obtain ⟨m, rfl⟩ : ∃ m : Nat, n = m := ⟨n.toNat, by omega⟩
    have hm : m ≤ 8 := by omega
    have hb0 : Blk (w.alloc (.cells #[.slice none 0 0, .slice none 0 0] 58)) w.heap.size 58 #[.slice none 0 0, .slice none 0 0] := Blk.made _ _ _
    have hn0 : New w (w.alloc (.cells #[.slice none 0 0, .slice none 0 0] 58)) := (Kept.refl _ _).alloc _
    have hp0 : Told w.heap.size (w.alloc (.cells #[.slice none 0 0, .slice none 0 0] 58)) 0 0 none none 0 none none 0 [] [] := ⟨Row.nil _ _, Row.nil _ _, by simp, by simp, by simp, by simp, by simp, by simp, fun i j hi => absurd hi (by simp)⟩
    have HP0 := Lib.hid hp0
    have HN0 := Lib.hid hn0
    have HB0 := Lib.hid hb0
    clear hp0 hn0 hb0
    clear h
    go_enter Try.func9, Try.ntmps9
    go_wp2_with fail
    generalize w.alloc (.cells #[.slice none 0 0, .slice none 0 0] 58) = W0 at *
    go_loopw [5] (fun i wr => ∃ (j : Nat) (ro : Option Nat) (Ao : Option Addr) (co : Nat) (rq : Option Nat) (Aq : Option Addr) (cq : Nat), j ≤ m ∧ i = .int .i64 j ∧ New w wr ∧ Blk wr w.heap.size 58 #[.slice Ao j co, .slice Aq j cq] ∧ Told w.heap.size wr j j ro Ao co rq Aq cq (List.replicate j (-1)) (List.replicate j rfree) ∧ ro ≠ some w.heap.size ∧ rq ≠ some w.heap.size) (fun i _ => (m - intOf i).toNat)
    case atStart => exact ⟨0, none, none, 0, none, none, 0, by omega, rfl, HN0.out, HB0.out, HP0.out, by simp, by simp⟩
    case round =>
      obtain ⟨j, ro, Ao, co, rq, Aq, cq, hj, rfl, hnr, hb, ht, h1, h2⟩ := hrel
      by_cases hlt : j < m
      · have c0 := hb.cell 0
        have c1 := hb.cell 1
        have f0 := hb.free 0
        simp only [List.getElem?_toArray, List.getElem?_cons_zero, List.getElem?_cons_succ] at c0 c1
        have hbo := ht.ow.bound
        have hbq := ht.qu.bound
        have HNR := Lib.hid hnr
        have HT := Lib.hid ht
        have HB := Lib.hid hb
        have H1 := Lib.hid h1
        have H2 := Lib.hid h2
        clear hnr ht hb h1 h2
        go_upto_region 8 with (at_builtin; refine wpList_append_one (cs := [.int .i64 (-1)]) tyInts rfl (.tmp 23) (.tmp 24) rfl rfl HT.out.ow rfl rfl rfl (by simp [Value.oneCell']) (by unfold maxLen; omega) (by omega) ?_; intro r2 A2 c2' w2 hr2 hk2 hn2; have hb2 := HB.out.kept hk2 H1.out; have x1 := hb2.cell 0; have x2 := hb2.free 0; simp only [List.getElem?_toArray, List.getElem?_cons_zero] at x1; have HR2 := Lib.hid hr2; have HK2 := Lib.hid hk2; have HN2 := Lib.hid hn2; have HB2 := Lib.hid hb2; clear hr2 hk2 hn2 hb2)
        have ht2 := HT.out.push_own (by exact HNR.out.size) (v := -1) HR2.out HK2.out HN2.out
        have hr2b : r2 ≠ some w.heap.size := fun e => by
          rcases HN2.out _ e with h | h
          · exact H1.out h
          · have := HB.out.lt; omega
        have hf : ∀ y ∈ List.replicate j rfree, y.r ≠ some w.heap.size := fun y hy => by rw [List.eq_of_mem_replicate hy]; simp [rfree]
        have ht3 := ht2.store hr2b H2.out hf 0 (.slice A2 (j + 1) c2')
        have hb3 := HB2.out.set (i := 0) (.slice A2 (j + 1) c2')
        simp only [List.setIfInBounds_toArray, List.set_cons_zero] at hb3
        have hn3 : New w (w2.setCell ⟨w.heap.size, 0, none⟩ (.slice A2 (j + 1) c2')) := (HNR.out.step HK2.out fun k hk e => absurd (HT.out.fo k e) (Nat.not_le.2 hk)).setCell (.inl (Nat.le_refl _)) _
        generalize w2.setCell ⟨w.heap.size, 0, none⟩ (.slice A2 (j + 1) c2') = W3 at *
        have y0 := hb3.cell 0
        have y1 := hb3.cell 1
        have y2 := hb3.free 1
        simp at y0 y1
        have hbq := ht3.qu.bound
        have HT3 := Lib.hid ht3
        have HB3 := Lib.hid hb3
        have HN3 := Lib.hid hn3
        have HR2B := Lib.hid hr2b
        have HF := Lib.hid hf
        clear ht3 hb3 hn3 hr2b hf
        clear c0 c1 f0 x1 x2 ht2
        go_wp2_with (at_builtin; refine wpList_append_one (cs := [.slice none 0 0]) tyQueues rfl (.tmp 32) (.tmp 33) rfl rfl HT3.out.qu rfl rfl rfl (by simp [Value.oneCell']) (by unfold maxLen; omega) (by omega) ?_; intro r7 A7 c7 w7 hr7 hk7 hn7; have hb7 := HB3.out.kept hk7 H2.out; have z1 := hb7.cell 1; have z2 := hb7.free 1; simp only [List.getElem?_toArray, List.getElem?_cons_zero, List.getElem?_cons_succ] at z1; have HR7 := Lib.hid hr7; have HK7 := Lib.hid hk7; have HN7 := Lib.hid hn7; have HB7 := Lib.hid hb7; clear hr7 hk7 hn7 hb7)
        go_roundw
        case rel =>
          have hr7b : r7 ≠ some w.heap.size := fun e => by
            rcases HN7.out _ e with h | h
            · exact H2.out h
            · have := HB3.out.lt; omega
          have ht8 := HT3.out.push_queue (y := rfree) (by exact HN3.out.size) (by simp) (Row.nil _ _) (by simp [rfree]) (by simp [rfree]) HR7.out HK7.out HN7.out
          rw [← List.replicate_succ', ← List.replicate_succ'] at ht8
          have ht9 := ht8.store HR2B.out hr7b (fun y hy => by rw [List.eq_of_mem_replicate hy]; simp [rfree]) 1 (.slice A7 (j + 1) c7)
          have hb9 := HB7.out.set (i := 1) (.slice A7 (j + 1) c7)
          simp only [List.setIfInBounds_toArray, List.set_cons_zero, List.set_cons_succ] at hb9
          exact ⟨j + 1, r2, A2, c2', r7, A7, c7, by omega, by go_num, (HN3.out.step HK7.out fun k hk e => absurd (HT3.out.fq k e) (Nat.not_le.2 hk)).setCell (.inl (Nat.le_refl _)) _, hb9, ht9, HR2B.out, hr7b⟩
        case measure => simp [intOf]; omega
      · obtain rfl : j = m := by omega
        have hf : ∃ F, RAt wr w.heap.size F (List.replicate j (-1, [])) ∧ ∀ k, F k → w.heap.size ≤ k := by
          refine ⟨fun k => w.heap.size ≤ k ∧ k < wr.heap.size, ⟨⟨ro, Ao, co, rq, Aq, cq, List.replicate j rfree, ?_, ?_⟩, fun k hk => hk.2⟩, fun k hk => hk.1⟩
          · rw [List.length_replicate, List.map_replicate]
            refine ⟨hb, ⟨ht.ow, ht.qu, ht.el, fun _ _ => Nat.zero_le _, fun _ _ => Nat.zero_le _, fun _ _ _ _ => Nat.zero_le _, ht.d1, ht.d2, ht.d3⟩, by simp, by simp, h1, h2, fun y hy => by rw [List.eq_of_mem_replicate hy]; simp [rfree], fun k e => ⟨ht.fo k e, ht.ow.lt (by decide) k e⟩, fun k e => ⟨ht.fq k e, ht.qu.lt (by decide) k e⟩, fun y hy k e => ⟨ht.fe y hy k e, (ht.el y hy).lt (by decide) k e⟩, ⟨Nat.le_refl _, hb.lt⟩⟩
          · rw [List.map_replicate, List.map_replicate]; rfl
        have HNR := Lib.hid hnr
        have HF := Lib.hid hf
        clear hnr hf
        clear hb ht h1 h2
        go_wp2_with fail
        go_ret2
        exact ⟨HNR.out, .inl ⟨by omega, by omega, rfl, by rw [Int.toNat_natCast]; exact HF.out⟩⟩
  · have H := Lib.hid h
    by_cases h0 : n < 0
    · clear h
      go_enter Try.func9, Try.ntmps9
      go_wp2
      go_ret2
      exact ⟨Kept.refl _ _, .inr ⟨H.out, rfl⟩⟩
    · have h0' : 0 ≤ n := by omega
      have h1 : 8 < n := by omega
      clear h h0
      go_enter Try.func9, Try.ntmps9
      go_wp2
      go_ret2
      exact ⟨Kept.refl _ _, .inr ⟨H.out, rfl⟩⟩
end Go.Proofs.Ytjjlemkmdldljaa.Locks
