/- The walks of slices.Clone, and of package locks' Holds (layer 12). -/
import Derived.Test.YtjjlemkmdldljaaLocksF
namespace Go.Proofs.Ytjjlemkmdldljaa.Locks
open Go.RowKit Go.Fb
set_option linter.unusedVariables false
theorem row_src {P : Program} {T E : TypeId} (hT : P.underlying T = some (.slice E)) {w : World} {r : Option Nat} {ad : Addr} {n c : Nat} {q : List Int} (h : Row w 1 r (some ad) n c (q.map (Value.int .i64))) : Go.Src P 1 T (.slice (some ad) n c) n (q.map (Value.int .i64)) w := by
  have hl := h.length
  refine Go.Src.ofSlice _ hT _ n c _ hl (fun j u hj => ?_) (by intro u hu; obtain ⟨x, -, rfl⟩ := List.mem_map.1 hu; simp [Value.oneCell'])
  have hjl : j < (q.map (Value.int .i64)).length := by
    rcases Nat.lt_or_ge j (q.map (Value.int .i64)).length with h | h
    · exact h
    · rw [List.getElem?_eq_none h] at hj; cases hj
  have hb := h.bound
  obtain ⟨g, o, e1, e2, h5, -⟩ := h.at_pos (by omega)
  injection e2 with e2
  subst e2
  rw [← hj, ← h5 j (by omega), add_eq]
theorem clone_any {w : World} {r : Option Nat} {A : Option Addr} {n c : Nat} {q : List Int} (h : Row w 1 r A n c (q.map (Value.int .i64))) (hn : n ≤ 1048576) :
    Calls Try.prog 23 #[.slice A n c] w fun e w' => ∃ r' A' c', e = .returned (.slice A' n c') ∧ Row w' 1 r' A' n c' (q.map (Value.int .i64)) ∧ (∀ k, r' = some k → w.heap.size ≤ k) ∧ New w w' := by
  cases A with
  | none =>
    have hz : n = 0 ∧ c = 0 := by
      rcases h.lies with ⟨_, h1, h2⟩ | ⟨_, _, _, _, e, _⟩
      · exact ⟨h1, h2⟩
      · cases e
    obtain ⟨rfl, rfl⟩ := hz
    have e : q.map (Value.int .i64) = [] := List.eq_nil_of_length_eq_zero (by rw [h.length])
    rw [e]
    have hq := fun (w : World) => Lib.run_eql_slice_nil (P := Try.prog) w 35 3 none 0 0 0 0 Try.underlying35
    have H := Lib.hid h
    clear h
    clear e
    go_enter Try.func23, Try.ntmps23
    go_wp2
    go_ret
    exact ⟨none, none, 0, rfl, Row.nil _ _, by simp, Kept.refl _ _⟩
  | some ad =>
    have hbd := h.bound
    have hsrc := row_src (P := Try.prog) (T := 35) Try.underlying35 (h.new (by decide) ((Kept.refl (fun _ => False) w).alloc (.cells #[] 3)))
    have hq := fun (w : World) => Lib.run_eql_slice_nil (P := Try.prog) w 35 3 (some ad) n c 0 0 Try.underlying35
    have hrow0 : Row (w.alloc (.cells #[] 3)) 1 none (some ⟨w.heap.size, 0, none⟩) 0 0 [] := ⟨rfl, .inl ⟨rfl, rfl, rfl⟩⟩
    have H := Lib.hid h
    have HSRC := Lib.hid hsrc
    have HROW0 := Lib.hid hrow0
    clear h hsrc hrow0
    go_enter Try.func23, Try.ntmps23
    go_wp2_with (at_builtin; refine wpList_append_row tyInts rfl (.tmp 5) (.tmp 6) rfl rfl HROW0.out rfl HSRC.out (by unfold maxLen; omega) (by omega) ?_; intro r2 A2 c2 w2 hr2 hk2 hn2; rw [Nat.zero_add, List.nil_append] at hr2; have HR2 := Lib.hid hr2; have HK2 := Lib.hid hk2; have HN2 := Lib.hid hn2; clear hr2 hk2 hn2)
    go_ret
    refine ⟨r2, A2, c2, by simp [Array.getD], HR2.out, fun k hk => ?_, ((Kept.refl _ _).alloc _).step HK2.out fun i hi e => by cases e⟩
    rcases HN2.out k hk with h | h
    · cases h
    · rw [← size1] at h; omega
/-- What p holds, below j. -/
def heldTo (L : List (Int × List Int)) (p : Int) : Nat → List Int
  | 0 => []
  | j + 1 => heldTo L p j ++ (if (L.getD j (0, [])).1 = p ∧ p ≠ -1 then [(j : Int)] else [])
def heldL (L : List (Int × List Int)) (p : Int) : List Int := heldTo L p L.length
theorem heldTo_len (L : List (Int × List Int)) (p : Int) : ∀ j, (heldTo L p j).length ≤ j
  | 0 => Nat.le_refl _
  | j + 1 => by
    have := heldTo_len L p j
    unfold heldTo
    rw [List.length_append]
    split <;> simp <;> omega
set_option maxHeartbeats 1000000 in
theorem holds_any {w : World} {b : Nat} {F : Nat → Prop} {L : List (Int × List Int)} (h : At w b F L) (p : Int) (hL : L.length ≤ 1048576) : Calls Try.prog 12 #[.pointer (some ⟨b, 0, none⟩), .int .i64 p] w fun e w' =>
    ∃ r A c, e = .returned (.slice A (heldL L p).length c) ∧ Row w' 1 r A (heldL L p).length c ((heldL L p).map (Value.int .i64)) ∧ (∀ k, r = some k → w.heap.size ≤ k) ∧ New w w' := by
  obtain ⟨⟨r, A, c, X, rfl, hp, h1, h2⟩, h3, h4⟩ := h
  have c0 := hp.blk.cell 0
  simp only [List.getElem?_toArray, List.getElem?_cons_zero] at c0
  have hb := hp.row.bound
  have HP := Lib.hid (fun wr (hk : New w wr) => hp.new hk)
  obtain ⟨n, hn⟩ : ∃ n, n = X.length := ⟨_, rfl⟩
  rw [← hn] at c0 hb
  have hL' : n ≤ 1048576 := by rw [hn]; simpa using hL
  unfold heldL
  rw [List.length_map, ← hn]
  have HN := Lib.hid hn
  clear hn
  clear hp h1 h2 h3 h4 hL
  go_enter Try.func12, Try.ntmps12
  go_wp2_with fail
  go_loopw [5, 13] (fun s i wr => ∃ (j m : Nat) (r : Option Nat) (A : Option Addr) (c : Nat), j ≤ n ∧ i = .int .i64 j ∧ s = .slice A m c ∧ m = (heldTo (X.map ab) p j).length ∧ Row wr 1 r A m c ((heldTo (X.map ab) p j).map (Value.int .i64)) ∧ (∀ k, r = some k → w.heap.size ≤ k) ∧ New w wr) (fun _ i _ => (n - intOf i).toNat)
  case atStart => exact ⟨0, 0, none, none, 0, Nat.zero_le _, rfl, rfl, rfl, Row.nil _ _, by simp, Kept.refl _ _⟩
  case round =>
    obtain ⟨j, m, r5, A5, c5, hj, rfl, rfl, hm, hr5, hf5, hnr⟩ := hrel
    by_cases hlt : j < n
    · have hjX : j < X.length := by rw [← HN.out]; exact hlt
      have hp := HP.out wr hnr
      obtain ⟨g, o, -, rfl, x0, x1, -, -⟩ := hp.at_ j hjX
      have hstep : heldTo (X.map ab) p (j + 1) = heldTo (X.map ab) p j ++ (if X[j].own = p ∧ p ≠ -1 then [(j : Int)] else []) := by
        rw [show heldTo (X.map ab) p (j + 1) = heldTo (X.map ab) p j ++ (if ((X.map ab).getD j (0, [])).1 = p ∧ p ≠ -1 then [(j : Int)] else []) from rfl]
        rw [List.getD_eq_getElem?_getD, List.getElem?_eq_getElem (by simpa using hjX)]
        simp [ab]
      have hml : m ≤ j := by rw [hm]; exact heldTo_len _ _ _
      have hb5 := hr5.bound
      generalize X[j].own = ow at *
      generalize X[j].A = Aj at *
      generalize X[j].c = cj at *
      generalize X[j].q.length = qn at *
      have hk4 : New wr (wr.alloc (.cells #[.int .i64 ow, .slice Aj qn cj] 56)) := (Kept.refl _ _).alloc _
      have hb4 := Blk.made wr 56 #[.int .i64 ow, .slice Aj qn cj]
      have hr4 := hr5.new (by decide) hk4
      have hn4 := hnr.trans hk4
      have HN4 := Lib.hid hn4
      have HR4 := Lib.hid hr4
      have HB4 := Lib.hid hb4
      have HF5 := Lib.hid hf5
      have HP := Lib.hid hp
      have HSTEP := Lib.hid hstep
      have HM := Lib.hid hm
      clear hn4 hr4 hb4 hf5 hp hstep hm
      clear hk4 hnr hr5
      go_upto_region 5 with (fail)
      generalize wr.alloc (.cells #[.int .i64 ow, .slice Aj qn cj] 56) = W4 at *
      have z0 := HB4.out.cell 0
      simp only [List.getElem?_toArray, List.getElem?_cons_zero] at z0
      by_cases ho : ow = p
      · by_cases hp1 : p = -1
        · have hs := HSTEP.out
          rw [if_neg (by simp [hp1]), List.append_nil] at hs
          subst ho
          have HS := Lib.hid hs
          clear hs
          have hp1' : (ow != -1) = false := by simpa using hp1
          clear hp1
          go_wp2_with fail
          go_roundw
          case rel => exact ⟨j + 1, m, r5, A5, c5, by omega, by go_num, rfl, by rw [HS.out]; exact HM.out, by rw [HS.out]; exact HR4.out, HF5.out, HN4.out⟩
          case measure => simp [intOf]; omega
        · have hs := HSTEP.out
          rw [if_pos ⟨ho, hp1⟩] at hs
          subst ho
          have HS := Lib.hid hs
          clear hs
          have hp1' : (ow != -1) = true := by simpa using hp1
          clear hp1
          go_wp2_with (at_builtin; refine wpList_append_one (cs := [.int .i64 (j : Int)]) tyInts rfl (.tmp 26) (.tmp 28) rfl rfl HR4.out rfl rfl rfl (by simp [Value.oneCell']) (by unfold maxLen; omega) (by omega) ?_; intro r2 A2 c2' w2 hr2 hk2 hn2; have HR2 := Lib.hid hr2; have HK2 := Lib.hid hk2; have HN2 := Lib.hid hn2; clear hr2 hk2 hn2)
          go_roundw
          case rel =>
            refine ⟨j + 1, m + 1, r2, A2, c2', by omega, by go_num, rfl, by rw [HS.out, List.length_append, ← HM.out]; rfl, by rw [HS.out, List.map_append]; exact HR2.out, fun k hk => ?_, HN4.out.step HK2.out fun k hk e => absurd (HF5.out k e) (Nat.not_le.2 hk)⟩
            rcases HN2.out k hk with e | e
            · exact HF5.out k e
            · exact Nat.le_trans HN4.out.size e
          case measure => simp [intOf]; omega
      · have hs := HSTEP.out
        rw [if_neg (fun h => ho h.1), List.append_nil] at hs
        have HS := Lib.hid hs
        clear hs
        have ho' : (ow == p) = false := by simpa using ho
        clear ho
        go_wp2_with fail
        go_roundw
        case rel => exact ⟨j + 1, m, r5, A5, c5, by omega, by go_num, rfl, by rw [HS.out]; exact HM.out, by rw [HS.out]; exact HR4.out, HF5.out, HN4.out⟩
        case measure => simp [intOf]; omega
    · obtain rfl : j = n := by omega
      have HNR := Lib.hid hnr
      have HR5 := Lib.hid hr5
      have HF5 := Lib.hid hf5
      have HM := Lib.hid hm
      clear hnr hr5 hf5 hm
      go_wp2_with fail
      go_ret
      exact ⟨r5, A5, c5, by rw [← HM.out]; rfl, by rw [← HM.out]; exact HR5.out, HF5.out, HNR.out⟩
end Go.Proofs.Ytjjlemkmdldljaa.Locks
