/- The walk of chapter 16's reference Encode. -/
import Derived.Test.YtgmibjhbneggeaaScriptV
namespace Go.Proofs.Ytgmibjhbneggeaa.Script
open Go.RowKit Go.Fb Go.BytesP Go.ScriptP
set_option linter.unusedVariables false

theorem mark_made (w : World) : OwnB 5 (w.alloc (.cells #[.int .u8 70, .int .u8 66, .int .u8 83, .int .u8 67, .int .u8 1] 5)) w.heap.size (.slice (some ⟨w.heap.size, 0, none⟩) ScriptP.mark.length 5) ScriptP.mark :=
  OwnB.made (Nat.le_refl _) ScriptP.mark (by decide)
theorem ref_numberL (L B g0 c0 : Nat) (n : Int) (m : Nat) (l : List UInt8) (w : World) (hv : OwnB 5 w B (.slice (some ⟨g0, 0, none⟩) L c0) l) (hL : L = l.length) (hB : B ≤ w.heap.size) (h0 : 0 ≤ n) (h1 : n ≤ 18446744073709551615) (hm : m ≤ 8) (hlen : l.length ≤ 1048576) :
    Calls Try.prog 21 #[.slice (some ⟨g0, 0, none⟩) L c0, .int .u64 n, .int .i64 m] w fun e w' => ∃ g c, e = .returned (.slice (some ⟨g, 0, none⟩) (L + m) c) ∧ OwnB 5 w' B (.slice (some ⟨g, 0, none⟩) (L + m) c) (l ++ le n m) ∧ Kept (fun k => k = g0) w w' ∧ (g = g0 ∨ w.heap.size ≤ g) := by
  subst hL
  exact ref_number B g0 c0 n m l w hv hB h0 h1 hm hlen
theorem ref_encode_err (A : Option Addr) (n c : Nat) (l : List Step) (w : World) (hl : SliceOf repStep w w.heap.size A n c l) (hm : may l ≠ (0, 0)) :
    Calls Try.prog 12 #[.slice A n c] w fun e w' => e = .returned (.tuple #[.slice none 0 0, .int .i64 (may l).1, .int .i64 (may l).2]) ∧ New w w' := by
  have hm1 : ((may l).1 != 0) = true := by
    simp only [bne_iff_ne, ne_eq]
    exact fun h => hm (may_zero h)
  generalize hE : may l = m at *
  have HL := Lib.hid hl
  have HE := Lib.hid hE
  clear hl hm hE
  go_enter Try.func12, Try.ntmps12
  go_wp2_with fail
  refine (ref_may A n c l w HL.out).mono ?_; rintro e w1 ⟨rfl, hw1⟩
  rw [HE.out]
  go_wp2_with fail
  refine bodyPost_ret (results_tmp3 rfl _ _ _) rfl ?_
  exact ⟨rfl, hw1⟩
set_option maxHeartbeats 1000000 in
theorem ref_encode_ok (A : Option Addr) (n c : Nat) (l : List Step) (w : World) (hl : SliceOf repStep w w.heap.size A n c l) (hm : may l = (0, 0)) :
    Calls Try.prog 12 #[.slice A n c] w fun e w' => ∃ g cap, e = .returned (.tuple #[.slice (some ⟨g, 0, none⟩) (enc l).length cap, .int .i64 0, .int .i64 0]) ∧ OwnB 5 w' w.heap.size (.slice (some ⟨g, 0, none⟩) (enc l).length cap) (enc l) ∧ New w w' := by
  have hn := hl.len
  have hb := hl.bound
  have hmo := may_ok hm
  have hle : n ≤ 1024 := by omega
  have HL := Lib.hid hl
  have HN := Lib.hid hn
  have HM := Lib.hid hm
  have HO := Lib.hid hmo
  have HV := Lib.hid (steps_inV hl)
  clear hl hn hm hmo
  go_enter Try.func12, Try.ntmps12
  go_wp2_with fail
  refine (ref_may A n c l w HL.out).mono ?_; rintro e w1 ⟨rfl, hw1⟩
  rw [HM.out]
  have HW1 := Lib.hid hw1
  have hs1 := hw1.size
  clear hw1
  go_wp2_with fail
  refine (ref_number w.heap.size _ 5 n 2 ScriptP.mark _ (Go.Joins.ownsRow_le (mark_made w1) hs1) (by simp; omega) (by omega) (by omega) (by decide) (by decide)).mono ?_
  rintro e w2 ⟨g2, c2, rfl, ho2, hk2, hl2⟩
  have hnew2 : New w w2 := (HW1.out.alloc _).step hk2 fun i hi e => by omega
  have Hnew2 := Lib.hid hnew2
  have Ho2 := Lib.hid ho2
  clear hnew2 ho2 hk2 hl2
  go_wp2_with fail
  go_loopw [7, 8] (fun v i wr => ∃ k g cap : Nat, k ≤ n ∧ i = .int .i64 k ∧ v = .slice (some ⟨g, 0, none⟩) (encTo l k).length cap ∧ OwnB 5 wr w.heap.size (.slice (some ⟨g, 0, none⟩) (encTo l k).length cap) (encTo l k) ∧ New w wr) (fun _ i _ => (n - intOf i).toNat)
  case atStart => exact ⟨0, g2, c2, by omega, rfl, rfl, by rw [encTo_zero l n HN.out, List.length_append, length_le]; exact Ho2.out, Hnew2.out⟩
  case round =>
    obtain ⟨k, g, cap, hk, rfl, rfl, ho, hnew⟩ := hrel
    have HW := Lib.hid hnew
    have Hown := Lib.hid ho
    clear hnew ho
    by_cases hlt : k < n
    · have hkl : k < l.length := by have := HN.out; omega
      obtain ⟨b, o, rfl, hb', hc⟩ := steps_at (HL.out.below HW.out.below) (by omega)
      obtain ⟨c0, c1, c3⟩ := hc k hkl
      have hv := HV.out l[k] (List.getElem_mem hkl)
      obtain ⟨f1, f2, f3, f4, f5⟩ := Fine.bd (s := l[k]) ⟨HO.out.2 l[k] (List.getElem_mem hkl), hv.1, hv.2⟩
      have F5 := Lib.hid f5
      have hes := encTo_succ l k hkl
      have hel := encTo_le l k (by omega)
      have hst : ∀ w', New w w' → w'.cell? ⟨b, o + k * 3, none⟩ = some (.int .i64 l[k].k) ∧ w'.cell? ⟨b, o + k * 3 + 1, none⟩ = some (.int .i64 l[k].n) ∧ w'.cell? ⟨b, o + k * 3 + 2, none⟩ = some (.int .i64 l[k].v) := by
        intro w' hw'
        obtain ⟨b', o', e, _, h⟩ := steps_at (HL.out.below hw'.below) (by omega)
        injection e with e
        injection e with e1 e2
        subst e1 e2
        exact h k hkl
      generalize l[k] = s at *
      have HST := Lib.hid hst
      have HES := Lib.hid hes
      have HEL := Lib.hid hel
      have hbk := bv_small (n := s.k) (by omega) (by omega)
      have HBK := Lib.hid hbk
      clear hc f5 hes hel hbk hst
      have hgl := (Hown.out.lt g rfl).2
      have hgw := (Hown.out.lt g rfl).1
      have hsz := HW.out.size
      go_wp2_with (at_builtin; refine wpList_byte tyBytes rfl _ _ rfl w.heap.size rfl (.inl (Hown.out.alloc _)) ⟨wr.heap.size, 0, none⟩ 1 _ (.int .u8 s.k) rfl (new_cell _ _ _ _ rfl) HBK.out (by have := HEL.out; omega) (by have := HW.out.size; simp; omega) ?_; intro g3 cap3 w3 ho3 hk3 hl3; have hn3 : New w w3 := New.step_own (HW.out.alloc _) hgw hk3; obtain ⟨d0, d1, d2⟩ := HST.out w3 hn3; have HO3 := Lib.hid ho3; have HN3 := Lib.hid hn3; clear ho3 hk3 hl3 hn3)
      refine (ref_numberL _ w.heap.size _ _ s.n 4 _ _ HO3.out (by simp) (by have := HN3.out.size; omega) f3 (by omega) (by decide) (by have := HEL.out; simp; omega)).mono ?_
      rintro e w4 ⟨g4, c4, rfl, ho4, hk4, hl4⟩
      have hn4 : New w w4 := HN3.out.step hk4 fun i hi e => by have := (HO3.out.lt g3 rfl).1; omega
      obtain ⟨e0, e1, e2⟩ := HST.out w4 hn4
      have HO4 := Lib.hid ho4
      have HN4 := Lib.hid hn4
      clear ho4 hk4 hl4 hn4 d0 d1 d2
      by_cases h2 : s.k = 2
      · have h2' : (s.k == 2) = true := by simpa using h2
        have H2 := Lib.hid h2
        clear h2
        go_wp2_with fail
        refine (ref_numberL _ w.heap.size _ _ (IntKind.u64.wrap s.v) 8 _ _ HO4.out (by simp [length_le]) (by have := HN4.out.size; omega) (by rw [IntKind.wrap_u64]; omega) (by rw [IntKind.wrap_u64]; omega) (by decide) (by have := HEL.out; simp [length_le]; omega)).mono ?_
        rintro e w5 ⟨g5, c5, rfl, ho5, hk5, hl5⟩
        have hn5 : New w w5 := HN4.out.step hk5 fun i hi e => by have := (HO4.out.lt g4 rfl).1; omega
        have HO5 := Lib.hid ho5
        have HN5 := Lib.hid hn5
        clear ho5 hk5 hl5 hn5 e0 e1 e2
        have hE : encTo l (k + 1) = encTo l k ++ [UInt8.ofNat s.k.toNat] ++ le s.n 4 ++ le (IntKind.u64.wrap s.v) 8 := by
          rw [HES.out, encS, if_pos H2.out, le_one (by omega) (by omega), le_u64]; simp
        have HE := Lib.hid hE
        clear hE
        go_wp2_with fail
        go_roundw
        case rel => exact ⟨k + 1, g5, c5, by omega, by go_num, by rw [HE.out]; simp [length_le], by rw [HE.out, List.length_append, List.length_append, List.length_append, length_le, length_le, List.length_singleton]; exact HO5.out, HN5.out⟩
        case measure => simp [intOf]; omega
      · have h2' : (s.k == 2) = false := by simpa using h2
        have H2 := Lib.hid h2
        clear h2
        have hE : encTo l (k + 1) = encTo l k ++ [UInt8.ofNat s.k.toNat] ++ le s.n 4 := by
          rw [HES.out, encS, if_neg H2.out, le_one (by omega) (by omega)]; simp
        have HE := Lib.hid hE
        clear hE
        go_wp2_with fail
        go_roundw
        case rel => exact ⟨k + 1, g4, c4, by omega, by go_num, by rw [HE.out]; simp [length_le], by rw [HE.out, List.length_append, List.length_append, length_le, List.length_singleton]; exact HO4.out, HN4.out⟩
        case measure => simp [intOf]; omega
    · obtain rfl : k = n := by omega
      have he : encTo l k = enc l := by have := encTo_all l; rwa [← HN.out] at this
      have He := Lib.hid he
      clear he
      go_wp2_with fail
      refine bodyPost_ret (results_tmp3 rfl _ _ _) rfl ?_
      rw [← He.out]
      exact ⟨g, cap, rfl, Hown.out, HW.out⟩
end Go.Proofs.Ytgmibjhbneggeaa.Script
