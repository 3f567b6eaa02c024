/- The walks of package post's there, Put, Drop, Some (layer 10). -/
import Derived.Test.YtnfaafdgfafcjaaPostA
namespace Go.Proofs.Ytnfaafdgfafcjaa.Lane
open Go.RowKit Go.Fb
set_option linter.unusedVariables false
section
variable {w : World} {b : Nat} {F : Nat → Prop} {Ls : List Lane} {cur : Int}
theorem PAtT.head {TP TL : TypeId} (h : PAtT TP TL w b F Ls cur) : ∃ A c, w.cell? ⟨b, 0, none⟩ = some (.slice A Ls.length c) ∧ w.cell? ⟨b, 1, none⟩ = some (.int .i64 cur) ∧ Ls.length ≤ c ∧ c ≤ 9223372036854775807 := by
  obtain ⟨⟨r, A, c, bs, Fs, hp, -⟩, -⟩ := h
  exact ⟨A, c, hp.blk.cell 0, hp.blk.cell 1, hp.row.bound⟩
theorem there_any (h : PAt w b F Ls cur) (n : Int) : Calls Try.prog 21 #[.pointer (some ⟨b, 0, none⟩), .int .i64 n] w fun e w' => e = .returned (.bool (decide (0 ≤ n ∧ n < (Ls.length : Int)))) ∧ w = w' := by
  obtain ⟨A, c, c0, c1, hb⟩ := h.head
  have hcs : (n < 0 ∧ decide (0 ≤ n ∧ n < (Ls.length : Int)) = false) ∨ (0 ≤ n ∧ n < (Ls.length : Int) ∧ decide (0 ≤ n ∧ n < (Ls.length : Int)) = true) ∨ (0 ≤ n ∧ (Ls.length : Int) ≤ n ∧ decide (0 ≤ n ∧ n < (Ls.length : Int)) = false) := by
    by_cases a : n < 0
    · exact .inl ⟨a, decide_eq_false (fun h => by omega)⟩
    · by_cases b : n < (Ls.length : Int)
      · exact .inr (.inl ⟨by omega, b, decide_eq_true ⟨by omega, b⟩⟩)
      · exact .inr (.inr ⟨by omega, by omega, decide_eq_false (fun h => by omega)⟩)
  generalize decide (0 ≤ n ∧ n < (Ls.length : Int)) = res at *
  generalize Ls.length = m at *
  clear h
  rcases hcs with ⟨a, rfl⟩ | ⟨a, b', rfl⟩ | ⟨a, b', rfl⟩
  all_goals
    go_enter Try.func21, Try.ntmps21
    go_wp2_with fail
    go_ret
    exact ⟨by simp [Array.getD] <;> omega, rfl⟩
set_option maxHeartbeats 1000000 in
theorem pput_any (h : PAt w b F Ls cur) (n v : Int) (h64 : ∀ L ∈ Ls, L.vals.length ≤ 1048576) : Calls Try.prog 8 #[.pointer (some ⟨b, 0, none⟩), .int .i64 n, .int .i64 v] w (PEnds w b F (putP Ls n v).1 cur (.int .i64 (putP Ls n v).2)) := by
  have hth := there_any h n
  by_cases hr : 0 ≤ n ∧ n < (Ls.length : Int)
  · obtain ⟨i, rfl, hi⟩ : ∃ i : Nat, n = i ∧ i < Ls.length := ⟨n.toNat, by omega, by omega⟩
    rw [decide_eq_true hr] at hth
    have E := Lib.hid (show putP Ls i v = (Ls.set i (putL Ls[i] v).1, (putL Ls[i] v).2) by unfold putP; rw [if_pos hr, laneAt_eq hi, Int.toNat_natCast])
    obtain ⟨⟨r, A, c, bs, Fs, hp, hf⟩, hlt⟩ := h
    obtain ⟨g, o, rfl, -, x0⟩ := hp.cell i hi
    have c0 := hp.blk.cell 0
    simp only [List.getElem?_toArray, List.getElem?_cons_zero] at c0
    have hb := hp.row.bound
    have hput := put_any (hp.lanes i hi) v (h64 _ (List.getElem_mem hi))
    have HST := Lib.hid (fun w' L' hk hL => hp.step (w' := w') (L' := L') i hi hk hL)
    generalize bs i = bi at *
    generalize (putL Ls[i] v).1 = L' at *
    generalize (putL Ls[i] v).2 = er at *
    have hml : i < Ls.length := hi
    obtain ⟨m, hm⟩ : ∃ m, m = Ls.length := ⟨_, rfl⟩
    rw [← hm] at c0 hb hml
    have HTH := Lib.hid hth
    have HPUT := Lib.hid hput
    have HF := Lib.hid hf
    have HLT := Lib.hid hlt
    have HM := Lib.hid hm
    clear hth hput hf hlt hm
    clear hp h64 hr hi
    go_enter Try.func8, Try.ntmps8
    go_wp2_with fail
    refine HTH.out.mono ?_
    rintro e w' ⟨rfl, rfl⟩
    go_wp2_with fail
    refine HPUT.out.mono ?_
    rintro e w2 ⟨rfl, hL, hk⟩
    have HEND := Lib.hid (PParts.ends HLT.out HF.out ((Grown.refl w Fs).step i hk) (HST.out w2 L' hk hL) (.int .i64 er))
    clear hL hk
    go_wp2_with fail
    go_ret
    rw [E.out]
    exact HEND.out
  · rw [decide_eq_false hr] at hth
    have E := Lib.hid (show putP Ls n v = (Ls, 2) from if_neg hr)
    have H := Lib.hid h
    have HTH := Lib.hid hth
    clear h hth
    clear hr h64
    go_enter Try.func8, Try.ntmps8
    go_wp2_with fail
    refine HTH.out.mono ?_
    rintro e w' ⟨rfl, rfl⟩
    go_wp2_with fail
    go_ret
    rw [E.out]
    exact H.out.still_ends (Kept.refl _ _) _
set_option maxHeartbeats 1000000 in
theorem pdrop_any (h : PAt w b F Ls cur) (n : Int) (hd : ∀ L ∈ Ls, 0 ≤ L.dropped ∧ L.dropped ≤ 65535) : Calls Try.prog 30 #[.pointer (some ⟨b, 0, none⟩), .int .i64 n] w (PEnds w b F (dropP Ls n) cur (.tuple #[])) := by
  have hth := there_any h n
  by_cases hr : 0 ≤ n ∧ n < (Ls.length : Int)
  · obtain ⟨i, rfl, hi⟩ : ∃ i : Nat, n = i ∧ i < Ls.length := ⟨n.toNat, by omega, by omega⟩
    rw [decide_eq_true hr] at hth
    have E := Lib.hid (show dropP Ls i = Ls.set i (dropL Ls[i]) by unfold dropP; rw [if_pos hr, laneAt_eq hi, Int.toNat_natCast])
    obtain ⟨⟨r, A, c, bs, Fs, hp, hf⟩, hlt⟩ := h
    obtain ⟨g, o, rfl, -, x0⟩ := hp.cell i hi
    have c0 := hp.blk.cell 0
    simp only [List.getElem?_toArray, List.getElem?_cons_zero] at c0
    have hb := hp.row.bound
    have hput := drop_any (hp.lanes i hi) (hd _ (List.getElem_mem hi))
    rw [show ({ Ls[i] with dropped := min (Ls[i].dropped + 1) 65535 } : Lane) = dropL Ls[i] from rfl] at hput
    have HST := Lib.hid (fun w' L' hk hL => hp.step (w' := w') (L' := L') i hi hk hL)
    generalize bs i = bi at *
    generalize dropL Ls[i] = L' at *
    have hml : i < Ls.length := hi
    obtain ⟨m, hm⟩ : ∃ m, m = Ls.length := ⟨_, rfl⟩
    rw [← hm] at c0 hb hml
    have HTH := Lib.hid hth
    have HPUT := Lib.hid hput
    have HF := Lib.hid hf
    have HLT := Lib.hid hlt
    have HM := Lib.hid hm
    clear hth hput hf hlt hm
    clear hp hd hr hi
    go_enter Try.func30, Try.ntmps30
    go_wp2_with fail
    refine HTH.out.mono ?_
    rintro e w' ⟨rfl, rfl⟩
    go_wp2_with fail
    refine HPUT.out.mono ?_
    rintro e w2 ⟨rfl, hL, hk⟩
    have HEND := Lib.hid (PParts.ends HLT.out HF.out ((Grown.refl w Fs).step i hk) (HST.out w2 L' hk hL) (.tuple #[]))
    clear hL hk
    go_wp2_with fail
    go_end0
    rw [E.out]
    exact HEND.out
  · rw [decide_eq_false hr] at hth
    have E := Lib.hid (show dropP Ls n = Ls from if_neg hr)
    have H := Lib.hid h
    have HTH := Lib.hid hth
    clear h hth
    clear hr hd
    go_enter Try.func30, Try.ntmps30
    go_wp2_with fail
    refine HTH.out.mono ?_
    rintro e w' ⟨rfl, rfl⟩
    go_wp2_with fail
    go_end0
    rw [E.out]
    exact H.out.still_ends (Kept.refl _ _) _
set_option maxHeartbeats 1000000 in
theorem some_any (h : PAt w b F Ls cur) : Calls Try.prog 19 #[.pointer (some ⟨b, 0, none⟩)] w fun e w' => e = .returned (.bool (someP Ls)) ∧ w = w' := by
  obtain ⟨⟨r, A, c, bs, Fs, hp, hf⟩, hlt⟩ := h
  have c0 := hp.blk.cell 0
  simp only [List.getElem?_toArray, List.getElem?_cons_zero] at c0
  have hb := hp.row.bound
  have HCE := Lib.hid (fun i hi => hp.cell i hi)
  have HLN := Lib.hid (fun i (hi : i < Ls.length) => len_any (hp.lanes i hi))
  have HYES := Lib.hid (fun i (hi : i < Ls.length) (h : 0 < Ls[i].vals.length) => show someP Ls = true from List.any_eq_true.2 ⟨Ls[i], List.getElem_mem hi, decide_eq_true h⟩)
  have HNO := Lib.hid (fun (h : ∀ i (hi : i < Ls.length), Ls[i].vals.length = 0) => show someP Ls = false from by
    unfold someP
    rw [List.any_eq_false]
    intro L hL
    obtain ⟨i, hi, rfl⟩ := List.mem_iff_getElem.1 hL
    rw [h i hi]
    decide)
  obtain ⟨m, hm⟩ : ∃ m, m = Ls.length := ⟨_, rfl⟩
  rw [← hm] at c0 hb
  have HM := Lib.hid hm
  clear hm
  clear hp hf hlt
  go_enter Try.func19, Try.ntmps19
  go_wp2_with fail
  go_loopw [10] (fun s wr => ∃ i : Nat, i ≤ m ∧ s = .int .i64 i ∧ wr = w ∧ Hid (∀ j (hj : j < Ls.length), j < i → Ls[j].vals.length = 0)) (fun s _ => (m - intOf s).toNat)
  case atStart => exact ⟨0, Nat.zero_le _, rfl, rfl, Lib.hid fun j hj h => absurd h (Nat.not_lt_zero _)⟩
  case round =>
    obtain ⟨i, hi, rfl, rfl, hno⟩ := hrel
    by_cases hlt : i < m
    · have hil : i < Ls.length := by rw [← HM.out]; exact hlt
      obtain ⟨g, o, rfl, -, x0⟩ := HCE.out i hil
      have hln := HLN.out i hil
      have HYI := Lib.hid (HYES.out i hil)
      have HN1 := Lib.hid (fun (hq : Ls[i].vals.length = 0) j (hj : j < Ls.length) (h : j < i + 1) => show Ls[j].vals.length = 0 by
        by_cases e : j = i
        · subst e; exact hq
        · exact hno.out j hj (by omega))
      generalize Ls[i].vals.length = nv at *
      generalize bs i = bi at *
      have HLN_ := Lib.hid hln
      clear hln
      clear hil
      by_cases hv : 0 < nv
      · have E := Lib.hid (HYI.out hv)
        have hv' : (0 : Int) < (nv : Int) := by omega
        go_wp2_with fail
        refine HLN_.out.mono ?_
        rintro e w' ⟨rfl, rfl⟩
        go_wp2_with fail
        go_ret
        exact ⟨by rw [E.out]; rfl, by trivial⟩
      · have H2 := Lib.hid (HN1.out (by omega))
        have hv' : (nv : Int) ≤ 0 := by omega
        clear hv
        go_wp2_with fail
        refine HLN_.out.mono ?_
        rintro e w' ⟨rfl, rfl⟩
        go_wp2_with fail
        go_roundw
        case rel => exact ⟨i + 1, by omega, by go_num, trivial, H2⟩
        case measure => simp [intOf]; omega
    · obtain rfl : i = m := by omega
      have E := Lib.hid (HNO.out fun j hj => hno.out j hj (by rw [HM.out]; exact hj))
      go_wp2_with fail
      go_ret
      exact ⟨by rw [E.out]; rfl, by trivial⟩
end
end Go.Proofs.Ytnfaafdgfafcjaa.Lane
