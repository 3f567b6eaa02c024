/- The walks of the reference's is, Put, Drop, Some, Leave, Wait (layer 10). -/
import Derived.Test.YtnfaafdgfafcjaaPostE
namespace Go.Proofs.Ytnfaafdgfafcjaa.Lane
open Go.RowKit Go.Fb
set_option linter.unusedVariables false
section
variable {w : World} {b : Nat} {F : Nat → Prop} {Ls : List Lane} {cur : Int}
theorem is_any (h : PAtR w b F Ls cur) (n : Int) : Calls Try.prog 50 #[.pointer (some ⟨b, 0, none⟩), .int .i64 n] w fun e w' => e = .returned (.bool (decide (0 ≤ n ∧ n < (Ls.length : Int)))) ∧ w = w' := by
  obtain ⟨A, c, c0, c1, hb⟩ := h.head
  have hcs : (n < 0 ∧ decide (0 ≤ n ∧ n < (Ls.length : Int)) = false) ∨ (0 ≤ n ∧ n < (Ls.length : Int) ∧ decide (0 ≤ n ∧ n < (Ls.length : Int)) = true) ∨ (0 ≤ n ∧ (Ls.length : Int) ≤ n ∧ decide (0 ≤ n ∧ n < (Ls.length : Int)) = false) := by
    by_cases a : n < 0
    · exact .inl ⟨a, decide_eq_false (fun h => by omega)⟩
    · by_cases b : n < (Ls.length : Int)
      · exact .inr (.inl ⟨by omega, b, decide_eq_true ⟨by omega, b⟩⟩)
      · exact .inr (.inr ⟨by omega, by omega, decide_eq_false (fun h => by omega)⟩)
  generalize decide (0 ≤ n ∧ n < (Ls.length : Int)) = res at *
  generalize Ls.length = m at *
  clear h
  rcases hcs with ⟨a, rfl⟩ | ⟨a, b', rfl⟩ | ⟨a, b', rfl⟩
  all_goals
    go_enter Try.func50, Try.ntmps50
    go_wp2_with fail
    go_ret
    exact ⟨by simp [Array.getD] <;> omega, rfl⟩
set_option maxHeartbeats 1000000 in
theorem rpput_any (h : PAtR w b F Ls cur) (n v : Int) (h64 : ∀ L ∈ Ls, L.vals.length ≤ 1048576) : Calls Try.prog 29 #[.pointer (some ⟨b, 0, none⟩), .int .i64 n, .int .i64 v] w (PEndsR w b F (putP Ls n v).1 cur (.int .i64 (putP Ls n v).2)) := by
  have hth := is_any h n
  by_cases hr : 0 ≤ n ∧ n < (Ls.length : Int)
  · obtain ⟨i, rfl, hi⟩ : ∃ i : Nat, n = i ∧ i < Ls.length := ⟨n.toNat, by omega, by omega⟩
    rw [decide_eq_true hr] at hth
    have E := Lib.hid (show putP Ls i v = (Ls.set i (putL Ls[i] v).1, (putL Ls[i] v).2) by unfold putP; rw [if_pos hr, laneAt_eq hi, Int.toNat_natCast])
    obtain ⟨⟨r, A, c, bs, Fs, hp, hf⟩, hlt⟩ := h
    obtain ⟨g, o, rfl, -, x0⟩ := hp.cell i hi
    have c0 := hp.blk.cell 0
    simp only [List.getElem?_toArray, List.getElem?_cons_zero] at c0
    have hb := hp.row.bound
    have hput := rput_any (hp.lanes i hi) v (h64 _ (List.getElem_mem hi))
    have HST := Lib.hid (fun w' L' hk hL => hp.step (w' := w') (L' := L') i hi hk hL)
    generalize bs i = bi at *
    generalize (putL Ls[i] v).1 = L' at *
    generalize (putL Ls[i] v).2 = er at *
    have hml : i < Ls.length := hi
    obtain ⟨m, hm⟩ : ∃ m, m = Ls.length := ⟨_, rfl⟩
    rw [← hm] at c0 hb hml
    have HTH := Lib.hid hth
    have HPUT := Lib.hid hput
    have HF := Lib.hid hf
    have HLT := Lib.hid hlt
    have HM := Lib.hid hm
    clear hth hput hf hlt hm
    clear hp h64 hr hi
    go_enter Try.func29, Try.ntmps29
    go_wp2_with fail
    refine HTH.out.mono ?_
    rintro e w' ⟨rfl, rfl⟩
    go_wp2_with fail
    refine HPUT.out.mono ?_
    rintro e w2 ⟨rfl, hL, hk⟩
    have HEND := Lib.hid (PParts.ends HLT.out HF.out ((Grown.refl w Fs).step i hk) (HST.out w2 L' hk hL) (.int .i64 er))
    clear hL hk
    go_wp2_with fail
    go_ret
    rw [E.out]
    exact HEND.out
  · rw [decide_eq_false hr] at hth
    have E := Lib.hid (show putP Ls n v = (Ls, 2) from if_neg hr)
    have H := Lib.hid h
    have HTH := Lib.hid hth
    clear h hth
    clear hr h64
    go_enter Try.func29, Try.ntmps29
    go_wp2_with fail
    refine HTH.out.mono ?_
    rintro e w' ⟨rfl, rfl⟩
    go_wp2_with fail
    go_ret
    rw [E.out]
    exact H.out.still_ends (Kept.refl _ _) _
set_option maxHeartbeats 1000000 in
theorem rpdrop_any (h : PAtR w b F Ls cur) (n : Int) (hd : ∀ L ∈ Ls, 0 ≤ L.dropped ∧ L.dropped ≤ 65535) : Calls Try.prog 31 #[.pointer (some ⟨b, 0, none⟩), .int .i64 n] w (PEndsR w b F (dropP Ls n) cur (.tuple #[])) := by
  have hth := is_any h n
  by_cases hr : 0 ≤ n ∧ n < (Ls.length : Int)
  · obtain ⟨i, rfl, hi⟩ : ∃ i : Nat, n = i ∧ i < Ls.length := ⟨n.toNat, by omega, by omega⟩
    rw [decide_eq_true hr] at hth
    have E := Lib.hid (show dropP Ls i = Ls.set i (dropL Ls[i]) by unfold dropP; rw [if_pos hr, laneAt_eq hi, Int.toNat_natCast])
    obtain ⟨⟨r, A, c, bs, Fs, hp, hf⟩, hlt⟩ := h
    obtain ⟨g, o, rfl, -, x0⟩ := hp.cell i hi
    have c0 := hp.blk.cell 0
    simp only [List.getElem?_toArray, List.getElem?_cons_zero] at c0
    have hb := hp.row.bound
    have hput := rdrop_any (hp.lanes i hi) (hd _ (List.getElem_mem hi))
    rw [show ({ Ls[i] with dropped := min (Ls[i].dropped + 1) 65535 } : Lane) = dropL Ls[i] from rfl] at hput
    have HST := Lib.hid (fun w' L' hk hL => hp.step (w' := w') (L' := L') i hi hk hL)
    generalize bs i = bi at *
    generalize dropL Ls[i] = L' at *
    have hml : i < Ls.length := hi
    obtain ⟨m, hm⟩ : ∃ m, m = Ls.length := ⟨_, rfl⟩
    rw [← hm] at c0 hb hml
    have HTH := Lib.hid hth
    have HPUT := Lib.hid hput
    have HF := Lib.hid hf
    have HLT := Lib.hid hlt
    have HM := Lib.hid hm
    clear hth hput hf hlt hm
    clear hp hd hr hi
    go_enter Try.func31, Try.ntmps31
    go_wp2_with fail
    refine HTH.out.mono ?_
    rintro e w' ⟨rfl, rfl⟩
    go_wp2_with fail
    refine HPUT.out.mono ?_
    rintro e w2 ⟨rfl, hL, hk⟩
    have HEND := Lib.hid (PParts.ends HLT.out HF.out ((Grown.refl w Fs).step i hk) (HST.out w2 L' hk hL) (.tuple #[]))
    clear hL hk
    go_wp2_with fail
    go_end0
    rw [E.out]
    exact HEND.out
  · rw [decide_eq_false hr] at hth
    have E := Lib.hid (show dropP Ls n = Ls from if_neg hr)
    have H := Lib.hid h
    have HTH := Lib.hid hth
    clear h hth
    clear hr hd
    go_enter Try.func31, Try.ntmps31
    go_wp2_with fail
    refine HTH.out.mono ?_
    rintro e w' ⟨rfl, rfl⟩
    go_wp2_with fail
    go_end0
    rw [E.out]
    exact H.out.still_ends (Kept.refl _ _) _
theorem AtT.head {T : TypeId} {L : Lane} (h : AtT T w b F L) : ∃ Av cv Aw cw, w.cell? ⟨b, 0, none⟩ = some (.int .i64 L.room) ∧ w.cell? ⟨b, 1, none⟩ = some (.slice Av L.vals.length cv) ∧ w.cell? ⟨b, 2, none⟩ = some (.slice Aw L.waits.length cw) ∧ w.cell? ⟨b, 3, none⟩ = some (.int .i64 L.taken) ∧ w.cell? ⟨b, 4, none⟩ = some (.int .i64 L.dropped) ∧
    SliceOf repV w w.heap.size Av L.vals.length cv L.vals ∧ SliceOf repW w w.heap.size Aw L.waits.length cw L.waits := by
  obtain ⟨⟨rv, Av, cv, rw, Aw, cw, hp, -, -⟩, -, -⟩ := h
  obtain ⟨c0, c1, c2, c3, c4⟩ := hp.cells
  exact ⟨Av, cv, Aw, cw, c0, c1, c2, c3, c4, vals_read hp.vals rfl, waits_read hp.waits rfl⟩
set_option maxHeartbeats 1000000 in
theorem rpsome_any (h : PAtR w b F Ls cur) : Calls Try.prog 39 #[.pointer (some ⟨b, 0, none⟩)] w fun e w' => e = .returned (.bool (someP Ls)) ∧ w = w' := by
  obtain ⟨⟨r, A, c, bs, Fs, hp, hf⟩, hlt⟩ := h
  have c0 := hp.blk.cell 0
  simp only [List.getElem?_toArray, List.getElem?_cons_zero] at c0
  have hb := hp.row.bound
  have HCE := Lib.hid (fun i hi => hp.cell i hi)
  have HLN := Lib.hid (fun i (hi : i < Ls.length) => (hp.lanes i hi).head)
  have HYES := Lib.hid (fun i (hi : i < Ls.length) (h : 0 < Ls[i].vals.length) => show someP Ls = true from List.any_eq_true.2 ⟨Ls[i], List.getElem_mem hi, decide_eq_true h⟩)
  have HNO := Lib.hid (fun (h : ∀ i (hi : i < Ls.length), Ls[i].vals.length = 0) => show someP Ls = false from by
    unfold someP
    rw [List.any_eq_false]
    intro L hL
    obtain ⟨i, hi, rfl⟩ := List.mem_iff_getElem.1 hL
    rw [h i hi]
    decide)
  generalize someP Ls = res at *
  obtain ⟨m, hm⟩ : ∃ m, m = Ls.length := ⟨_, rfl⟩
  rw [← hm] at c0 hb
  have HM := Lib.hid hm
  clear hm
  clear hp hf hlt
  go_enter Try.func39, Try.ntmps39
  go_wp2_with fail
  go_loopw [3] (fun s wr => ∃ i : Nat, i ≤ m ∧ s = .int .i64 i ∧ wr = w ∧ Hid (∀ j (hj : j < Ls.length), j < i → Ls[j].vals.length = 0)) (fun s _ => (m - intOf s).toNat)
  case atStart => exact ⟨0, Nat.zero_le _, rfl, rfl, Lib.hid fun j hj h => absurd h (Nat.not_lt_zero _)⟩
  case round =>
    obtain ⟨i, hi, rfl, rfl, hno⟩ := hrel
    by_cases hlt : i < m
    · have hil : i < Ls.length := by rw [← HM.out]; exact hlt
      obtain ⟨g, o, rfl, -, x0⟩ := HCE.out i hil
      obtain ⟨Av, cv, Aw, cw, -, y1, -, -, -, hv, -⟩ := HLN.out i hil
      have hbv := hv.bound
      have HYI := Lib.hid (HYES.out i hil)
      have HN1 := Lib.hid (fun (hq : Ls[i].vals.length = 0) j (hj : j < Ls.length) (h : j < i + 1) => show Ls[j].vals.length = 0 by
        by_cases e : j = i
        · subst e; exact hq
        · exact hno.out j hj (by omega))
      generalize Ls[i].vals.length = nv at *
      generalize bs i = bi at *
      clear hv
      by_cases hv : 0 < nv
      · have E := Lib.hid (HYI.out hv)
        have hv' : (0 : Int) < (nv : Int) := by omega
        go_wp2_with fail
        go_ret
        exact ⟨by rw [E.out]; rfl, by trivial⟩
      · have H2 := Lib.hid (HN1.out (by omega))
        have hv' : (nv : Int) ≤ 0 := by omega
        clear hv
        go_wp2_with fail
        go_roundw
        case rel => exact ⟨i + 1, by omega, by go_num, trivial, H2⟩
        case measure => simp [intOf]; omega
    · obtain rfl : i = m := by omega
      have E := Lib.hid (HNO.out fun j hj => hno.out j hj (by rw [HM.out]; exact hj))
      go_wp2_with fail
      go_ret
      exact ⟨by rw [E.out]; rfl, by trivial⟩
set_option maxHeartbeats 2000000 in
theorem rpleave_any (h : PAtR w b F Ls cur) (p : Int) (hw : ∀ L ∈ Ls, L.waits.length ≤ 8000000000000) : Calls Try.prog 36 #[.pointer (some ⟨b, 0, none⟩), .int .i64 p] w (PEndsR w b F (leaveP Ls p).1 cur (.bool (leaveP Ls p).2)) := by
  obtain ⟨⟨r, A, c, bs, Fs, hp, hf⟩, hlt⟩ := h
  have hb := hp.row.bound
  have E := Lib.hid (show leaveP Ls p = (Ls.map fun L => (leaveL L p).1, Ls.any fun L => (leaveL L p).2) from rfl)
  obtain ⟨m, hm⟩ : ∃ m, m = Ls.length := ⟨_, rfl⟩
  rw [← hm] at hb
  have HM := Lib.hid hm
  have HP0 := Lib.hid hp
  have HF := Lib.hid hf
  have HLT0 := Lib.hid hlt
  clear hm hp hf hlt
  go_enter Try.func36, Try.ntmps36
  go_wp2_with fail
  go_loopw [5, 6] (fun s5 s wr => ∃ (i : Nat) (Fs' : Nat → Nat → Prop), i ≤ m ∧ s = .int .i64 i ∧ s5 = .bool ((Ls.take i).any fun L => (leaveL L p).2) ∧ PParts 72 91 wr b r A c bs Fs' (mapTo (fun L => (leaveL L p).1) i Ls) cur ∧ Grown w wr Fs Fs') (fun _ s _ => (m - intOf s).toNat)
  case atStart => exact ⟨0, Fs, Nat.zero_le _, rfl, by simp, by rw [mapTo_zero]; exact HP0.out, Grown.refl _ _⟩
  case round =>
    obtain ⟨i, Fs', hi, rfl, rfl, hp, hg⟩ := hrel
    have c0 := hp.blk.cell 0
    simp only [List.getElem?_toArray, List.getElem?_cons_zero, mapTo_len] at c0
    rw [← HM.out] at c0
    by_cases hlt : i < m
    · have hil : i < Ls.length := by rw [← HM.out]; exact hlt
      have him : i < (mapTo (fun L => (leaveL L p).1) i Ls).length := by rw [mapTo_len]; exact hil
      obtain ⟨g, o, rfl, -, x0⟩ := hp.cell i him
      have hlv := rleave_any (hp.lanes i him) p (by rw [mapTo_get hil]; exact hw _ (List.getElem_mem hil))
      have HST := Lib.hid (fun w' L' hk hL => hp.step (w' := w') (L' := L') i him hk hL)
      have HGS := Lib.hid (fun w' hk => hg.step (w2 := w') i hk)
      rw [mapTo_get hil] at hlv
      have HSET := Lib.hid (mapTo_set (f := fun L => (leaveL L p).1) hil)
      have HANY := Lib.hid (any_next (g := fun L => (leaveL L p).2) hil)
      generalize (List.take i Ls).any (fun L => (leaveL L p).2) = fl at *
      generalize (leaveL Ls[i] p).1 = L' at *
      generalize hres : (leaveL Ls[i] p).2 = res at *
      generalize bs i = bi at *
      have HLV := Lib.hid hlv
      have HRES := Lib.hid hres
      have HGG := Lib.hid hg
      clear hlv hres hg
      clear hp
      go_wp2_with fail
      refine HLV.out.mono ?_
      rintro e w2 ⟨rfl, hL, hk⟩
      have HP2 := Lib.hid (HST.out w2 L' hk hL)
      have HG2 := Lib.hid (HGS.out w2 hk)
      clear hL hk c0 x0
      cases fl with
      | true =>
        go_wp2_with fail
        go_roundw
        case rel => exact ⟨i + 1, _, by omega, by go_num, by rw [HANY.out, Bool.true_or], by rw [← HSET.out]; exact HP2.out, HG2.out⟩
        case measure => simp [intOf]; omega
      | false =>
        go_wp2_with fail
        go_roundw
        case rel => exact ⟨i + 1, _, by omega, by go_num, by rw [HANY.out, Bool.false_or], by rw [← HSET.out]; exact HP2.out, HG2.out⟩
        case measure => simp [intOf]; omega
    · obtain rfl : i = m := by omega
      have hall := mapTo_all (f := fun L => (leaveL L p).1) HM.out
      rw [hall] at hp
      have HT := Lib.hid (show (Ls.take i).any (fun L => (leaveL L p).2) = Ls.any fun L => (leaveL L p).2 by rw [HM.out, List.take_length])
      generalize (Ls.take i).any (fun L => (leaveL L p).2) = fl at *
      obtain ⟨g, o, hgo⟩ : ∃ g o, True := ⟨0, 0, trivial⟩
      have HEND := Lib.hid (fun v => PParts.ends HLT0.out HF.out hg hp v)
      clear hp hg hall hgo
      go_wp2_with fail
      go_ret
      rw [E.out, ← HT.out]
      exact HEND.out _
end
end Go.Proofs.Ytnfaafdgfafcjaa.Lane
