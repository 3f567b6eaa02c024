/- The walks of package post's waits, Wait (layer 10). -/
import Derived.Test.YtnfaafdgfafcjaaPostD
namespace Go.Proofs.Ytnfaafdgfafcjaa.Lane
open Go.RowKit Go.Fb
set_option linter.unusedVariables false
theorem waitsP_hit {Ls : List Lane} {p : Int} {i : Nat} (hi : i < Ls.length) (h1 : ∀ j (hj : j < Ls.length), j < i → waitsIn p Ls[j] = false) (h2 : waitsIn p Ls[i] = true) : waitsP Ls p = i := by
  have : Ls.findIdx (waitsIn p) = i := (List.findIdx_eq hi).2 ⟨h2, fun j hj => h1 j (by omega) hj⟩
  unfold waitsP; rw [this, if_pos hi]
theorem waitsP_miss {Ls : List Lane} {p : Int} (h1 : ∀ j (hj : j < Ls.length), waitsIn p Ls[j] = false) : waitsP Ls p = -1 := by
  have : Ls.findIdx (waitsIn p) = Ls.length := by
    refine List.findIdx_eq_length.2 fun x hx => ?_
    obtain ⟨j, hj, rfl⟩ := List.mem_iff_getElem.1 hx
    exact h1 j hj
  unfold waitsP; rw [this, if_neg (Nat.lt_irrefl _)]
section
variable {w : World} {b : Nat} {F : Nat → Prop} {Ls : List Lane} {cur : Int}
set_option maxRecDepth 100000 in
set_option maxHeartbeats 2000000 in
theorem pwaits_any (h : PAt w b F Ls cur) (p : Int) (hv : ∀ L ∈ Ls, L.vals.length ≤ 8000000000000 ∧ L.waits.length ≤ 8000000000000) : Calls Try.prog 55 #[.pointer (some ⟨b, 0, none⟩), .int .i64 p] w fun e w' => e = .returned (.int .i64 (waitsP Ls p)) ∧ New w w' := by
  obtain ⟨⟨r, A, c, bs, Fs, hp, hf⟩, hlt⟩ := h
  have c0 := hp.blk.cell 0
  simp only [List.getElem?_toArray, List.getElem?_cons_zero] at c0
  have hb := hp.row.bound
  have HCE := Lib.hid (fun W (hW : New w W) i hi => (hp.new hW).cell i hi)
  have HSTA := Lib.hid (fun W (hW : New w W) i (hi : i < Ls.length) => state_any ((hp.new hW).lanes i hi) (hv _ (List.getElem_mem hi)).1 (hv _ (List.getElem_mem hi)).2)
  have HIT := Lib.hid (fun i hi h1 h2 => waitsP_hit (Ls := Ls) (p := p) (i := i) hi h1 h2)
  have HMISS := Lib.hid (fun h => waitsP_miss (Ls := Ls) (p := p) h)
  generalize waitsP Ls p = res at *
  obtain ⟨m, hm⟩ : ∃ m, m = Ls.length := ⟨_, rfl⟩
  rw [← hm] at c0 hb
  have HM := Lib.hid hm
  clear hm
  clear hp hf hlt
  go_enter Try.func55, Try.ntmps55
  go_wp2_with fail
  go_loopw [14] (fun s wr => ∃ i : Nat, i ≤ m ∧ s = .int .i64 i ∧ New w wr ∧ Hid (∀ j (hj : j < Ls.length), j < i → waitsIn p Ls[j] = false)) (fun s _ => (m - intOf s).toNat)
  case atStart => exact ⟨0, Nat.zero_le _, rfl, Kept.refl _ _, Lib.hid fun j hj h => absurd h (Nat.not_lt_zero _)⟩
  case round =>
    obtain ⟨i, hi, rfl, hnr, hno⟩ := hrel
    obtain ⟨wo, rfl⟩ : ∃ wo, wo = wr := ⟨_, rfl⟩
    by_cases hlt : i < m
    · have hil : i < Ls.length := by rw [← HM.out]; exact hlt
      obtain ⟨g, o, rfl, -, x0⟩ := HCE.out wo hnr i hil
      have hst := HSTA.out wo hnr i hil
      have HI := Lib.hid (HIT.out i hil hno.out)
      have HNX := Lib.hid (fun (hq : waitsIn p Ls[i] = false) j (hj : j < Ls.length) (h : j < i + 1) => show waitsIn p Ls[j] = false by
        by_cases e : j = i
        · subst e; exact hq
        · exact hno.out j hj (by omega))
      generalize Ls[i] = L at *
      generalize bs i = bi at *
      unfold stC at hst
      have HST := Lib.hid hst
      have HNR := Lib.hid hnr
      clear hst hnr
      clear hil
      go_wp2_with fail
      refine HST.out.mono ?_
      rintro e w2 ⟨rv, Av, cv, rw, Aw, cw, rfl, ht, hn2⟩
      have HTW := Lib.hid (fun W (hW : New w2 W) => waits_read (ht.waits.new (by decide) hW) rfl)
      have hn2' := HNR.out.trans hn2
      have hbw := ht.waits.bound
      obtain ⟨nw, hnw⟩ : ∃ n, n = L.waits.length := ⟨_, rfl⟩
      rw [← hnw] at hbw ⊢
      simp only [← hnw] at HTW
      have hfl : ∀ W, (Instr.field 29 (.agg #[.slice Av L.vals.length cv, .slice Aw nw cw, .int .i64 L.taken, .int .i64 L.dropped]) 1).run Try.prog W = .ok (.slice Aw nw cw) W := fun W => by kernel_rfl
      have HN2' := Lib.hid hn2'
      have HNW := Lib.hid hnw
      clear hn2' hnw
      clear ht hn2
      go_wp2_with fail
      clear hfl
      go_loopw [23] (fun s wr => ∃ k : Nat, k ≤ nw ∧ s = .int .i64 k ∧ New w2 wr ∧ Hid (∀ t (ht : t < L.waits.length), t < k → L.waits[t].1 ≠ p)) (fun s _ => (nw - intOf s).toNat)
      case atStart => exact ⟨0, Nat.zero_le _, rfl, Kept.refl _ _, Lib.hid fun j hj h => absurd h (Nat.not_lt_zero _)⟩
      case round =>
        obtain ⟨k, hk, rfl, hkr, hne⟩ := hrel
        by_cases hlk : k < nw
        · have hkl : k < L.waits.length := by rw [← HNW.out]; exact hlk
          obtain ⟨g', o', rfl, -, hc⟩ := waits_at (HTW.out wr hkr) (by omega)
          obtain ⟨y0, y1⟩ := hc k hkl
          have HEQ := Lib.hid (fun (e : L.waits[k].1 = p) => HI.out (show waitsIn p L = true from by
            unfold waitsIn
            rw [place_hit hkl hne.out e]
            exact decide_eq_true (by omega)))
          have HN1 := Lib.hid (fun (hq : L.waits[k].1 ≠ p) t (ht : t < L.waits.length) (h : t < k + 1) => show L.waits[t].1 ≠ p by
            by_cases e : t = k
            · subst e; exact hq
            · exact hne.out t ht (by omega))
          generalize L.waits[k].1 = q at *
          generalize L.waits[k].2 = u at *
          have hal : New wr (wr.alloc (.cells #[.int .i64 q, .int .i64 u] 36)) := (Kept.refl _ _).alloc _
          have hbx := Blk.made wr 36 #[.int .i64 q, .int .i64 u]
          have hk2 := hkr.trans hal
          have HAL := Lib.hid hal
          have HBX := Lib.hid hbx
          have HK2 := Lib.hid hk2
          clear hal hbx hk2
          clear hc hkr
          go_upto_region 7 with (fail)
          generalize wr.alloc (.cells #[.int .i64 q, .int .i64 u] 36) = w4 at *
          have z0 := HBX.out.cell 0
          simp only [List.getElem?_toArray, List.getElem?_cons_zero] at z0
          by_cases he : q = p
          · have E := Lib.hid (HEQ.out he)
            subst he
            go_wp2_with fail
            go_ret
            exact ⟨by rw [E.out]; simp [Array.getD], HN2'.out.trans HK2.out⟩
          · have H2 := Lib.hid (HN1.out he)
            have he' : (q == p) = false := by simpa using he
            clear he
            go_wp2_with fail
            go_roundw
            case rel => exact ⟨k + 1, by omega, by go_num, HK2.out, H2⟩
            case measure => simp [intOf]; omega
        · obtain rfl : k = nw := by omega
          have H3 := Lib.hid (HNX.out (show waitsIn p L = false by
            unfold waitsIn
            rw [place_miss fun t ht => hne.out t ht (by rw [HNW.out]; exact ht)]
            rfl))
          have HKR := Lib.hid hkr
          clear hkr
          go_wp2_with fail
          go_roundw
          case rel => exact ⟨i + 1, by omega, by go_num, HN2'.out.trans HKR.out, H3⟩
          case measure => simp [intOf]; omega
    · obtain rfl : i = m := by omega
      have E := Lib.hid (HMISS.out fun j hj => hno.out j hj (by rw [HM.out]; exact hj))
      have HNR := Lib.hid hnr
      clear hnr
      go_wp2_with fail
      go_ret
      exact ⟨by rw [E.out]; simp [Array.getD], HNR.out⟩
set_option maxHeartbeats 1000000 in
theorem pwait_any (h : PAt w b F Ls cur) (n p v : Int) (hv : ∀ L ∈ Ls, L.vals.length ≤ 8000000000000 ∧ L.waits.length ≤ 8000000000000) : Calls Try.prog 33 #[.pointer (some ⟨b, 0, none⟩), .int .i64 n, .int .i64 p, .int .i64 v] w (PEnds w b F (waitP Ls n p v).1 cur (.int .i64 (waitP Ls n p v).2)) := by
  have hth := there_any h n
  have hwt := pwaits_any h p hv
  by_cases hr : 0 ≤ n ∧ n < (Ls.length : Int)
  · rw [decide_eq_true hr] at hth
    by_cases hp0 : 0 ≤ waitsP Ls p
    · have E := Lib.hid (show waitP Ls n p v = (Ls, 8) by unfold waitP; rw [if_pos hr, if_pos hp0])
      generalize waitsP Ls p = pw at *
      have H := Lib.hid h
      have HTH := Lib.hid hth
      have HWT := Lib.hid hwt
      clear h hth hwt
      clear hr hv
      go_enter Try.func33, Try.ntmps33
      go_wp2_with fail
      refine HTH.out.mono ?_
      rintro e w' ⟨rfl, rfl⟩
      go_wp2_with fail
      refine HWT.out.mono ?_
      rintro e w2 ⟨rfl, hn2⟩
      have HN2 := Lib.hid hn2
      clear hn2
      go_wp2_with fail
      go_ret
      rw [E.out]
      exact H.out.still_ends HN2.out _
    · obtain ⟨i, rfl, hi⟩ : ∃ i : Nat, n = i ∧ i < Ls.length := ⟨n.toNat, by omega, by omega⟩
      have hp1 : waitsP Ls p < 0 := by omega
      have E := Lib.hid (show waitP Ls i p v = (Ls.set i (waitL Ls[i] p v).1, (waitL Ls[i] p v).2) by unfold waitP; rw [if_pos hr, if_neg hp0, laneAt_eq hi, Int.toNat_natCast])
      generalize waitsP Ls p = pw at *
      obtain ⟨⟨r, A, c, bs, Fs, hp, hf⟩, hlt⟩ := h
      have hb := hp.row.bound
      have HCE := Lib.hid (fun W (hW : New w W) => (hp.new hW).cell i hi)
      have HC0 := Lib.hid (fun W (hW : New w W) => show W.cell? ⟨b, 0, none⟩ = some (.slice A Ls.length c) from (hp.new hW).blk.cell 0)
      have HLW := Lib.hid (fun W (hW : New w W) => wait_any ((hp.new hW).lanes i hi) p v (hv _ (List.getElem_mem hi)).2)
      have HST := Lib.hid (fun W (hW : New w W) w' L' hk hL => (hp.new hW).step (w' := w') (L' := L') i hi hk hL)
      generalize bs i = bi at *
      generalize (waitL Ls[i] p v).1 = L' at *
      generalize (waitL Ls[i] p v).2 = er at *
      have hml : i < Ls.length := hi
      obtain ⟨m, hm⟩ : ∃ m, m = Ls.length := ⟨_, rfl⟩
      rw [← hm] at hb hml
      simp only [← hm] at HC0
      have HTH := Lib.hid hth
      have HWT := Lib.hid hwt
      have HF := Lib.hid hf
      have HLT := Lib.hid hlt
      have HM := Lib.hid hm
      clear hth hwt hf hlt hm
      clear hp hv hr hi hp0
      go_enter Try.func33, Try.ntmps33
      go_wp2_with fail
      refine HTH.out.mono ?_
      rintro e w' ⟨rfl, rfl⟩
      go_wp2_with fail
      refine HWT.out.mono ?_
      rintro e w2 ⟨rfl, hn2⟩
      have c0 := HC0.out w2 hn2
      obtain ⟨g, o, rfl, -, x0⟩ := HCE.out w2 hn2
      have hlw := HLW.out w2 hn2
      have HN2 := Lib.hid hn2
      have HLW2 := Lib.hid hlw
      clear hn2 hlw
      go_wp2_with fail
      refine HLW2.out.mono ?_
      rintro e w3 ⟨rfl, hL, hk⟩
      have HEND := Lib.hid (PParts.ends HLT.out HF.out ((Grown.new HN2.out Fs).step i hk) (HST.out w2 HN2.out w3 L' hk hL) (.int .i64 er))
      clear hL hk
      go_wp2_with fail
      go_ret
      rw [E.out]
      exact HEND.out
  · rw [decide_eq_false hr] at hth
    have E := Lib.hid (show waitP Ls n p v = (Ls, 2) from if_neg hr)
    have H := Lib.hid h
    have HTH := Lib.hid hth
    clear h hth
    clear hr hv hwt
    go_enter Try.func33, Try.ntmps33
    go_wp2_with fail
    refine HTH.out.mono ?_
    rintro e w' ⟨rfl, rfl⟩
    go_wp2_with fail
    go_ret
    rw [E.out]
    exact H.out.still_ends (Kept.refl _ _) _
end
end Go.Proofs.Ytnfaafdgfafcjaa.Lane
