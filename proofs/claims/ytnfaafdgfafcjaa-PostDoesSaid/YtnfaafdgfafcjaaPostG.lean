/- The walks of the reference's End, State, Wait (layer 10). -/
import Derived.Test.YtnfaafdgfafcjaaPostF
namespace Go.Proofs.Ytnfaafdgfafcjaa.Lane
open Go.RowKit Go.Fb
set_option linter.unusedVariables false
theorem waitsP_some {Ls : List Lane} {p : Int} {i : Nat} (hi : i < Ls.length) (h : waitsIn p Ls[i] = true) : 0 ≤ waitsP Ls p := by
  have : Ls.findIdx (waitsIn p) < Ls.length := List.findIdx_lt_length_of_exists ⟨Ls[i], List.getElem_mem hi, h⟩
  unfold waitsP; rw [if_pos this]; omega
theorem waitsP_none {Ls : List Lane} {p : Int} (h : ∀ i (hi : i < Ls.length), waitsIn p Ls[i] = false) : ¬ 0 ≤ waitsP Ls p := by
  rw [waitsP_miss h]; decide
/-- If nobody of that name waits elsewhere. -/
theorem waitP_own {Ls : List Lane} {i : Nat} {p v : Int} (hi : i < Ls.length) (hful : ∀ L ∈ Ls, L.waits.length ≠ 0 → L.room ≤ (L.vals.length : Int)) (h : ∀ j (hj : j < Ls.length), j ≠ i → waitsIn p Ls[j] = false) : waitP Ls i p v = (Ls.set i (waitL Ls[i] p v).1, (waitL Ls[i] p v).2) := by
  unfold waitP
  rw [if_pos ⟨by omega, by omega⟩, laneAt_eq hi, Int.toNat_natCast]
  by_cases hw : waitsIn p Ls[i] = true
  · rw [if_pos (waitsP_some hi hw)]
    have h0 : 0 ≤ placeAt p Ls[i].waits := of_decide_eq_true hw
    have hne : Ls[i].waits.length ≠ 0 := fun e => by
      have : Ls[i].waits = [] := List.eq_nil_of_length_eq_zero e
      rw [this] at h0
      simp [placeAt] at h0
    have : waitL Ls[i] p v = (Ls[i], 8) := by
      unfold waitL
      rw [if_neg (fun k => k (hful _ (List.getElem_mem hi) hne)), if_pos h0]
    rw [this]
    simp only [List.set_getElem_self]
  · have hw' : waitsIn p Ls[i] = false := by simpa using hw
    rw [if_neg (waitsP_none fun j hj => by
      by_cases e : j = i
      · subst e; exact hw'
      · exact h j hj e)]
theorem waitP_other {Ls : List Lane} {i j : Nat} {p v : Int} (hi : i < Ls.length) (hj : j < Ls.length) (h : waitsIn p Ls[j] = true) : waitP Ls i p v = (Ls, 8) := by
  unfold waitP
  rw [if_pos ⟨by omega, by omega⟩, if_pos (waitsP_some hj h)]
section
variable {w : World} {b : Nat} {F : Nat → Prop} {Ls : List Lane} {cur : Int}
set_option maxHeartbeats 2000000 in
theorem rpend_any (h : PAtR w b F Ls cur) (hw : (Ls.flatMap (·.waits)).length ≤ 8000000000000) : Calls Try.prog 38 #[.pointer (some ⟨b, 0, none⟩)] w (EndedP 72 91 w b F Ls cur) := by
  obtain ⟨⟨r, A, c, bs, Fs, hp, hf⟩, hlt⟩ := h
  have hb := hp.row.bound
  have E := Lib.hid (show endP Ls = (Ls.map noone, Ls.flatMap (·.waits)) from rfl)
  have k0 : New w (w.alloc (.cells #[] 36)) := (Kept.refl _ _).alloc _
  have hp1 := hp.new k0
  have hr0 : Row (w.alloc (.cells #[] 36)) 2 none (some ⟨w.heap.size, 0, none⟩) 0 0 [] := ⟨rfl, .inl ⟨rfl, rfl, rfl⟩⟩
  obtain ⟨m, hm⟩ : ∃ m, m = Ls.length := ⟨_, rfl⟩
  rw [← hm] at hb
  have HM := Lib.hid hm
  have HP0 := Lib.hid hp
  have HF := Lib.hid hf
  have HLT0 := Lib.hid hlt
  have K0 := Lib.hid k0
  have HP00 := Lib.hid hp1
  have HR0 := Lib.hid hr0
  clear hm hp hf hlt k0 hp1 hr0
  go_enter Try.func38, Try.ntmps38
  go_upto_region 2 with (fail)
  generalize hA0 : w.heap.size = a0 at *
  generalize w.alloc (.cells #[] 36) = w0 at *
  rw [← hA0] at *
  clear hA0
  go_wp2_with fail
  go_loopw [3, 4] (fun s3 s wr => ∃ (i : Nat) (Fs' : Nat → Nat → Prop) (q : Option Nat) (D : Option Addr) (k d : Nat), i ≤ m ∧ s = .int .i64 i ∧ s3 = .slice D k d ∧ Hid (k = ((Ls.take i).flatMap (·.waits)).length) ∧ Row wr 2 q D k d (((Ls.take i).flatMap (·.waits)).flatMap cellsW) ∧ (∀ j, q = some j → w.heap.size ≤ j ∧ ∀ t, ¬ Fs' t j) ∧ PParts 72 91 wr b r A c bs Fs' (mapTo noone i Ls) cur ∧ Grown w wr Fs Fs') (fun _ s _ => (m - intOf s).toNat)
  case atStart => exact ⟨0, Fs, none, _, 0, 0, Nat.zero_le _, rfl, rfl, Lib.hid (by simp), by simpa using HR0.out, by simp, by rw [mapTo_zero]; exact HP00.out, Grown.new K0.out _⟩
  case round =>
    obtain ⟨i, Fs', q, D, k, d, hi, rfl, rfl, hk, hq, hqf, hp, hg⟩ := hrel
    have c0 := hp.blk.cell 0
    simp only [List.getElem?_toArray, List.getElem?_cons_zero, mapTo_len] at c0
    rw [← HM.out] at c0
    by_cases hlt : i < m
    · have hil : i < Ls.length := by rw [← HM.out]; exact hlt
      have him : i < (mapTo noone i Ls).length := by rw [mapTo_len]; exact hil
      obtain ⟨g, o, rfl, -, x0⟩ := hp.cell i him
      have hen := rend_any (hp.lanes i him)
      rw [mapTo_get hil] at hen
      have HST := Lib.hid (fun w' L' hk hL => hp.step (w' := w') (L' := L') i him hk hL)
      have HGS := Lib.hid (fun w' hk => hg.step (w2 := w') i hk)
      have HSET := Lib.hid (show (mapTo noone i Ls).set i { Ls[i] with waits := [] } = mapTo noone (i + 1) Ls from mapTo_set (f := noone) hil)
      have HFL := Lib.hid (flat_next (g := fun L : Lane => L.waits) hil)
      have hle : k + Ls[i].waits.length ≤ 8000000000000 := by
        have h1 := flat_le (g := fun L : Lane => L.waits) (l := Ls) (i := i + 1)
        rw [flat_next hil, List.length_append] at h1
        have := hk.out
        omega
      have hql := hq.lt (by decide)
      generalize hws : Ls[i].waits = ws at *
      obtain ⟨nw, hnw⟩ : ∃ n, n = ws.length := ⟨_, rfl⟩
      rw [← hnw] at hen hle
      generalize bs i = bi at *
      have hgz := hg.kept.size
      have HEN := Lib.hid hen
      have HWS := Lib.hid hws
      have HNW := Lib.hid hnw
      have HQ := Lib.hid hq
      have HQF := Lib.hid hqf
      have HP1 := Lib.hid hp
      have HG1 := Lib.hid hg
      have HQL := Lib.hid hql
      have HGZ := Lib.hid hgz
      clear hen hws hnw hq hqf hp hg hql hgz
      go_wp2_with fail
      refine HEN.out.mono ?_
      rintro e w2 ⟨r5, A5, c5, F5, rfl, hr5, hA5, hF5, hrf5, hk5⟩
      have hL : AtT 91 w2 bi (grow (Fs' i) wr w2) { Ls[i] with waits := [] } := AtT.mono hA5 (fun k e => ⟨.inl (hF5 k e), hA5.lt k e⟩) (fun k e => e.2)
      have hp2 := HST.out w2 _ hk5 hL
      have hg2 := HGS.out w2 hk5
      have hq2 := HQ.out.of_kept (by decide) hk5 (fun k e e' => (HQF.out k e).2 i e')
      have hsrc := waits_src (waits_read hr5 HNW.out.symm)
      have hqn : ∀ k, q = some k → w.heap.size ≤ k ∧ ∀ t, ¬ (fun j => if j = i then grow (Fs' i) wr w2 else Fs' j) t k := fun k e => by
        refine ⟨(HQF.out k e).1, fun t h => ?_⟩
        change (if t = i then grow (Fs' i) wr w2 else Fs' t) k at h
        by_cases c1 : t = i
        · rw [if_pos c1] at h
          rcases h.1 with h | h
          · exact (HQF.out k e).2 i h
          · have := HQL.out k e; omega
        · rw [if_neg c1] at h; exact (HQF.out k e).2 t h
      generalize (fun j => if j = i then grow (Fs' i) wr w2 else Fs' j) = Fs2 at *
      have HP2 := Lib.hid hp2
      have HG2 := Lib.hid hg2
      have HQ2 := Lib.hid hq2
      have HSRC := Lib.hid hsrc
      have HK5 := Lib.hid hk5
      have HQN := Lib.hid hqn
      clear hp2 hg2 hq2 hsrc hk5 hqn
      clear hr5 hA5 hF5 hrf5 hL c0 x0
      go_wp2_with (at_builtin; refine wpList_append_row tyWaits rfl (.tmp 24) (.tmp 25) rfl rfl HQ2.out rfl HSRC.out (by unfold maxLen; omega) (by omega) ?_; intro r6 A6 c6 w6 hr6 hk6 hn6; have HR6 := Lib.hid hr6; have HK6 := Lib.hid hk6; have HN6 := Lib.hid hn6; clear hr6 hk6 hn6)
      go_roundw
      case rel =>
        have hk' : k + nw = ((Ls.take (i + 1)).flatMap (·.waits)).length := by rw [HFL.out, List.length_append, ← hk.out, HNW.out]
        refine ⟨i + 1, Fs2, r6, A6, k + nw, c6, by omega, by go_num, rfl, Lib.hid hk', by rw [HFL.out, List.flatMap_append]; exact HR6.out, fun j e => ?_, ?_, HG2.out.fp, HG2.out.kept.step HK6.out fun j hj e => absurd (HQN.out j e).1 (Nat.not_le.2 hj)⟩
        · rcases HN6.out j e with h | h
          · exact HQN.out j h
          · refine ⟨Nat.le_trans HG2.out.kept.size h, fun t h2 => ?_⟩
            have := HP2.out.lt t j h2
            omega
        · rw [← HSET.out]
          refine HP2.out.kept HK6.out fun j hj e => ?_
          rcases hj with hj | hj | ⟨t, hj⟩
          · have h1 := (HQN.out j e).1
            have h2 := HP0.out.blk.lt
            omega
          · have h1 := (HQN.out j e).1
            have h2 := HP0.out.row.lt (by decide) j hj
            omega
          · exact (HQN.out j e).2 t hj
      case measure => simp [intOf]; omega
    · obtain rfl : i = m := by omega
      have hall := mapTo_all (f := noone) HM.out
      rw [hall] at hp
      have HT := Lib.hid (show (Ls.take i) = Ls by rw [HM.out, List.take_length])
      rw [HT.out] at hk hq
      have HFP : Hid (∀ j, q = some j → w.heap.size ≤ j ∧ ¬ foot b r Fs' j) := Lib.hid fun j e => by
        refine ⟨(hqf j e).1, ?_⟩
        rintro (h | h | ⟨t, h⟩)
        · have h1 := (hqf j e).1
          have h2 := HP0.out.blk.lt
          omega
        · have h1 := (hqf j e).1
          have h2 := HP0.out.row.lt (by decide) j h
          omega
        · exact (hqf j e).2 t h
      have HPA := Lib.hid hp.at_
      have HFO : Hid (∀ k, foot b r Fs' k → grow F w wr k) := Lib.hid fun k e => by
        refine ⟨?_, hp.foot_lt k e⟩
        rcases e with e | e | ⟨t, e⟩
        · exact .inl (HF.out k (.inl e))
        · exact .inl (HF.out k (.inr (.inl e)))
        · rcases hg.fp t k e with e' | e'
          · exact .inl (HF.out k (.inr (.inr ⟨t, e'⟩)))
          · exact .inr e'
      have HKK := Lib.hid (hg.kept.mono (g' := F) fun k _ e => HF.out k (.inr (.inr e)))
      have HQQ := Lib.hid hq
      have HQF := Lib.hid hqf
      clear hq hqf
      clear hp hg hall
      go_wp2_with fail
      go_ret
      refine ⟨q, D, k, d, foot b r Fs', by rw [E.out]; exact hk.out, by simp [Array.getD], by rw [E.out]; exact HQQ.out, by rw [E.out]; exact HPA.out, HFO.out, HFP.out, HKK.out⟩
set_option maxHeartbeats 2000000 in
theorem rpstate_any (h : PAtR w b F Ls cur) (hn : Ls.length ≤ 1048576) (hv : ∀ L ∈ Ls, L.vals.length ≤ 8000000000000 ∧ L.waits.length ≤ 8000000000000) : Calls Try.prog 40 #[.pointer (some ⟨b, 0, none⟩)] w (ToldP w Ls cur) := by
  have H0 := Lib.hid h
  obtain ⟨⟨r, A, c, bs, Fs, hp, hf⟩, hlt⟩ := h
  have hb := hp.row.bound
  have HCE := Lib.hid (fun W (hW : New w W) i hi => (hp.new hW).cell i hi)
  have HC1 := Lib.hid (fun W (hW : New w W) => show W.cell? ⟨b, 1, none⟩ = some (.int .i64 cur) from (hp.new hW).blk.cell 1)
  have HC0 := Lib.hid (fun W (hW : New w W) => show W.cell? ⟨b, 0, none⟩ = some (.slice A Ls.length c) from (hp.new hW).blk.cell 0)
  have HLN := Lib.hid (fun W (hW : New w W) i (hi : i < Ls.length) => ((hp.new hW).lanes i hi).head)
  have HCP := Lib.hid (fun W i (hi : i < Ls.length) (Av : Option Addr) (cv : Nat) (Aw : Option Addr) (cw : Nat) (h1 : SliceOf repV W W.heap.size Av Ls[i].vals.length cv Ls[i].vals) (h2 : SliceOf repW W W.heap.size Aw Ls[i].waits.length cw Ls[i].waits) => copy_any (w := W) (B := W.heap.size) (Av := Av) (cv := cv) (Aw := Aw) (cw := cw) (L := Ls[i]) h1 h2 (Nat.le_refl _) (hv _ (List.getElem_mem hi)).1 (hv _ (List.getElem_mem hi)).2)
  unfold ToldP
  obtain ⟨m, hm⟩ : ∃ m, m = Ls.length := ⟨_, rfl⟩
  rw [← hm] at hb hn ⊢
  simp only [← hm] at HC0
  have k0 : New w (w.alloc (.cells #[] 29)) := (Kept.refl _ _).alloc _
  have hr0 : OSl tellO (w.alloc (.cells #[] 29)) (fun k => w.heap.size ≤ k ∧ k < (w.alloc (.cells #[] 29)).heap.size) (some ⟨w.heap.size, 0, none⟩) 0 0 [] := ⟨none, [], fun _ _ => False, ⟨rfl, .inl ⟨rfl, rfl, rfl⟩⟩, rfl, by simp, by simp, by simp, fun i hi => absurd hi (Nat.not_lt_zero _)⟩
  have HM := Lib.hid hm
  have K0 := Lib.hid k0
  have HR0 := Lib.hid hr0
  clear hm k0 hr0
  clear hp hf hlt
  go_enter Try.func40, Try.ntmps40
  go_upto_region 2 with (fail)
  generalize w.alloc (.cells #[] 29) = w0 at *
  go_wp2_with fail
  go_loopw [4, 5] (fun s4 s wr => ∃ (i : Nat) (D : Option Addr) (d : Nat), i ≤ m ∧ s = .int .i64 i ∧ s4 = .slice D i d ∧ OSl tellO wr (fun k => w.heap.size ≤ k ∧ k < wr.heap.size) D i d (Ls.take i) ∧ New w wr) (fun _ s _ => (m - intOf s).toNat)
  case atStart => exact ⟨0, _, 0, Nat.zero_le _, rfl, rfl, by simpa using HR0.out, K0.out⟩
  case round =>
    obtain ⟨i, D, d, hi, rfl, rfl, ho, hnr⟩ := hrel
    have c0 := HC0.out wr hnr
    by_cases hlt : i < m
    · have hil : i < Ls.length := by rw [← HM.out]; exact hlt
      obtain ⟨g, o, rfl, -, x0⟩ := HCE.out wr hnr i hil
      obtain ⟨Av, cv, Aw, cw, -, y1, y2, y3, y4, hvr, hwr⟩ := HLN.out wr hnr i hil
      have hst := HCP.out wr i hil Av cv Aw cw hvr hwr
      have HTK := Lib.hid (List.take_succ_eq_append_getElem hil)
      generalize Ls[i] = L at *
      generalize bs i = bi at *
      unfold stC at hst
      have hsz := hnr.size
      have e1 : tellC L = fun Av cv Aw cw => [.slice Av L.vals.length cv, .slice Aw L.waits.length cw, .int .i64 L.taken, .int .i64 L.dropped] := rfl
      have HTC := Lib.hid e1
      have HST := Lib.hid hst
      have HO := Lib.hid ho
      have HNR := Lib.hid hnr
      clear hst ho hnr
      clear hvr hwr e1
      go_wp2_with fail
      refine HST.out.mono ?_
      rintro e w2 ⟨rv, Av2, cv2, rw, Aw2, cw2, rfl, ht, hn2⟩
      have hown := ht.own
      have ho2 := HO.out.new hn2
      have hlv := ht.vals.lt (by decide)
      have hlw := ht.waits.lt (by decide)
      have hfv := ht.fv
      have hfw := ht.fw
      obtain ⟨r0, xs, hrow, hrF, hpush⟩ := ho2.rows
      have hn2' := HNR.out.trans hn2
      rw [HTC.out] at hown
      generalize L.vals.length = nv at *
      generalize L.waits.length = nw at *
      have HZ2 := Lib.hid hn2.size
      have hrow : Row w2 4 r0 D i d xs := hrow
      have hbi : i ≤ 1048576 := by omega
      have HPUSH := Lib.hid (fun w' r' A' c' x cs Fx F' => @hpush w' r' A' c' x cs Fx F')
      have HOWN := Lib.hid hown
      have HROW := Lib.hid hrow
      have HRF := Lib.hid hrF
      have HN2' := Lib.hid hn2'
      have HLV := Lib.hid hlv
      have HLW := Lib.hid hlw
      have HFV := Lib.hid hfv
      have HFW := Lib.hid hfw
      clear hown hrow hrF hn2' hlv hlw hfv hfw
      clear ho2 ht hn2 hpush c0 x0 y1 y2 y3 y4
      go_wp2_with (at_builtin; refine wpList_append_one (cs := [.slice Av2 nv cv2, .slice Aw2 nw cw2, .int .i64 L.taken, .int .i64 L.dropped]) tyLanes rfl (.tmp 16) (.tmp 28) rfl rfl HROW.out rfl rfl rfl (by simp [Value.oneCell']) (by unfold maxLen; omega) (by omega) ?_; intro r3 A3 c3 w3 hr3 hk3 hn3; have HR3 := Lib.hid hr3; have HK3 := Lib.hid hk3; have HN3 := Lib.hid hn3; clear hr3 hk3 hn3)
      go_roundw
      case rel =>
        have hs3 := HK3.out.size
        have hl3 := HR3.out.lt (by decide)
        have hz := HZ2.out
        refine ⟨i + 1, A3, c3, by omega, by go_num, rfl, ?_, HN2'.out.step HK3.out fun k hk e => ?_⟩
        · rw [HTK.out]
          refine HPUSH.out w3 r3 A3 c3 L _ (fun k => rv = some k ∨ rw = some k) (fun k => w.heap.size ≤ k ∧ k < w3.heap.size) HR3.out HK3.out HN3.out (fun k e => Nat.lt_of_lt_of_le e.2 hz) HOWN.out (fun k e => ?_) (fun k e => ⟨e.1, by omega⟩) (fun k e => ?_) (fun k e => ⟨?_, hl3 k e⟩)
          · rcases e with e | e
            · exact ⟨fun h => by have := HFV.out k e; omega, HLV.out k e⟩
            · exact ⟨fun h => by have := HFW.out k e; omega, HLW.out k e⟩
          · rcases e with e | e
            · have := HFV.out k e; have := HLV.out k e; exact ⟨by omega, by omega⟩
            · have := HFW.out k e; have := HLW.out k e; exact ⟨by omega, by omega⟩
          · rcases HN3.out k e with h | h
            · exact (HRF.out k h).1
            · omega
        · exact absurd (HRF.out k e).1 (Nat.not_le.2 hk)
      case measure => simp [intOf]; omega
    · obtain rfl : i = m := by omega
      have hT : Ls.take i = Ls := by rw [HM.out, List.take_length]
      rw [hT] at ho
      have x1 := HC1.out wr hnr
      have HO := Lib.hid ho
      have HNR := Lib.hid hnr
      have HT := Lib.hid hT
      clear ho hnr hT
      go_wp2_with fail
      go_quiet (fail)
      go_wp2_with fail
      go_ret2
      exact ⟨D, d, by simp [Array.getD], (HO.out.new ((Kept.refl _ _).drewN _)), HNR.out.drewN _⟩
set_option maxRecDepth 100000 in
set_option maxHeartbeats 4000000 in
theorem rpwait_any (h : PAtR w b F Ls cur) (n p v : Int) (hw : ∀ L ∈ Ls, L.waits.length ≤ 8000000000000) (hful : ∀ L ∈ Ls, L.waits.length ≠ 0 → L.room ≤ (L.vals.length : Int)) : Calls Try.prog 34 #[.pointer (some ⟨b, 0, none⟩), .int .i64 n, .int .i64 p, .int .i64 v] w (PEndsR w b F (waitP Ls n p v).1 cur (.int .i64 (waitP Ls n p v).2)) := by
  have hth := is_any h n
  by_cases hr : 0 ≤ n ∧ n < (Ls.length : Int)
  · rw [decide_eq_true hr] at hth
    obtain ⟨i0, rfl, hi0⟩ : ∃ i : Nat, n = i ∧ i < Ls.length := ⟨n.toNat, by omega, by omega⟩
    have HOTH := Lib.hid (fun j hj hh => waitP_other (Ls := Ls) (i := i0) (j := j) (p := p) (v := v) hi0 hj hh)
    have HOWN := Lib.hid (fun hh => waitP_own (Ls := Ls) (i := i0) (p := p) (v := v) hi0 hful hh)
    have H0 := Lib.hid h
    obtain ⟨⟨r, A, c, bs, Fs, hp, hf⟩, hlt⟩ := h
    have hb := hp.row.bound
    have c0 : w.cell? ⟨b, 0, none⟩ = some (.slice A Ls.length c) := hp.blk.cell 0
    have HCE := Lib.hid (fun i hi => hp.cell i hi)
    have HLN := Lib.hid (fun i (hi : i < Ls.length) => (hp.lanes i hi).head)
    have hlw := rwait_any (hp.lanes i0 hi0) p v (hw _ (List.getElem_mem hi0))
    have HST := Lib.hid (fun w' L' hk hL => hp.step (w' := w') (L' := L') i0 hi0 hk hL)
    have hml : i0 < Ls.length := hi0
    generalize waitP Ls i0 p v = res at *
    obtain ⟨m, hm⟩ : ∃ m, m = Ls.length := ⟨_, rfl⟩
    rw [← hm] at hb c0 hml
    have HTH := Lib.hid hth
    have HLW := Lib.hid hlw
    have HF := Lib.hid hf
    have HLT0 := Lib.hid hlt
    have HM := Lib.hid hm
    clear hth hlw hf hlt hm
    clear hp hw hr hful
    go_enter Try.func34, Try.ntmps34
    go_wp2_with fail
    refine HTH.out.mono ?_
    rintro e w' ⟨rfl, rfl⟩
    go_wp2_with fail
    go_loopw [10] (fun s wr => ∃ i : Nat, i ≤ m ∧ s = .int .i64 i ∧ wr = w ∧ Hid (∀ j (hj : j < Ls.length), j < i → j ≠ i0 → waitsIn p Ls[j] = false)) (fun s _ => (m - intOf s).toNat)
    case atStart => exact ⟨0, Nat.zero_le _, rfl, rfl, Lib.hid fun j hj h => absurd h (Nat.not_lt_zero _)⟩
    case round =>
      obtain ⟨i, hi, rfl, rfl, hno⟩ := hrel
      by_cases hlt : i < m
      · have hil : i < Ls.length := by rw [← HM.out]; exact hlt
        obtain ⟨g, o, rfl, -, x0⟩ := HCE.out i hil
        obtain ⟨Av, cv, Aw, cw, -, -, y2, -, -, -, hwr⟩ := HLN.out i hil
        have HO := Lib.hid (HOTH.out i hil)
        have HNX := Lib.hid (fun (hq : i ≠ i0 → waitsIn p Ls[i] = false) j (hj : j < Ls.length) (h : j < i + 1) (hne : j ≠ i0) => show waitsIn p Ls[j] = false by
          by_cases e : j = i
          · subst e; exact hq hne
          · exact hno.out j hj (by omega) hne)
        have hbw := hwr.bound
        generalize Ls[i] = L at *
        generalize bs i = bi at *
        obtain ⟨nw, hnw⟩ : ∃ n, n = L.waits.length := ⟨_, rfl⟩
        rw [← hnw] at y2 hbw hwr
        have HWR := Lib.hid hwr
        have HNW := Lib.hid hnw
        clear hwr hnw
        obtain ⟨wo, rfl⟩ : ∃ wo : World, wo = wr := ⟨_, rfl⟩
        go_wp2_with fail
        go_loopw [11] (fun s W => ∃ k : Nat, k ≤ nw ∧ s = .int .i64 k ∧ W = wo ∧ Hid (k = 0 ∨ i ≠ i0) ∧ Hid (∀ t (ht : t < L.waits.length), t < k → L.waits[t].1 ≠ p)) (fun s _ => (nw - intOf s).toNat)
        case atStart => exact ⟨0, Nat.zero_le _, rfl, rfl, Lib.hid (.inl rfl), Lib.hid fun j hj h => absurd h (Nat.not_lt_zero _)⟩
        case round =>
          obtain ⟨k, hk, rfl, rfl, hz, hne⟩ := hrel
          by_cases hlk : k < nw
          · by_cases hi0' : i = i0
            · subst hi0'
              have H3 := Lib.hid (HNX.out (fun e => absurd rfl e))
              have hii : ((i : Int) != (i : Int)) = false := by simp
              go_wp2_with fail
              go_roundw
              case rel => exact ⟨i + 1, by omega, by go_num, trivial, H3⟩
              case measure => simp [intOf]; omega
            · have hkl : k < L.waits.length := by rw [← HNW.out]; exact hlk
              obtain ⟨g', o', rfl, -, hc⟩ := waits_at HWR.out (by omega)
              obtain ⟨z0, -⟩ := hc k hkl
              have HEQ := Lib.hid (fun (e : L.waits[k].1 = p) => HO.out (show waitsIn p L = true from by
                unfold waitsIn
                rw [place_hit hkl hne.out e]
                exact decide_eq_true (by omega)))
              have HN1 := Lib.hid (fun (hq : L.waits[k].1 ≠ p) t (ht : t < L.waits.length) (h : t < k + 1) => show L.waits[t].1 ≠ p by
                by_cases e : t = k
                · subst e; exact hq
                · exact hne.out t ht (by omega))
              generalize L.waits[k].1 = q at *
              have HII := Lib.hid hi0'
              have hii : ((i : Int) != (i0 : Int)) = true := by simp; omega
              clear hc hi0'
              by_cases he : q = p
              · have E := Lib.hid (HEQ.out he)
                subst he
                go_wp2_with fail
                go_ret
                rw [E.out]
                exact H0.out.still_ends (Kept.refl _ _) _
              · have H2 := Lib.hid (HN1.out he)
                have he' : (q == p) = false := by simpa using he
                clear he
                go_wp2_with fail
                go_roundw
                case rel => exact ⟨k + 1, by omega, by go_num, trivial, Lib.hid (.inr HII.out), H2⟩
                case measure => simp [intOf]; omega
          · obtain rfl : k = nw := by omega
            have H3 := Lib.hid (HNX.out (fun _ => show waitsIn p L = false by
              unfold waitsIn
              rw [place_miss fun t ht => hne.out t ht (by rw [HNW.out]; exact ht)]
              rfl))
            go_wp2_with fail
            go_roundw
            case rel => exact ⟨i + 1, by omega, by go_num, trivial, H3⟩
            case measure => simp [intOf]; omega
      · obtain rfl : i = m := by omega
        have E := Lib.hid (HOWN.out fun j hj hne => hno.out j hj (by rw [HM.out]; exact hj) hne)
        obtain ⟨g, o, rfl, -, x0⟩ := HCE.out i0 (by rw [← HM.out]; exact hml)
        generalize bs i0 = bi at *
        generalize (waitL Ls[i0] p v).1 = L' at *
        generalize (waitL Ls[i0] p v).2 = er at *
        go_wp2_with fail
        refine HLW.out.mono ?_
        rintro e w3 ⟨rfl, hL, hk⟩
        have HEND := Lib.hid (PParts.ends HLT0.out HF.out ((Grown.refl wr Fs).step i0 hk) (HST.out w3 L' hk hL) (.int .i64 er))
        clear hL hk
        go_wp2_with fail
        go_ret
        rw [E.out]
        exact HEND.out
  · rw [decide_eq_false hr] at hth
    have E := Lib.hid (show waitP Ls n p v = (Ls, 2) from if_neg hr)
    have H := Lib.hid h
    have HTH := Lib.hid hth
    clear h hth
    clear hr hw hful
    go_enter Try.func34, Try.ntmps34
    go_wp2_with fail
    refine HTH.out.mono ?_
    rintro e w' ⟨rfl, rfl⟩
    go_wp2_with fail
    go_ret
    rw [E.out]
    exact H.out.still_ends (Kept.refl _ _) _
end
end Go.Proofs.Ytnfaafdgfafcjaa.Lane
