/- The walks of package post's Leave, End (layer 10). -/
import Derived.Test.YtnfaafdgfafcjaaPostB
namespace Go.Proofs.Ytnfaafdgfafcjaa.Lane
open Go.RowKit Go.Fb
set_option linter.unusedVariables false
/-- The first ones turned. -/
def mapTo (f : Lane → Lane) (i : Nat) (Ls : List Lane) : List Lane := (Ls.take i).map f ++ Ls.drop i
section
variable {f : Lane → Lane} {i : Nat} {Ls : List Lane}
theorem mapTo_zero : mapTo f 0 Ls = Ls := by simp [mapTo]
theorem mapTo_len : (mapTo f i Ls).length = Ls.length := by unfold mapTo; rw [List.length_append, List.length_map, List.length_take, List.length_drop]; omega
theorem mapTo_get (h : i < Ls.length) : (mapTo f i Ls)[i]'(by rw [mapTo_len]; exact h) = Ls[i] := by
  unfold mapTo
  rw [List.getElem_append_right (by simp; omega)]
  simp [Nat.min_eq_left (Nat.le_of_lt h)]
theorem mapTo_set (h : i < Ls.length) : (mapTo f i Ls).set i (f Ls[i]) = mapTo f (i + 1) Ls := by
  unfold mapTo
  have hl : ((Ls.take i).map f).length = i := by rw [List.length_map, List.length_take]; omega
  rw [List.set_append_right _ _ (by omega), hl, Nat.sub_self, List.drop_eq_getElem_cons h, List.set_cons_zero, List.take_succ_eq_append_getElem h, List.map_append, List.append_assoc]
  rfl
theorem mapTo_all (h : i = Ls.length) : mapTo f i Ls = Ls.map f := by subst h; simp [mapTo]
end
theorem any_next {α : Type} {g : α → Bool} {l : List α} {i : Nat} (h : i < l.length) : (l.take (i + 1)).any g = ((l.take i).any g || g l[i]) := by
  rw [List.take_succ_eq_append_getElem h, List.any_append]
  simp
section
variable {w : World} {b : Nat} {F : Nat → Prop} {Ls : List Lane} {cur : Int}
set_option maxHeartbeats 2000000 in
theorem pleave_any (h : PAt w b F Ls cur) (p : Int) : Calls Try.prog 35 #[.pointer (some ⟨b, 0, none⟩), .int .i64 p] w (PEnds w b F (leaveP Ls p).1 cur (.bool (leaveP Ls p).2)) := by
  obtain ⟨⟨r, A, c, bs, Fs, hp, hf⟩, hlt⟩ := h
  have c0 := hp.blk.cell 0
  simp only [List.getElem?_toArray, List.getElem?_cons_zero] at c0
  have hb := hp.row.bound
  have E := Lib.hid (show leaveP Ls p = (Ls.map fun L => (leaveL L p).1, Ls.any fun L => (leaveL L p).2) from rfl)
  obtain ⟨m, hm⟩ : ∃ m, m = Ls.length := ⟨_, rfl⟩
  rw [← hm] at c0 hb
  have HM := Lib.hid hm
  have HP0 := Lib.hid hp
  have HF := Lib.hid hf
  have HLT0 := Lib.hid hlt
  clear hm hp hf hlt
  go_enter Try.func35, Try.ntmps35
  go_wp2_with fail
  go_loopw [5, 13] (fun s5 s wr => ∃ (i : Nat) (Fs' : Nat → Nat → Prop), i ≤ m ∧ s = .int .i64 i ∧ s5 = .bool ((Ls.take i).any fun L => (leaveL L p).2) ∧ PParts 58 87 wr b r A c bs Fs' (mapTo (fun L => (leaveL L p).1) i Ls) cur ∧ Grown w wr Fs Fs') (fun _ s _ => (m - intOf s).toNat)
  case atStart => exact ⟨0, Fs, Nat.zero_le _, rfl, by simp, by rw [mapTo_zero]; exact HP0.out, Grown.refl _ _⟩
  case round =>
    obtain ⟨i, Fs', hi, rfl, rfl, hp, hg⟩ := hrel
    by_cases hlt : i < m
    · have hil : i < Ls.length := by rw [← HM.out]; exact hlt
      have him : i < (mapTo (fun L => (leaveL L p).1) i Ls).length := by rw [mapTo_len]; exact hil
      obtain ⟨g, o, rfl, -, x0⟩ := hp.cell i him
      have hlv := leave_any (hp.lanes i him) p
      have HST := Lib.hid (fun w' L' hk hL => hp.step (w' := w') (L' := L') i him hk hL)
      have HGS := Lib.hid (fun w' hk => hg.step (w2 := w') i hk)
      rw [mapTo_get hil] at hlv
      have HSET := Lib.hid (mapTo_set (f := fun L => (leaveL L p).1) hil)
      have HANY := Lib.hid (any_next (g := fun L => (leaveL L p).2) hil)
      generalize (List.take i Ls).any (fun L => (leaveL L p).2) = fl at *
      generalize (leaveL Ls[i] p).1 = L' at *
      generalize hres : (leaveL Ls[i] p).2 = res at *
      generalize bs i = bi at *
      have HLV := Lib.hid hlv
      have HRES := Lib.hid hres
      have HGG := Lib.hid hg
      clear hlv hres hg
      clear hp
      go_wp2_with fail
      refine HLV.out.mono ?_
      rintro e w2 ⟨rfl, hL, hk⟩
      have HP2 := Lib.hid (HST.out w2 L' hk hL)
      have HG2 := Lib.hid (HGS.out w2 hk)
      clear hL hk
      cases res with
      | true =>
        go_wp2_with fail
        go_roundw
        case rel => exact ⟨i + 1, _, by omega, by go_num, by rw [HANY.out, Bool.or_true], by rw [← HSET.out]; exact HP2.out, HG2.out⟩
        case measure => simp [intOf]; omega
      | false =>
        go_wp2_with fail
        go_roundw
        case rel => exact ⟨i + 1, _, by omega, by go_num, by rw [HANY.out, Bool.or_false], by rw [← HSET.out]; exact HP2.out, HG2.out⟩
        case measure => simp [intOf]; omega
    · obtain rfl : i = m := by omega
      have hall := mapTo_all (f := fun L => (leaveL L p).1) HM.out
      rw [hall] at hp
      have HT := Lib.hid (show (Ls.take i).any (fun L => (leaveL L p).2) = Ls.any fun L => (leaveL L p).2 by rw [HM.out, List.take_length])
      generalize (Ls.take i).any (fun L => (leaveL L p).2) = fl at *
      have HEND := Lib.hid (fun v => PParts.ends HLT0.out HF.out hg hp v)
      clear hp hg hall
      go_wp2_with fail
      go_ret
      rw [E.out, ← HT.out]
      exact HEND.out _
theorem AtT.mono {T : TypeId} {w : World} {b : Nat} {F F' : Nat → Prop} {L : Lane} (h : AtT T w b F L) (hF : ∀ k, F k → F' k) (hlt : ∀ k, F' k → k < w.heap.size) : AtT T w b F' L := by
  obtain ⟨⟨rv, Av, cv, rw, Aw, cw, hp, h1, h2⟩, h3, h4⟩ := h
  exact ⟨⟨rv, Av, cv, rw, Aw, cw, hp, fun k e => hF k (h1 k e), fun k e => hF k (h2 k e)⟩, hF b h3, hlt⟩
/-- What a post's End leaves. -/
def EndedP (TP TL : TypeId) (w : World) (b : Nat) (F : Nat → Prop) (Ls : List Lane) (cur : Int) (e : Ending) (w' : World) : Prop := ∃ q D m d F', m = ((endP Ls).2).length ∧ e = .returned (.slice D m d) ∧ Row w' 2 q D m d (((endP Ls).2).flatMap cellsW) ∧ PAtT TP TL w' b F' (endP Ls).1 cur ∧ (∀ k, F' k → grow F w w' k) ∧ (∀ k, q = some k → w.heap.size ≤ k ∧ ¬ F' k) ∧ Kept F w w'
theorem flat_next {α β : Type} {g : α → List β} {l : List α} {i : Nat} (h : i < l.length) : (l.take (i + 1)).flatMap g = (l.take i).flatMap g ++ g l[i] := by
  rw [List.take_succ_eq_append_getElem h, List.flatMap_append]
  simp
theorem flat_le {α β : Type} {g : α → List β} {l : List α} {i : Nat} : ((l.take i).flatMap g).length ≤ (l.flatMap g).length := by
  have : l.flatMap g = (l.take i).flatMap g ++ (l.drop i).flatMap g := by rw [← List.flatMap_append, List.take_append_drop]
  rw [this, List.length_append]; omega
set_option maxHeartbeats 2000000 in
theorem pend_any (h : PAt w b F Ls cur) (hw : (Ls.flatMap (·.waits)).length ≤ 8000000000000) : Calls Try.prog 37 #[.pointer (some ⟨b, 0, none⟩)] w (EndedP 58 87 w b F Ls cur) := by
  obtain ⟨⟨r, A, c, bs, Fs, hp, hf⟩, hlt⟩ := h
  have c0 := hp.blk.cell 0
  simp only [List.getElem?_toArray, List.getElem?_cons_zero] at c0
  have hb := hp.row.bound
  have E := Lib.hid (show endP Ls = (Ls.map noone, Ls.flatMap (·.waits)) from rfl)
  obtain ⟨m, hm⟩ : ∃ m, m = Ls.length := ⟨_, rfl⟩
  rw [← hm] at c0 hb
  have HM := Lib.hid hm
  have HP0 := Lib.hid hp
  have HF := Lib.hid hf
  have HLT0 := Lib.hid hlt
  clear hm hp hf hlt
  go_enter Try.func37, Try.ntmps37
  go_wp2_with fail
  go_loopw [3, 11] (fun s3 s wr => ∃ (i : Nat) (Fs' : Nat → Nat → Prop) (q : Option Nat) (D : Option Addr) (k d : Nat), i ≤ m ∧ s = .int .i64 i ∧ s3 = .slice D k d ∧ Hid (k = ((Ls.take i).flatMap (·.waits)).length) ∧ Row wr 2 q D k d (((Ls.take i).flatMap (·.waits)).flatMap cellsW) ∧ (∀ j, q = some j → w.heap.size ≤ j ∧ ∀ t, ¬ Fs' t j) ∧ PParts 58 87 wr b r A c bs Fs' (mapTo noone i Ls) cur ∧ Grown w wr Fs Fs') (fun _ s _ => (m - intOf s).toNat)
  case atStart => exact ⟨0, Fs, none, none, 0, 0, Nat.zero_le _, rfl, rfl, Lib.hid (by simp), by simpa using Row.nil _ _, by simp, by rw [mapTo_zero]; exact HP0.out, Grown.refl _ _⟩
  case round =>
    obtain ⟨i, Fs', q, D, k, d, hi, rfl, rfl, hk, hq, hqf, hp, hg⟩ := hrel
    by_cases hlt : i < m
    · have hil : i < Ls.length := by rw [← HM.out]; exact hlt
      have him : i < (mapTo noone i Ls).length := by rw [mapTo_len]; exact hil
      obtain ⟨g, o, rfl, -, x0⟩ := hp.cell i him
      have hen := end_any (hp.lanes i him)
      rw [mapTo_get hil] at hen
      have HST := Lib.hid (fun w' L' hk hL => hp.step (w' := w') (L' := L') i him hk hL)
      have HGS := Lib.hid (fun w' hk => hg.step (w2 := w') i hk)
      have HSET := Lib.hid (show (mapTo noone i Ls).set i { Ls[i] with waits := [] } = mapTo noone (i + 1) Ls from mapTo_set (f := noone) hil)
      have HFL := Lib.hid (flat_next (g := fun L : Lane => L.waits) hil)
      have hle : k + Ls[i].waits.length ≤ 8000000000000 := by
        have h1 := flat_le (g := fun L : Lane => L.waits) (l := Ls) (i := i + 1)
        rw [flat_next hil, List.length_append] at h1
        have := hk.out
        omega
      have hql := hq.lt (by decide)
      have HWR := Lib.hid (fun (k : Nat) (e : Fs' i k) => hp.lt i k e)
      generalize hws : Ls[i].waits = ws at *
      obtain ⟨nw, hnw⟩ : ∃ n, n = ws.length := ⟨_, rfl⟩
      rw [← hnw] at hen hle
      generalize bs i = bi at *
      have hgz := hg.kept.size
      have HEN := Lib.hid hen
      have HWS := Lib.hid hws
      have HNW := Lib.hid hnw
      have HQ := Lib.hid hq
      have HQF := Lib.hid hqf
      have HP1 := Lib.hid hp
      have HG1 := Lib.hid hg
      have HQL := Lib.hid hql
      have HGZ := Lib.hid hgz
      clear hen hws hnw hq hqf hp hg hql hgz
      go_wp2_with fail
      refine HEN.out.mono ?_
      rintro e w2 ⟨r5, A5, F5, rfl, hr5, hA5, hF5, hrf5, hk5⟩
      have hL : AtT 87 w2 bi (grow (Fs' i) wr w2) { Ls[i] with waits := [] } := AtT.mono hA5 (fun k e => ⟨.inl (hF5 k e), hA5.lt k e⟩) (fun k e => e.2)
      have hp2 := HST.out w2 _ hk5 hL
      have hg2 := HGS.out w2 hk5
      have hq2 := HQ.out.of_kept (by decide) hk5 (fun k e e' => (HQF.out k e).2 i e')
      have hsrc := waits_src (waits_read hr5 HNW.out.symm)
      have hqn : ∀ k, q = some k → w.heap.size ≤ k ∧ ∀ t, ¬ (fun j => if j = i then grow (Fs' i) wr w2 else Fs' j) t k := fun k e => by
        refine ⟨(HQF.out k e).1, fun t h => ?_⟩
        change (if t = i then grow (Fs' i) wr w2 else Fs' t) k at h
        by_cases c1 : t = i
        · rw [if_pos c1] at h
          rcases h.1 with h | h
          · exact (HQF.out k e).2 i h
          · have := HQL.out k e; omega
        · rw [if_neg c1] at h; exact (HQF.out k e).2 t h
      generalize (fun j => if j = i then grow (Fs' i) wr w2 else Fs' j) = Fs2 at *
      have HP2 := Lib.hid hp2
      have HG2 := Lib.hid hg2
      have HQ2 := Lib.hid hq2
      have HSRC := Lib.hid hsrc
      have HK5 := Lib.hid hk5
      have HQN := Lib.hid hqn
      clear hp2 hg2 hq2 hsrc hk5 hqn
      clear hr5 hA5 hF5 hrf5 hL
      go_wp2_with (at_builtin; refine wpList_append_row tyWaits rfl (.tmp 15) (.tmp 17) rfl rfl HQ2.out rfl HSRC.out (by unfold maxLen; omega) (by omega) ?_; intro r6 A6 c6 w6 hr6 hk6 hn6; have HR6 := Lib.hid hr6; have HK6 := Lib.hid hk6; have HN6 := Lib.hid hn6; clear hr6 hk6 hn6)
      go_roundw
      case rel =>
        have hk' : k + nw = ((Ls.take (i + 1)).flatMap (·.waits)).length := by rw [HFL.out, List.length_append, ← hk.out, HNW.out]
        refine ⟨i + 1, Fs2, r6, A6, k + nw, c6, by omega, by go_num, rfl, Lib.hid hk', by rw [HFL.out, List.flatMap_append]; exact HR6.out, fun j e => ?_, ?_, HG2.out.fp, HG2.out.kept.step HK6.out fun j hj e => absurd (HQN.out j e).1 (Nat.not_le.2 hj)⟩
        · rcases HN6.out j e with h | h
          · exact HQN.out j h
          · refine ⟨Nat.le_trans HG2.out.kept.size h, fun t h2 => ?_⟩
            have := HP2.out.lt t j h2
            omega
        · rw [← HSET.out]
          refine HP2.out.kept HK6.out fun j hj e => ?_
          rcases hj with hj | hj | ⟨t, hj⟩
          · have h1 := (HQN.out j e).1
            have h2 := HP0.out.blk.lt
            omega
          · have h1 := (HQN.out j e).1
            have h2 := HP0.out.row.lt (by decide) j hj
            omega
          · exact (HQN.out j e).2 t hj
      case measure => simp [intOf]; omega
    · obtain rfl : i = m := by omega
      have hall := mapTo_all (f := noone) HM.out
      rw [hall] at hp
      have HT := Lib.hid (show (Ls.take i) = Ls by rw [HM.out, List.take_length])
      have HEND := Lib.hid (fun v => PParts.ends HLT0.out HF.out hg hp v)
      rw [HT.out] at hk hq
      have HFP : Hid (∀ j, q = some j → w.heap.size ≤ j ∧ ¬ foot b r Fs' j) := Lib.hid fun j e => by
        refine ⟨(hqf j e).1, ?_⟩
        rintro (h | h | ⟨t, h⟩)
        · have h1 := (hqf j e).1
          have h2 := HP0.out.blk.lt
          omega
        · have h1 := (hqf j e).1
          have h2 := HP0.out.row.lt (by decide) j h
          omega
        · exact (hqf j e).2 t h
      have HPA := Lib.hid hp.at_
      have HFO : Hid (∀ k, foot b r Fs' k → grow F w wr k) := Lib.hid fun k e => by
        refine ⟨?_, hp.foot_lt k e⟩
        rcases e with e | e | ⟨t, e⟩
        · exact .inl (HF.out k (.inl e))
        · exact .inl (HF.out k (.inr (.inl e)))
        · rcases hg.fp t k e with e' | e'
          · exact .inl (HF.out k (.inr (.inr ⟨t, e'⟩)))
          · exact .inr e'
      have HKK := Lib.hid (hg.kept.mono (g' := F) fun k _ e => HF.out k (.inr (.inr e)))
      have HQQ := Lib.hid hq
      have HQF := Lib.hid hqf
      clear hq hqf
      clear hp hg hall
      go_wp2_with fail
      go_ret
      refine ⟨q, D, k, d, foot b r Fs', by rw [E.out]; exact hk.out, by simp [Array.getD], by rw [E.out]; exact HQQ.out, by rw [E.out]; exact HPA.out, HFO.out, HFP.out, HKK.out⟩
end
end Go.Proofs.Ytnfaafdgfafcjaa.Lane
