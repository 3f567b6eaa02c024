/- The walk of package locks' End (layer 12). -/
import Derived.Test.YtjjlemkmdldljaaLocksD
import Derived.Deep.RegionWith
import Derived.Deep.RegionHeld3
namespace Go.Proofs.Ytjjlemkmdldljaa.Locks
open Go.RowKit Go.Fb
set_option linter.unusedVariables false
/-- p waits no more. -/
def dropP (p : Int) (x : Int × List Int) : Int × List Int := if p ∈ x.2 then (x.1, x.2.eraseIdx (x.2.findIdx (· == p))) else x
theorem grow_grow {F : Nat → Prop} {w w1 w2 : World} {k : Nat} (hs : w.heap.size ≤ w1.heap.size) (h : grow (grow F w w1) w1 w2 k) : grow F w w2 k := by
  obtain ⟨h1, h2⟩ := h
  refine ⟨?_, h2⟩
  rcases h1 with ⟨h1, _⟩ | h1
  · exact h1
  · exact .inr (by omega)
theorem At.mono {w : World} {b : Nat} {F G : Nat → Prop} {L : List (Int × List Int)} (h : At w b F L) (hFG : ∀ k, F k → G k) (hlt : ∀ k, G k → k < w.heap.size) : At w b G L := by
  obtain ⟨⟨r, A, c, X, hX, hp, h1, h2⟩, h3, h4⟩ := h
  exact ⟨⟨r, A, c, X, hX, hp, fun k hk => hFG k (h1 k hk), fun x hx k hk => hFG k (h2 x hx k hk)⟩, hFG b h3, hlt⟩
/-- One end behind another. -/
theorem Ends.trans {w w1 w2 : World} {b : Nat} {F : Nat → Prop} {L : List (Int × List Int)} {v : Value} {e : Ending} (hk : Kept F w w1) (h : Ends w1 b (grow F w w1) L v e w2) : Ends w b F L v e w2 := by
  obtain ⟨h1, h2, h3⟩ := h
  refine ⟨h1, h2.mono (fun k hk' => grow_grow hk.size hk') (fun k hk' => hk'.2), hk.step h3 fun k hk' hg => ?_⟩
  rcases hg.1 with e | e
  · exact e
  · omega
theorem drop_get (L : List (Int × List Int)) (p : Int) (j : Nat) (hj : j < L.length) : ∀ (M : List (Int × List Int)) (hM : M = (L.take j).map (dropP p) ++ L.drop j), M[j]? = some L[j] ∧ M.set j (dropP p L[j]) = (L.take (j + 1)).map (dropP p) ++ L.drop (j + 1) := by
  intro M hM
  subst hM
  have hl : ((L.take j).map (dropP p)).length = j := by simp; omega
  have hd : L.drop j = L[j] :: L.drop (j + 1) := List.drop_eq_getElem_cons hj
  rw [hd]
  refine ⟨by rw [List.getElem?_append_right (by omega), hl, Nat.sub_self]; rfl, ?_⟩
  rw [List.set_append_right _ _ (by omega), hl, Nat.sub_self, List.set_cons_zero, List.take_succ_eq_append_getElem hj, List.map_append, List.append_assoc]
  rfl
set_option maxHeartbeats 2000000 in
/-- What End tells: of so many of the locks that p holds each goes on. -/
def handTo (M : List (Int × List Int)) (p : Int) (ns : List Int) : Nat → List (Int × List Int) × List (Int × Int)
  | 0 => (M, [])
  | i + 1 => ((giveL (handTo M p ns i).1 (ns.getD i 0) p).1, (handTo M p ns i).2 ++ [(ns.getD i 0, (giveL (handTo M p ns i).1 (ns.getD i 0) p).2.1)])
theorem handTo_len (M : List (Int × List Int)) (p : Int) (ns : List Int) : ∀ i, (handTo M p ns i).2.length = i
  | 0 => rfl
  | i + 1 => by unfold handTo; simp [handTo_len M p ns i]
def endL (L : List (Int × List Int)) (p : Int) : List (Int × List Int) × List (Int × Int) := handTo (L.map (dropP p)) p (heldL (L.map (dropP p)) p) (heldL (L.map (dropP p)) p).length
def gvC (x : Int × Int) : List Value := [.int .i64 x.1, .int .i64 x.2]
/-- End's own end. -/
def Ended (w : World) (b : Nat) (F : Nat → Prop) (L : List (Int × List Int)) (g : List (Int × Int)) (e : Ending) (w' : World) : Prop :=
  ∃ r A c, e = .returned (.slice A g.length c) ∧ Row w' 2 r A g.length c (g.flatMap gvC) ∧ (∀ k, r = some k → w.heap.size ≤ k) ∧ ∃ G, At w' b G L ∧ (∀ k, G k → F k ∨ w.heap.size ≤ k) ∧ (∀ k, r = some k → ¬ G k) ∧ Kept F w w'
theorem tyGiven : SliceTy Try.prog 44 68 2 16 := by
  obtain ⟨i, hi, hz, hs, hb⟩ := info_parts (P := Try.prog) (e := 68) (z := .agg #[.int .i64 0, .int .i64 0]) (size := 2) (bytes := 16) (by kernel_rfl)
  exact ⟨Try.underlying44, ⟨i, _, hi, hz, hs, hb, rfl⟩, by decide⟩
set_option maxHeartbeats 8000000 in
theorem end_any {w : World} {b : Nat} {F : Nat → Prop} {L : List (Int × List Int)} (h : At w b F L) (p : Int) (hL : L.length ≤ 1048576) : Calls Try.prog 15 #[.pointer (some ⟨b, 0, none⟩), .int .i64 p] w (Ended w b F (endL L p).1 (endL L p).2) := by
  have H := Lib.hid h
  obtain ⟨n, hn⟩ : ∃ n, n = L.length := ⟨_, rfl⟩
  have hc : ∃ A c, w.cell? ⟨b, 0, none⟩ = some (.slice A n c) ∧ n ≤ c ∧ c ≤ 9223372036854775807 := by
    obtain ⟨⟨r, A, c, X, rfl, hp, h1, h2⟩, h3, h4⟩ := h
    have c0 := hp.blk.cell 0
    simp only [List.getElem?_toArray, List.getElem?_cons_zero] at c0
    exact ⟨A, c, by rw [c0, hn, List.length_map], by rw [hn, List.length_map]; exact hp.row.bound.1, hp.row.bound.2⟩
  obtain ⟨A0, c00, y0, hb0⟩ := hc
  rw [← hn] at hL
  have HN := Lib.hid hn
  clear hn
  clear h
  go_enter Try.func15, Try.ntmps15
  go_wp2_with fail
  go_loopw [17] (fun i wr => ∃ j : Nat, j ≤ n ∧ i = .int .i64 j ∧ Kept F w wr ∧ At wr b (grow F w wr) ((L.take j).map (dropP p) ++ L.drop j)) (fun i _ => (n - intOf i).toNat)
  case atStart => exact ⟨0, Nat.zero_le _, rfl, Kept.refl _ _, H.out.still (Kept.refl _ _)⟩
  case round =>
    obtain ⟨j, hj, rfl, hkr, ha⟩ := hrel
    by_cases hlt : j < n
    · have HA0 := Lib.hid ha
      obtain ⟨⟨r, A, c, X, hX, hp, h1, h2⟩, h3, h4⟩ := ha
      have hXl : X.length = n := by have := congrArg List.length hX; simp at this; have := HN.out; omega
      have hjX : j < X.length := by omega
      have c0 := hp.blk.cell 0
      simp only [List.getElem?_toArray, List.getElem?_cons_zero] at c0
      obtain ⟨g, o, hr, hA, x0, x1, x2, x3⟩ := hp.at_ j hjX
      rw [hXl, hA] at c0
      have hbd := hp.row.bound
      rw [hXl] at hbd
      have hm := List.getElem_mem hjX
      have hq := hp.qs _ hm
      have hqb := hq.bound
      have hidx := index_any hq rfl p
      have hjL : j < L.length := by have := HN.out; omega
      have hdg := drop_get L p j hjL _ hX
      by_cases hmem : p ∈ X[j].q
      · rw [if_pos hmem] at hidx
        have hi : X[j].q.findIdx (· == p) < X[j].q.length := List.findIdx_lt_length_of_exists ⟨p, hmem, by simp⟩
        have hdel := delete_any (hq.drewN 1) _ hi
        have hdrow := fun w3 (hk : Kept (fun k => X[j].r = some k) (wr.drewN 1) w3) => row_here ((hp.row.drewN 1).of_kept (by decide) hk (fun k h e => (hp.d2 _ hm k e).2 h)) j hjX hr hA
        have hdb := fun w3 (hk : Kept (fun k => X[j].r = some k) (wr.drewN 1) w3) => show w3.cell? ⟨b, 0, none⟩ = some (.slice (some ⟨g, o, none⟩) n c) from (hk.cell (p := ⟨b, 0, none⟩) (lt_of_cell c0).1 (fun e => (hp.d2 _ hm b e).1 rfl)).trans c0
        generalize hxo : X[j].own = xo at *
        generalize hxA : X[j].A = xA at *
        generalize hxc : X[j].c = xc at *
        generalize hxr : X[j].r = xr at *
        generalize hxq : X[j].q.length = m at *
        generalize hii : List.findIdx (fun x => x == p) X[j].q = i at *
        have hi63 : m ≤ 9223372036854775807 := by omega
        have e1 : IntKind.i64.wrap ((i : Int) + 1) = (i : Int) + 1 := IntWalk.i64_in _ (by omega)
        have e2 : (0 : Int) ≤ (j : Int) := by omega
        have e3 : (j : Int) < (n : Int) := by omega
        have hbg : ¬ b = g := fun e => hp.d1 (by rw [hr, e])
        have hgb : ¬ g = b := fun e => hbg e.symm
        have hcast : ((i + 1 : Nat) : Int) = (i : Int) + 1 := rfl
        rw [hcast] at hdel
        have HI := Lib.hid hi
        have HX := Lib.hid hX
        have HP := Lib.hid hp
        have H1 := Lib.hid h1
        have H2 := Lib.hid h2
        have H3 := Lib.hid h3
        have H4 := Lib.hid h4
        have HXL := Lib.hid hXl
        have HM := Lib.hid hm
        have HQ := Lib.hid hq
        have HIDX := Lib.hid hidx
        have HDEL := Lib.hid hdel
        have HDROW := Lib.hid hdrow
        have HDB := Lib.hid hdb
        have HXO := Lib.hid hxo
        have HXA := Lib.hid hxA
        have HXC := Lib.hid hxc
        have HXR := Lib.hid hxr
        have HXQ := Lib.hid hxq
        have HII := Lib.hid hii
        have HR := Lib.hid hr
        have HA := Lib.hid hA
        have HKR := Lib.hid hkr
        have HMEM := Lib.hid hmem
        have HDG := Lib.hid hdg
        have E1 := Lib.hid e1
        clear hi hX hp h1 h2 h3 h4 hXl hm hq hidx hdel hdrow hdb hxo hxA hxc hxr hxq hii hr hA hkr hmem hdg e1
        clear hcast
        go_wp2_with fail
        refine HIDX.out.mono ?_
        rintro e w1 ⟨rfl, rfl⟩
        go_upto_region 6 with (fail)
        have e1 := E1.out
        clear x0 x2 y0 hb0 hqb hbd hlt hj hi63
        go_region_with (first | (go_at_call 27; refine HDEL.out.mono ?_; rintro e w3 ⟨rfl, hr3, hk3⟩; obtain ⟨z0, z1, z2, z3⟩ := HDROW.out w3 hk3; have z4 := HDB.out w3 hk3; have HR3 := Lib.hid hr3; have HK3 := Lib.hid hk3; clear hr3 hk3))
        all_goals
          clear e1
          have hq' : (X[j].q.eraseIdx i).length = m - 1 := by rw [List.length_eraseIdx, HXQ.out, if_pos HI.out]
          have hkw : Kept (fun k => X[j].r = some k) wr w3 := by rw [HXR.out]; exact ((Kept.refl _ _).drewN 1).trans HK3.out
          have hp' := HP.out.put_queue hjX HR.out HA.out (q' := X[j].q.eraseIdx i) (r' := xr) (A' := xA) (c' := xc) (w2 := w3) (by rw [hq']; exact HR3.out) hkw (fun k hk => .inl (by rw [HXR.out]; exact hk))
          rw [hq'] at hp'
          have hkk : Kept F w (w3.setCell ⟨g, o + j * 2 + 1, none⟩ (.slice xA (m - 1) xc)) := by
            refine (HKR.out.step hkw fun k hk e => ?_).setCell ?_ _
            · rcases (H2.out _ HM.out k e).1 with h | h
              · exact h
              · omega
            · rcases (H1.out g HR.out).1 with h | h
              · exact .inr h
              · exact .inl h
          have hL2 : (X.set j ⟨X[j].own, xr, xA, xc, X[j].q.eraseIdx i⟩).map ab = (L.take (j + 1)).map (dropP p) ++ L.drop (j + 1) := by
            obtain ⟨d1, d2⟩ := HDG.out
            rw [← d2, List.map_set]
            rw [List.getElem?_eq_getElem (by simpa using hjX)] at d1
            injection d1 with d1
            rw [List.getElem_map] at d1
            have : dropP p L[j] = ab ⟨X[j].own, xr, xA, xc, X[j].q.eraseIdx i⟩ := by
              rw [← d1]
              unfold dropP ab
              simp only
              rw [if_pos HMEM.out, HII.out]
            rw [this]
          have hend := Parts.ends H.out hp' (fun k hk => (H1.out k hk).1) (fun x hx k hk => ?_) hkk.size
          · rw [hL2] at hend
            have HEND := Lib.hid hend
            have HKK := Lib.hid hkk
            clear hend hkk
            clear hp' hkw hL2
            go_wp2_with fail
            go_roundw
            case rel => exact ⟨j + 1, by omega, by go_num, HKK.out, HEND.out⟩
            case measure => simp [intOf]; omega
          · rcases mem_set hx with rfl | hx
            · exact (H2.out _ HM.out k (by rw [HXR.out]; exact hk)).1
            · exact (H2.out _ hx k hk).1
      · rw [if_neg hmem] at hidx
        have hL2 : (L.take j).map (dropP p) ++ L.drop j = (L.take (j + 1)).map (dropP p) ++ L.drop (j + 1) := by
          obtain ⟨d1, d2⟩ := hdg
          rw [← d2, ← hX]
          rw [List.getElem?_eq_getElem (by simpa using hjX)] at d1
          injection d1 with d1
          have : dropP p L[j] = (X.map ab)[j]'(by simpa using hjX) := by
            rw [← d1]
            unfold dropP
            rw [if_neg (by simpa [ab] using hmem)]
          rw [this, List.set_getElem_self]
        have ha2 := HA0.out
        rw [hL2] at ha2
        generalize hxo : X[j].own = xo at *
        generalize hxA : X[j].A = xA at *
        generalize hxc : X[j].c = xc at *
        generalize hxr : X[j].r = xr at *
        generalize hxq : X[j].q.length = m at *
        have HA2 := Lib.hid ha2
        have HX := Lib.hid hX
        have HP := Lib.hid hp
        have H1 := Lib.hid h1
        have H2 := Lib.hid h2
        have H3 := Lib.hid h3
        have H4 := Lib.hid h4
        have HXL := Lib.hid hXl
        have HM := Lib.hid hm
        have HQ := Lib.hid hq
        have HIDX := Lib.hid hidx
        have HXO := Lib.hid hxo
        have HXA := Lib.hid hxA
        have HXC := Lib.hid hxc
        have HXR := Lib.hid hxr
        have HXQ := Lib.hid hxq
        have HR := Lib.hid hr
        have HA := Lib.hid hA
        have HKR := Lib.hid hkr
        have HMEM := Lib.hid hmem
        have HL2 := Lib.hid hL2
        have HDG := Lib.hid hdg
        clear ha2 hX hp h1 h2 h3 h4 hXl hm hq hidx hxo hxA hxc hxr hxq hr hA hkr hmem hL2 hdg
        go_wp2_with fail
        refine HIDX.out.mono ?_
        rintro e w1 ⟨rfl, rfl⟩
        go_wp2_with fail
        go_roundw
        case rel => exact ⟨j + 1, by omega, by go_num, HKR.out, HA2.out⟩
        case measure => simp [intOf]; omega
    · obtain rfl : j = n := by omega
      have e1 : (L.take j).map (dropP p) ++ L.drop j = L.map (dropP p) := by rw [HN.out, List.take_length, List.drop_length, List.append_nil]
      rw [e1] at ha
      have hML : (L.map (dropP p)).length ≤ 1048576 := by rw [List.length_map, ← HN.out]; exact hL
      have hhold := holds_any ha p hML
      have hhl : (heldL (L.map (dropP p)) p).length ≤ 1048576 := Nat.le_trans (heldTo_len _ _ _) hML
      have EL : Hid (∀ m, m = (heldL (L.map (dropP p)) p).length → endL L p = handTo (L.map (dropP p)) p (heldL (L.map (dropP p)) p) m) := Lib.hid fun m hm => by rw [hm]; rfl
      generalize endL L p = res at *
      generalize L.map (dropP p) = M at *
      generalize heldL M p = ns at *
      obtain ⟨m, hm⟩ : ∃ m, m = ns.length := ⟨_, rfl⟩
      rw [← hm] at hhold hhl
      have ER := Lib.hid (EL.out m hm)
      have HA := Lib.hid ha
      have HKR := Lib.hid hkr
      have HHOLD := Lib.hid hhold
      have HM := Lib.hid hm
      clear ha hkr hhold hm
      clear e1 EL y0 hb0 hML
      go_wp2_with fail
      refine HHOLD.out.mono ?_
      rintro e w1 ⟨r1, A1, c1, rfl, hr1, hf1, hn1⟩
      have hb1 := hr1.bound
      have ha1 := HA.out.new hn1
      have hs1 := hn1.size
      have hl1 := hr1.lt (by decide)
      have HST : Hid (Kept F w w1) := Lib.hid (HKR.out.step hn1 fun k _ h => h.elim)
      have RD := Lib.hid (fun (wz : World) (h : Row wz 1 r1 A1 m c1 (ns.map (Value.int .i64))) (i : Nat) (hi : i < m) => show ∃ g o, A1 = some ⟨g, o, none⟩ ∧ wz.cell? ⟨g, o + i, none⟩ = some (.int .i64 (ns.getD i 0)) from by
        obtain ⟨g, o, _, e, h5, _⟩ := h.at_pos (by omega)
        refine ⟨g, o, e, ?_⟩
        have := HM.out
        rw [h5 i (by omega), List.getElem?_map, List.getElem?_eq_getElem (by omega)]
        simp [List.getD_eq_getElem?_getD, List.getElem?_eq_getElem (show i < ns.length by omega)])
      have F1 := Lib.hid (fun k (hk : r1 = some k) => show ¬ grow F w wr k from fun h => by have := hf1 k hk; have := h.2; omega)
      have S1 := Lib.hid (show w.heap.size ≤ w1.heap.size from Nat.le_trans HKR.out.size hs1)
      have HR1 := Lib.hid hr1
      have HN1 := Lib.hid hn1
      have HA1 := Lib.hid ha1
      have HL1 := Lib.hid hl1
      have HF1 := Lib.hid hf1
      clear hr1 hn1 ha1 hl1 hf1
      clear hs1
      go_wp2_with fail
      go_loopw [7, 56] (fun s i wr => ∃ (j : Nat) (r : Option Nat) (A : Option Addr) (c : Nat) (G : Nat → Prop), j ≤ m ∧ i = .int .i64 j ∧ s = .slice A j c ∧ Row wr 2 r A j c ((handTo M p ns j).2.flatMap gvC) ∧ At wr b G (handTo M p ns j).1 ∧ (∀ k, G k → F k ∨ w.heap.size ≤ k) ∧
        (∀ k, r1 = some k → ¬ G k) ∧ (∀ k, r = some k → ¬ G k ∧ w.heap.size ≤ k ∧ r1 ≠ some k) ∧ Row wr 1 r1 A1 m c1 (ns.map (Value.int .i64)) ∧ Kept F w wr) (fun _ i _ => (m - intOf i).toNat)
      case atStart => exact ⟨0, none, none, 0, grow F w wr, Nat.zero_le _, rfl, rfl, Row.nil _ _, HA1.out, fun k hk => hk.1, F1.out, by simp, HR1.out, HST.out⟩
      case round =>
        obtain ⟨j, r, A, c, G, hj, rfl, rfl, hrow, hat, hG, hr1G, hrG, hr1q, hkq⟩ := hrel
        by_cases hlt : j < m
        · obtain ⟨g1, o1, rfl, y1⟩ := RD.out wr hr1q j hlt
          have hgive := give_any hat (ns.getD j 0) p
          have hst1 : (handTo M p ns (j + 1)).1 = (giveL (handTo M p ns j).1 (ns.getD j 0) p).1 := rfl
          have hst2 : (handTo M p ns (j + 1)).2 = (handTo M p ns j).2 ++ [(ns.getD j 0, (giveL (handTo M p ns j).1 (ns.getD j 0) p).2.1)] := rfl
          have hjl := handTo_len M p ns j
          have hlr := hrow.lt (by decide)
          have hlr1 := hr1q.lt (by decide)
          have hb2 := hrow.bound
          rw [← hst1] at hgive
          generalize (giveL (handTo M p ns j).1 (ns.getD j 0) p).2.1 = now at *
          generalize (giveL (handTo M p ns j).1 (ns.getD j 0) p).2.2 = now2 at *
          generalize ns.getD j 0 = nj at *
          generalize hmp : (handTo M p ns (j + 1)).1 = M' at *
          have HMP := Lib.hid hmp
          have HROW := Lib.hid hrow
          have HAT := Lib.hid hat
          have HG := Lib.hid hG
          have HR1G := Lib.hid hr1G
          have HRG := Lib.hid hrG
          have HR1Q := Lib.hid hr1q
          have HKQ := Lib.hid hkq
          have HGIVE := Lib.hid hgive
          have HST1 := Lib.hid hst1
          have HST2 := Lib.hid hst2
          have HJL := Lib.hid hjl
          have HLR := Lib.hid hlr
          have HLR1 := Lib.hid hlr1
          clear hmp hrow hat hG hr1G hrG hr1q hkq hgive hst1 hst2 hjl hlr hlr1
          go_wp2_with fail
          refine HGIVE.out.mono ?_
          rintro e w3 ⟨rfl, ha3, hk3⟩
          have hrow3 := HROW.out.of_kept (by decide) hk3 (fun k hk => (HRG.out k hk).1)
          have hr13 := HR1Q.out.of_kept (by decide) hk3 HR1G.out
          have hk3' : Kept F w w3 := HKQ.out.step hk3 fun k hk e => by
            rcases HG.out k e with h | h
            · exact h
            · omega
          have HA3 := Lib.hid ha3
          have HK3 := Lib.hid hk3
          have HROW3 := Lib.hid hrow3
          have HR13 := Lib.hid hr13
          have HK3' := Lib.hid hk3'
          clear ha3 hk3 hrow3 hr13 hk3'
          go_wp2_with (at_builtin; refine wpList_append_one (cs := [.int .i64 nj, .int .i64 now]) tyGiven rfl (.tmp 67) (.tmp 71) rfl rfl HROW3.out rfl rfl rfl (by simp [Value.oneCell']) (by unfold maxLen; omega) (by omega) ?_; intro r4 A4 c4 w4 hr4 hk4 hn4; have HR4 := Lib.hid hr4; have HK4 := Lib.hid hk4; have HN4 := Lib.hid hn4; clear hr4 hk4 hn4)
          go_roundw
          case rel =>
            have hs3 := HK3.out.size
            refine ⟨j + 1, r4, A4, c4, grow G wr w3, by omega, by go_num, rfl, ?_, ?_, ?_, ?_, ?_, ?_, ?_⟩
            · rw [HST2.out, List.flatMap_append]; exact HR4.out
            · rw [HMP.out]
              exact HA3.out.kept HK4.out fun k hk e => by
                  rcases hk.1 with h | h
                  · exact (HRG.out k e).1 h
                  · have := HLR.out k e; omega
            · intro k hk
              rcases hk.1 with h | h
              · exact HG.out k h
              · exact .inr (Nat.le_trans HKQ.out.size h)
            · intro k hk e
              rcases e.1 with h | h
              · exact HR1G.out k hk h
              · have := HLR1.out k hk; omega
            · intro k hk
              rcases HN4.out k hk with h | h
              · refine ⟨fun e => ?_, (HRG.out k h).2⟩
                rcases e.1 with h' | h'
                · exact (HRG.out k h).1 h'
                · have := HLR.out k h; omega
              · refine ⟨fun e => by have := e.2; omega, ?_, fun e => ?_⟩
                · have := HKQ.out.size; omega
                · have := HLR1.out k e; omega
            · exact HR13.out.of_kept (by decide) HK4.out fun k hk e => (HRG.out k e).2.2 hk
            · exact HK3'.out.step HK4.out fun k hk e => by have := (HRG.out k e).2.1; omega
          case measure => simp [intOf]; omega
        · obtain rfl : j = m := by omega
          have hjl := handTo_len M p ns j
          have hend : Ended w b F res.1 res.2 (.returned (.slice A j c)) wr := by
            rw [ER.out]
            exact ⟨r, A, c, by rw [hjl], by rw [hjl]; exact hrow, fun k hk => (hrG k hk).2.1, G, hat, hG, fun k hk => (hrG k hk).1, hkq⟩
          have HEND := Lib.hid hend
          clear hend
          clear hrow hat hG hr1G hrG hr1q hkq hjl
          go_wp2_with fail
          go_ret
          exact HEND.out
end Go.Proofs.Ytjjlemkmdldljaa.Locks
