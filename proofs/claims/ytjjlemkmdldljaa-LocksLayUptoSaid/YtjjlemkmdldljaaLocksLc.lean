/- The walk of package locks' Lay (layer 12). -/
import Derived.Test.YtjjlemkmdldljaaLocksLb
import Derived.Test.YtjjlemkmdldljaaLocksL
namespace Go.Proofs.Ytjjlemkmdldljaa.Locks
open Go.RowKit Go.Fb
set_option linter.unusedVariables false
def LayPost (w : World) (A : World → Nat → (Nat → Prop) → List (Int × List Int) → Prop) (os : List Int) (qs : List (List Int)) (e : Ending) (w' : World) : Prop :=
  New w w' ∧ ((layErr os qs = 0 ∧ e = .returned (.tuple #[.pointer (some ⟨w.heap.size, 0, none⟩), .int .i64 0]) ∧ LayOk os qs os.length ∧ os.length ≤ 8 ∧ os.length = qs.length ∧ ∃ F, A w' w.heap.size F (layTo os qs os.length) ∧ ∀ k, F k → w.heap.size ≤ k) ∨ (layErr os qs ≠ 0 ∧ e = .returned (.tuple #[.pointer none, .int .i64 (layErr os qs)])))
theorem LayPost.bad {w w' : World} {A : World → Nat → (Nat → Prop) → List (Int × List Int) → Prop} {os : List Int} {qs : List (List Int)} {e : Ending} {v : Int} (hn : New w w') (h : layErr os qs = v) (hv : v ≠ 0) (he : e = .returned (.tuple #[.pointer none, .int .i64 v])) : LayPost w A os qs e w' :=
  ⟨hn, .inr ⟨by rw [h]; exact hv, by rw [h]; exact he⟩⟩
section
variable {w : World} {B : Nat} {Ao Aq : Option Addr} {no co nq cq : Nat} {os : List Int} {qs : List (List Int)}
set_option maxHeartbeats 8000000 in
set_option maxRecDepth 100000 in
theorem lay_any (ho : SliceOf (Rep.int .i64) w B Ao no co os) (hq : SliceOf (Rep.int .i64).slice w B Aq nq cq qs) (hB : B ≤ w.heap.size) (hs : ∀ q ∈ qs, q.length ≤ 1048576) :
    Calls Try.prog 17 #[.slice Ao no co, .slice Aq nq cq] w (LayPost w At os qs) := by
  have hbo := ho.bound
  have hbq := hq.bound
  have lo := ho.len
  have lq := hq.len
  by_cases hbig : 8 < no ∨ 8 < nq
  · have E := Lib.hid (layErr_big (os := os) (qs := qs) (by omega))
    clear ho hq hs lo lq
    by_cases h1 : 8 < no
    · clear hbig
      go_enter Try.func17, Try.ntmps17
      go_wp2_with fail
      go_ret2
      exact LayPost.bad (Kept.refl _ _) E.out (by decide) rfl
    · have h2 : 8 < nq := by omega
      have h1' : no ≤ 8 := by omega
      clear hbig h1
      go_enter Try.func17, Try.ntmps17
      go_wp2_with fail
      go_ret2
      exact LayPost.bad (Kept.refl _ _) E.out (by decide) rfl
  · have h1 : no ≤ 8 := by omega
    have h2 : nq ≤ 8 := by omega
    by_cases hne : no = nq
    · subst hne
      have hnb : ¬ (8 < os.length ∨ 8 < qs.length) := by omega
      have hll : os.length = qs.length := by omega
      have HBAD := Lib.hid (fun h => layErr_bad (os := os) (qs := qs) hnb hll h)
      have HOK := Lib.hid (fun h => layErr_ok (os := os) (qs := qs) hnb hll h)
      have HO : Hid (∀ W, New w W → ∀ i, i < no → ∃ g o, Ao = some ⟨g, o, none⟩ ∧ W.cell? ⟨g, o + i, none⟩ = some (.int .i64 (oAt os i))) := Lib.hid fun W hW i hi => si_at (ho.kept hW hB fun _ _ h => h) i hi
      have HQ : Hid (∀ i, i < no → ∃ g o A' c', Aq = some ⟨g, o, none⟩ ∧ (∀ W, New w W → W.cell? ⟨g, o + i, none⟩ = some (.slice A' (qAt qs i).length c')) ∧ ∀ W, New w W → SliceOf (Rep.int .i64) W B A' (qAt qs i).length c' (qAt qs i)) := Lib.hid fun i hi => sl_at hq hB i hi
      have HSM : Hid (∀ i, i < no → (qAt qs i).length ≤ 1048576) := Lib.hid fun i hi => by unfold qAt; rw [getD_nat _ _ _ (by omega)]; exact hs _ (List.getElem_mem _)
      have hb0 : Blk (w.alloc (.cells #[.slice none 0 0] 54)) w.heap.size 54 #[.slice none 0 0] := Blk.made _ _ _
      have hn0 : New w (w.alloc (.cells #[.slice none 0 0] 54)) := (Kept.refl _ _).alloc _
      have hp0 : LayX w (w.alloc (.cells #[.slice none 0 0] 54)) (layTo os qs 0) := ⟨none, none, 0, [], rfl, ⟨hb0, Row.nil _ _, by simp, by simp, by simp, fun i j hi => absurd hi (by simp)⟩, by simp, by simp, hn0⟩
      obtain ⟨n, hn⟩ : ∃ n, n = no := ⟨_, rfl⟩
      have HP0 := Lib.hid hp0
      have LO := Lib.hid lo
      have LQ := Lib.hid lq
      have HNB := Lib.hid hnb
      have HLL := Lib.hid hll
      clear hp0 lo lq hnb hll
      clear ho hq hs hbig hb0 hn0
      go_enter Try.func17, Try.ntmps17
      go_wp2_with fail
      generalize w.alloc (.cells #[.slice none 0 0] 54) = W0 at *
      go_loopw [30] (fun s wr => ∃ i : Nat, i ≤ no ∧ s = .int .i64 i ∧ LayX w wr (layTo os qs i) ∧ LayOk os qs i) (fun s _ => (no - intOf s).toNat)
      case atStart => exact ⟨0, Nat.zero_le _, rfl, HP0.out, LayOk.start⟩
      case round =>
        obtain ⟨i, hi, rfl, hlx, hok⟩ := hrel
        by_cases hlt : i < no
        · obtain ⟨g, o, rfl, x0⟩ := HO.out wr hlx.fresh i hlt
          obtain ⟨gq, oq, A', c', rfl, hy0, hsl⟩ := HQ.out i hlt
          have y0 := hy0 wr hlx.fresh
          have hsm := HSM.out i hlt
          have HBADO := Lib.hid (fun (h : ¬ OwnOk os qs i) => HBAD.out (fun hk => h (hk i (by have := LO.out; omega)).1))
          have HBADE := Lib.hid (fun k (hk : k < (qAt qs i).length) (h : ¬ ElOk os qs i k) => HBAD.out (fun hk' => h ((hk' i (by have := LO.out; omega)).2 k hk)))
          have HOWN : Hid (∀ v, v = oAt os i → (OwnOk os qs i ↔ -1 ≤ v ∧ (v = -1 → (qAt qs i).length = 0))) := Lib.hid fun v hv => by
            subst hv
            unfold OwnOk
            rw [List.length_eq_zero_iff]
          obtain ⟨ow, how⟩ : ∃ ow, ow = oAt os i := ⟨_, rfl⟩
          have hown := HOWN.out ow how
          rw [← how] at x0
          obtain ⟨m, hm⟩ : ∃ m, m = (qAt qs i).length := ⟨_, rfl⟩
          rw [← hm] at y0 hy0 hsl hsm hown HBADE
          have f2 : (0 : Int) ≤ (i : Int) := by omega
          have f3 : (i : Int) < (no : Int) := by omega
          have hsb := (hsl wr hlx.fresh).bound
          have HY0 := Lib.hid hy0
          have HSL := Lib.hid hsl
          have HOW := Lib.hid how
          have HM := Lib.hid hm
          have HLOK := Lib.hid hok
          clear how hm hok
          clear hy0 hsl
          by_cases g1 : ow < -1
          · have E := Lib.hid (HBADO.out (fun h => by have := (hown.1 h).1; omega))
            have hend := hlx.fresh
            have HEND := Lib.hid hend
            have HOWN := Lib.hid hown
            clear hend hown
            clear hlx
            go_wp2_with fail
            go_ret2
            exact LayPost.bad HEND.out E.out (by decide) rfl
          · have g1' : -1 ≤ ow := by omega
            by_cases g2 : ow = -1 ∧ 0 < m
            · obtain ⟨g3, g4⟩ := g2
              have E := Lib.hid (HBADO.out (fun h => by have := (hown.1 h).2 g3; omega))
              have hend := hlx.fresh
              subst g3
              have g5 : (0 : Int) < (m : Int) := by omega
              have HEND := Lib.hid hend
              have HOWN := Lib.hid hown
              clear hend hown
              clear hlx g1 g1'
              go_wp2_with fail
              go_ret2
              exact LayPost.bad HEND.out E.out (by decide) rfl
            · have HOO := Lib.hid (hown.2 ⟨g1', fun h => by omega⟩)
              obtain ⟨r, A, c, X, hX, hp, hr, hx, hnr⟩ := hlx
              have hXl : X.length = i := by rw [← layTo_len (os := os) (qs := qs) (i := i), ← hX, List.length_map]
              have c0 := hp.blk.cell 0
              have f0 := hp.blk.free 0
              simp only [List.getElem?_toArray, List.getElem?_cons_zero, hXl] at c0
              have hrow := hp.row
              rw [hXl] at hrow
              have hbd := hrow.bound
              have hcond : ow = -1 ∧ m = 0 ∨ (ow == -1) = false := by
                by_cases h : ow = -1
                · exact .inl ⟨h, by omega⟩
                · exact .inr (by simpa using h)
              have HX := Lib.hid hX
              have HP := Lib.hid hp
              have HR := Lib.hid hr
              have HX1 := Lib.hid hx
              have HNR := Lib.hid hnr
              have HXL := Lib.hid hXl
              have HROW := Lib.hid hrow
              have HOWN := Lib.hid hown
              clear hX hp hr hx hnr hXl hrow hown
              have hmid : ∀ w2 r2 A2 c2, Row w2 2 r2 A2 (i + 1) c2 (X.flatMap lkC ++ [.int .i64 ow, .slice none 0 0]) → Kept (fun k => r = some k) wr w2 → (∀ k, r2 = some k → r = some k ∨ wr.heap.size ≤ k) → LayX w (w2.setCell ⟨w.heap.size, 0, none⟩ (.slice A2 (i + 1) c2)) (layTo os qs i ++ [(oAt os i, (qAt qs i).take 0)]) := fun w2 r2 A2 c2 hr2 hk2 hn2 => by
                have hp2 := HP.out.push (y := ⟨ow, none, none, 0, []⟩) ⟨rfl, rfl, rfl, rfl⟩ (r' := r2) (A' := A2) (c' := c2) (w2 := w2) (by rw [List.length_append, HXL.out, List.flatMap_append]; exact hr2) hk2 hn2
                rw [List.length_append, HXL.out] at hp2
                refine ⟨r2, A2, c2, _, ?_, hp2, ?_, ?_, ?_⟩
                · rw [List.map_append, HX.out, ← HOW.out]; rfl
                · intro k hk
                  rcases hn2 k hk with e | e
                  · exact HR.out k e
                  · exact Nat.le_trans HNR.out.size e
                · intro x hx k hk
                  rcases List.mem_append.1 hx with hx | hx
                  · exact HX1.out x hx k hk
                  · rw [List.mem_singleton.1 hx] at hk; cases hk
                · exact (HNR.out.step hk2 fun k hk e => absurd (HR.out k e) (Nat.not_le.2 hk)).setCell (.inl (Nat.le_refl _)) _
              have HMID := Lib.hid hmid
              clear hmid
              clear g1 g2
              rcases hcond with ⟨h1, h2⟩ | h1
              · subst h1; subst h2
                go_upto_region 12 with (at_builtin; refine wpList_append_one (cs := [.int .i64 (-1), .slice none 0 0]) tyLocks rfl (.tmp 53) (.tmp 56) rfl rfl HROW.out rfl rfl rfl (by simp [Value.oneCell']) (by unfold maxLen; omega) (by omega) ?_; intro r2 A2 c2' w2 hr2 hk2 hn2; have hb2 := HP.out.blk.kept hk2 HP.out.d1; have x1 := hb2.cell 0; have x2 := hb2.free 0; simp only [List.getElem?_toArray, List.getElem?_cons_zero, HXL.out] at x1; have hly := HMID.out w2 r2 A2 c2' hr2 hk2 hn2; have HLY := Lib.hid hly; clear hr2 hk2 hn2 hb2 hly)
                have HY := HLY
                generalize w2.setCell ⟨w.heap.size, 0, none⟩ (.slice A2 (i + 1) c2') = W3 at *
                have y3 := HY0.out W3 HY.out.fresh
                clear x0 y0 c0 f0 x1 x2
                go_wp2_with fail
                go_loopw [65] (fun s wr => ∃ k : Nat, k ≤ 0 ∧ s = .int .i64 k ∧ LayX w wr (layTo os qs i ++ [(oAt os i, (qAt qs i).take k)]) ∧ Hid (∀ k', k' < k → ElOk os qs i k')) (fun s _ => (0 - intOf s).toNat)
                case atStart => exact ⟨0, Nat.zero_le _, rfl, HY.out, Lib.hid fun k' hk' => absurd hk' (Nat.not_lt_zero _)⟩
                case round =>
                  obtain ⟨k, hk, rfl, hlx, hels⟩ := hrel
                  by_cases hlk : k < 0
                  · exact absurd hlk (Nat.not_lt_zero _)
                  · obtain rfl : k = 0 := by omega
                    rw [HM.out, List.take_length, ← layTo_succ] at hlx
                    have hok2 := HLOK.out.next HOO.out (fun k' hk' => hels.out k' (by rw [HM.out]; exact hk'))
                    have HLX := Lib.hid hlx
                    have HOK2 := Lib.hid hok2
                    clear hlx hok2
                    go_wp2_with fail
                    go_roundw
                    case rel => exact ⟨i + 1, by omega, by go_num, HLX.out, HOK2.out⟩
                    case measure => simp [intOf]; omega
              · go_upto_region 12 with (at_builtin; refine wpList_append_one (cs := [.int .i64 ow, .slice none 0 0]) tyLocks rfl (.tmp 53) (.tmp 56) rfl rfl HROW.out rfl rfl rfl (by simp [Value.oneCell']) (by unfold maxLen; omega) (by omega) ?_; intro r2 A2 c2' w2 hr2 hk2 hn2; have hb2 := HP.out.blk.kept hk2 HP.out.d1; have x1 := hb2.cell 0; have x2 := hb2.free 0; simp only [List.getElem?_toArray, List.getElem?_cons_zero, HXL.out] at x1; have hly := HMID.out w2 r2 A2 c2' hr2 hk2 hn2; have HLY := Lib.hid hly; clear hr2 hk2 hn2 hb2 hly)
                have HY := HLY
                generalize w2.setCell ⟨w.heap.size, 0, none⟩ (.slice A2 (i + 1) c2') = W3 at *
                have y3 := HY0.out W3 HY.out.fresh
                clear x0 y0 c0 f0 x1 x2
                go_wp2_with fail
                go_loopw [65] (fun s wr => ∃ k : Nat, k ≤ m ∧ s = .int .i64 k ∧ LayX w wr (layTo os qs i ++ [(oAt os i, (qAt qs i).take k)]) ∧ Hid (∀ k', k' < k → ElOk os qs i k')) (fun s _ => (m - intOf s).toNat)
                case atStart => exact ⟨0, Nat.zero_le _, rfl, HY.out, Lib.hid fun k' hk' => absurd hk' (Nat.not_lt_zero _)⟩
                case round =>
                  obtain ⟨k, hk, rfl, hlx, hels⟩ := hrel
                  by_cases hlk : k < m
                  · have hsl := HSL.out wr hlx.fresh
                    have hkq : k < (qAt qs i).length := by rw [← HM.out]; exact hlk
                    obtain ⟨ge, oe, rfl, -, hce⟩ := hsl.ints (by omega)
                    have xe := hce k hkq
                    clear hce hsl
                    have hw := fun p => hlx.waits p
                    have hgd : (qAt qs i).getD k 0 = (qAt qs i)[k] := getD_nat _ _ _ hkq
                    have hW1 : (waitAt (layTo os qs i ++ [(oAt os i, (qAt qs i).take k)]) (qAt qs i)[k]).2 = true → ¬ ElOk os qs i k := fun h he => by
                      rw [wait_lay] at h
                      obtain ⟨-, -, h3, h4⟩ := he
                      rw [hgd] at h3 h4
                      rcases h with ⟨j, hj, hp⟩ | hp
                      · exact h3 j hj hp
                      · exact h4 hp
                    have hW2 : (waitAt (layTo os qs i ++ [(oAt os i, (qAt qs i).take k)]) (qAt qs i)[k]).2 = false → 0 ≤ (qAt qs i)[k] → (qAt qs i)[k] ≠ ow → ElOk os qs i k := fun h h1 h2 => by
                      have h' : ¬ ((∃ j, j < i ∧ (qAt qs i)[k] ∈ qAt qs j) ∨ (qAt qs i)[k] ∈ (qAt qs i).take k) := fun e => absurd (wait_lay.2 e) (by rw [h]; decide)
                      unfold ElOk
                      rw [hgd]
                      exact ⟨h1, by rw [← HOW.out]; exact h2, fun j hj hp => h' (.inl ⟨j, hj, hp⟩), fun hp => h' (.inr hp)⟩
                    have hN1 : (qAt qs i)[k] < 0 → ¬ ElOk os qs i k := fun h he => by
                      have := he.1
                      rw [hgd] at this
                      omega
                    have hN2 : (qAt qs i)[k] = ow → ¬ ElOk os qs i k := fun h he => by
                      have := he.2.1
                      rw [hgd, ← HOW.out] at this
                      exact this h
                    have htk : (qAt qs i).take (k + 1) = (qAt qs i).take k ++ [(qAt qs i)[k]] := List.take_succ_eq_append_getElem hkq
                    have hwp := hw (qAt qs i)[k]
                    have HBK := Lib.hid (HBADE.out k hlk)
                    generalize (qAt qs i)[k] = p at *
                    generalize (waitAt (layTo os qs i ++ [(oAt os i, (qAt qs i).take k)]) p).1 = wx at *
                    generalize (waitAt (layTo os qs i ++ [(oAt os i, (qAt qs i).take k)]) p).2 = wb at *
                    have HWP := Lib.hid hwp
                    have HW1 := Lib.hid hW1
                    have HW2 := Lib.hid hW2
                    have HN1 := Lib.hid hN1
                    have HN2 := Lib.hid hN2
                    have HTK := Lib.hid htk
                    have HGD := Lib.hid hgd
                    have HKQ := Lib.hid hkq
                    clear hwp hW1 hW2 hN1 hN2 htk hgd hkq
                    have k2 : (0 : Int) ≤ (k : Int) := by omega
                    have k3 : (k : Int) < (m : Int) := by omega
                    clear hw hlx
                    go_wp2_with fail
                    refine HWP.out.mono ?_
                    rintro e w5 ⟨rfl, hl5⟩
                    cases wb with
                    | true =>
                      have E := Lib.hid (HBK.out (HW1.out rfl))
                      have hend := hl5.fresh
                      have HEND := Lib.hid hend
                      clear hend
                      clear hl5
                      go_wp2_with fail
                      go_ret2
                      exact LayPost.bad HEND.out E.out (by decide) rfl
                    | false =>
                      by_cases g1 : p < 0
                      · have E := Lib.hid (HBK.out (HN1.out g1))
                        have hend := hl5.fresh
                        have HEND := Lib.hid hend
                        clear hend
                        clear hl5
                        go_wp2_with fail
                        go_ret2
                        exact LayPost.bad HEND.out E.out (by decide) rfl
                      · have g1' : 0 ≤ p := by omega
                        by_cases g2 : p = ow
                        · have E := Lib.hid (HBK.out (HN2.out g2))
                          have g3 : (p == ow) = true := by simpa using g2
                          have hend := hl5.fresh
                          have HEND := Lib.hid hend
                          clear hend
                          clear hl5 g2 g1
                          go_wp2_with fail
                          go_ret2
                          exact LayPost.bad HEND.out E.out (by decide) rfl
                        · have HEL := Lib.hid (HW2.out rfl g1' g2)
                          have g3 : (p == ow) = false := by simpa using g2
                          obtain ⟨r, A, c, X, hX, hp, hr, hx, hnr⟩ := hl5
                          have hXl : X.length = i + 1 := by
                            have := congrArg List.length hX
                            rw [List.length_map, List.length_append, layTo_len] at this
                            exact this
                          have hiX : i < X.length := by omega
                          have hXi : ab X[i] = (oAt os i, (qAt qs i).take k) := by
                            have h1 : (X.map ab)[i]'(by rw [List.length_map]; omega) = ab X[i] := by simp
                            rw [← h1]
                            simp only [hX]
                            rw [List.getElem_append_right (by rw [layTo_len]; exact Nat.le_refl _)]
                            simp [layTo_len]
                          obtain ⟨gl, ol, hrl, hAl, z0, z1, -, z3⟩ := hp.at_ i hiX
                          have y5 := hp.blk.cell 0
                          simp only [List.getElem?_toArray, List.getElem?_cons_zero, hXl] at y5
                          rw [hAl] at y5
                          have hrow := hp.qs _ (List.getElem_mem hiX)
                          have hq5 : X[i].q = (qAt qs i).take k := congrArg Prod.snd hXi
                          have hX5 : X[i].own = oAt os i := congrArg Prod.fst hXi
                          have hql : X[i].q.length = k := by rw [hq5, List.length_take]; have := HKQ.out; omega
                          rw [hql] at z1 hrow
                          have hgb : ¬ gl = w.heap.size := fun e => hp.d1 (by rw [hrl, e])
                          have hbb := hp.row.bound
                          rw [hXl] at hbb
                          obtain ⟨N, hN⟩ : ∃ N, N = i + 1 := ⟨_, rfl⟩
                          rw [← hN] at hbb y5
                          have hqb := hrow.bound
                          generalize hxA : X[i].A = xA at *
                          generalize hxc : X[i].c = xc at *
                          generalize hxr : X[i].r = xr at *
                          have i3 : (i : Int) < (N : Int) := by omega
                          have hxm := hp.d2 _ (List.getElem_mem hiX)
                          rw [hxr] at hxm
                          have HALL := Lib.hid (fun W (hW : Kept (fun j => xr = some j) w5 W) => And.intro ((hW.cell (p := ⟨w.heap.size, 0, none⟩) hp.blk.lt (fun e => (hxm _ e).1 rfl)).trans y5) (And.intro ((hW.cell (p := ⟨gl, ol + i * 2 + 1, none⟩) (lt_of_cell z1).1 (fun e => (hxm _ e).2 hrl)).trans z1) ((hW.frozen (p := ⟨gl, ol + i * 2 + 1, none⟩) (lt_of_cell z1).1 (fun e => (hxm _ e).2 hrl)).trans z3)))
                          have HFIN : Hid (∀ w6 r6 A6 c6, Row w6 1 r6 A6 (k + 1) c6 (X[i].q.map (Value.int .i64) ++ [.int .i64 p]) → Kept (fun j => xr = some j) w5 w6 → (∀ j, r6 = some j → xr = some j ∨ w5.heap.size ≤ j) →
                              LayX w (w6.setCell ⟨gl, ol + i * 2 + 1, none⟩ (.slice A6 (k + 1) c6)) (layTo os qs i ++ [(oAt os i, (qAt qs i).take (k + 1))])) := Lib.hid fun w6 r6 A6 c6 hR6 hK6 hN6 => by
                            have hq6 : X[i].q ++ [p] = (qAt qs i).take (k + 1) := by rw [hq5, HTK.out]
                            have hp6 := hp.put_queue hiX hrl hAl (q' := X[i].q ++ [p]) (r' := r6) (A' := A6) (c' := c6) (w2 := w6) (by rw [List.length_append, hql, List.map_append]; exact hR6) (by rw [hxr]; exact hK6) (by rw [hxr]; exact hN6)
                            rw [List.length_append, hql] at hp6
                            refine ⟨r, A, c, _, ?_, hp6, hr, ?_, ?_⟩
                            · rw [List.map_set, hX, List.set_append_right _ _ (by rw [layTo_len]; exact Nat.le_refl _), layTo_len, Nat.sub_self]
                              show layTo os qs i ++ [ab _] = _
                              congr 2
                              rw [← hq6]
                              exact Prod.ext hX5 rfl
                            · intro x hx' j hj
                              rcases mem_set hx' with rfl | hx'
                              · rcases hN6 j hj with e | e
                                · exact hx _ (List.getElem_mem hiX) j (hxr.trans e)
                                · exact Nat.le_trans hnr.size e
                              · exact hx x hx' j hj
                            · exact (hnr.step hK6 fun j hj e => absurd (hx _ (List.getElem_mem hiX) j (hxr.trans e)) (Nat.not_le.2 hj)).setCell (.inl (Nat.le_trans (Nat.le_refl _) (hr gl hrl))) _
                          obtain ⟨pA1, pA2, pA3⟩ := HALL.out _ ((Kept.refl _ _).alloc (.cells #[.int .i64 p] 3))
                          clear hX5 hXi
                          generalize hxq : X[i].q = xq at *
                          have lxq := hql
                          have HX5 := Lib.hid hX
                          have HP5 := Lib.hid hp
                          have HR5 := Lib.hid hr
                          have HX6 := Lib.hid hx
                          have HNR5 := Lib.hid hnr
                          have HRL := Lib.hid hrl
                          have HROW2 := Lib.hid hrow
                          have HQ5 := Lib.hid hq5
                          have HQL := Lib.hid hql
                          have HXM := Lib.hid hxm
                          have HXA := Lib.hid hxA
                          have HXC := Lib.hid hxc
                          have HXR := Lib.hid hxr
                          have HXQ := Lib.hid hxq
                          have HXL5 := Lib.hid hXl
                          clear hX hp hr hx hnr hrl hrow hq5 hql hxm hxA hxc hxr hxq hXl
                          clear z0 g2 hN
                          go_upto_region 18 with (fail)
                          go_region_law (first | (refine step_append_one (W := w5.drew) (T := 3) (fr := (0, 0)) (cs := [.int .i64 p]) tyInts rfl (.tmp 97) (.tmp 99) rfl rfl (Row.drewN HROW2.out 1) rfl rfl rfl rfl (by simp [Value.oneCell']) (by unfold maxLen; omega) (by omega) ?_; intro r6 A6 c6 w6 hr6 hk6 hn6; have HK6 : Hid (Kept (fun j => xr = some j) w5 w6) := Lib.hid ((Kept.refl _ _).drew.trans hk6); obtain ⟨q1, q2, q3⟩ := HALL.out w6 HK6.out; have HR6 := Lib.hid hr6; have HN6 := Lib.hid hn6; clear hr6 hn6 hk6) | fail)
                          all_goals
                            have hfin := HFIN.out w6 r6 A6 c6 HR6.out HK6.out HN6.out
                            have HFIN2 := Lib.hid hfin
                            clear hfin
                            go_wp2_with fail
                            go_roundw
                            case rel => exact ⟨k + 1, by omega, by go_num, HFIN2.out, Lib.hid fun k' hk' => by
                              by_cases e : k' = k
                              · subst e; exact HEL.out
                              · exact hels.out k' (by omega)⟩
                            case measure => simp [intOf]; omega
                  · obtain rfl : k = m := by omega
                    rw [HM.out, List.take_length, ← layTo_succ] at hlx
                    have hok2 := HLOK.out.next HOO.out (fun k' hk' => hels.out k' (by rw [HM.out]; exact hk'))
                    have HLX := Lib.hid hlx
                    have HOK2 := Lib.hid hok2
                    clear hlx hok2
                    go_wp2_with fail
                    go_roundw
                    case rel => exact ⟨i + 1, by omega, by go_num, HLX.out, HOK2.out⟩
                    case measure => simp [intOf]; omega
        · obtain rfl : i = no := by omega
          have hfin := hlx.at_
          have hend := hlx.fresh
          have HFIN := Lib.hid hfin
          have HEND := Lib.hid hend
          have HOK2 := Lib.hid hok
          clear hfin hend hok
          clear hlx
          go_wp2_with fail
          go_ret2
          have l1 := LO.out
          have l2 := LQ.out
          refine ⟨HEND.out, .inl ⟨HOK.out (by rw [← l1]; exact HOK2.out), rfl, by rw [← l1]; exact HOK2.out, by omega, by omega, by rw [← l1]; exact HFIN.out⟩⟩
    · have E := Lib.hid (layErr_ne (os := os) (qs := qs) (by omega) (by omega))
      have hne' : ((no : Int) != (nq : Int)) = true := by simp; omega
      have hne2 : (no != nq) = true := by simpa using hne
      clear ho hq hs lo lq hbig hne
      go_enter Try.func17, Try.ntmps17
      go_wp2_with fail
      go_ret2
      exact LayPost.bad (Kept.refl _ _) E.out (by decide) rfl
end
end Go.Proofs.Ytjjlemkmdldljaa.Locks
