/- The walk of the reference's Lay (layer 12). -/
import Derived.Test.YtjjlemkmdldljaaLocksLc
import Derived.Test.YtjjlemkmdldljaaLocksP
import Derived.Test.YtjjlemkmdldljaaMapI
import Derived.Test.YtjjlemkmdldljaaLocksLa
namespace Go.Fb
open Go.RowKit Go.Maps
theorem MapF.look0 {P : Program} {K E T : TypeId} {w : World} {b n : Nat} {f : Int → Option Int} (h : MapF P K E w b n f) (hT : P.underlying T = some (.map K E)) (hK : P.underlying K = some (.int .i64)) (hE : P.underlying E = some (.int .i64)) (hz : ∀ W, (zeroValue E).run P W = .ok (.int .i64 0) W) {x : Int} (hx : (Lit.int .i64 x).wf = true) :
    (Instr.lookup T (.map (some b)) (.int .i64 x) false).run P w = .ok (.int .i64 ((f x).getD 0)) w := by
  obtain ⟨D, h1, h2, h3⟩ := h
  obtain ⟨c, hrun, hat, hwc⟩ := h1.lookup_int (int_keyed hK) hT hE (hz w) (MapF.key_of hK hx)
  obtain ⟨e1, e2⟩ := h3 x hx
  have : c = (f x).getD 0 := by
    cases hf : f x with
    | none =>
      rw [hf] at e1
      rw [atKey_of_not_has e1] at hat
      injection hat with hat
      injection hat with _ hat
      exact hat.symm
    | some v =>
      rw [e2 v hf] at hat
      injection hat with hat
      injection hat with _ hat
      exact hat.symm
  rw [hrun, this]
end Go.Fb
namespace Go.Proofs.Ytjjlemkmdldljaa.Locks
open Go.RowKit Go.Fb
set_option linter.unusedVariables false
def Met (qs : List (List Int)) (i k : Nat) (y : Int) : Prop := (∃ j, j < i ∧ y ∈ qAt qs j) ∨ y ∈ (qAt qs i).take k
def Seen (qs : List (List Int)) (i k : Nat) (f : Int → Option Int) : Prop := (∀ y, Met qs i k y → (f y).getD 0 = 1) ∧ ∀ y, ¬ Met qs i k y → (f y).getD 0 = 0
section
variable {os : List Int} {qs : List (List Int)} {i k n : Nat} {f : Int → Option Int}
theorem Met.next {y : Int} (h : k < (qAt qs i).length) : Met qs i (k + 1) y ↔ Met qs i k y ∨ y = (qAt qs i)[k] := by
  unfold Met
  rw [List.take_succ_eq_append_getElem h, List.mem_append, List.mem_singleton, or_assoc]
theorem Met.row {y : Int} : Met qs (i + 1) 0 y ↔ Met qs i (qAt qs i).length y := by
  unfold Met
  rw [List.take_length]
  simp only [List.take_zero, List.not_mem_nil, or_false]
  constructor
  · rintro ⟨j, hj, h⟩
    by_cases e : j = i
    · subst e; exact .inr h
    · exact .inl ⟨j, by omega, h⟩
  · rintro (⟨j, hj, h⟩ | h)
    · exact ⟨j, by omega, h⟩
    · exact ⟨i, by omega, h⟩
theorem Seen.start : Seen qs 0 0 (fun _ => none) := by
  refine ⟨fun y h => ?_, fun _ _ => rfl⟩
  rcases h with ⟨j, hj, _⟩ | h
  · omega
  · simp at h
theorem Seen.put (h : Seen qs i k f) (hk : k < (qAt qs i).length) : Seen qs i (k + 1) (fun y => if y = (qAt qs i)[k] then some 1 else f y) := by
  refine ⟨fun y hy => ?_, fun y hy => ?_⟩
  · dsimp only
    split
    · rfl
    · rename_i hne
      exact h.1 y (((Met.next hk).1 hy).resolve_right hne)
  · dsimp only
    rw [Met.next hk] at hy
    rw [if_neg (fun e => hy (.inr e))]
    exact h.2 y (fun e => hy (.inl e))
theorem Seen.row (h : Seen qs i (qAt qs i).length f) : Seen qs (i + 1) 0 f := ⟨fun y hy => h.1 y (Met.row.1 hy), fun y hy => h.2 y fun e => hy (Met.row.2 e)⟩
end
section
variable {w : World} {B : Nat} {Ao Aq : Option Addr} {no co nq cq : Nat} {os : List Int} {qs : List (List Int)}
set_option maxHeartbeats 8000000 in
set_option maxRecDepth 100000 in
theorem rlay_any (ho : SliceOf (Rep.int .i64) w B Ao no co os) (hq : SliceOf (Rep.int .i64).slice w B Aq nq cq qs) (hB : B ≤ w.heap.size) (hs : ∀ q ∈ qs, q.length ≤ 1048576) :
    Calls Try.prog 19 #[.slice Ao no co, .slice Aq nq cq] w (LayPost w RAt os qs) := by
  have hbo := ho.bound
  have hbq := hq.bound
  have lo := ho.len
  have lq := hq.len
  by_cases hbig : 8 < no ∨ 8 < nq
  · have E := Lib.hid (layErr_big (os := os) (qs := qs) (by omega))
    clear ho hq hs lo lq
    by_cases h1 : 8 < no
    · clear hbig
      go_enter Try.func19, Try.ntmps19
      go_wp2_with fail
      go_ret2
      exact LayPost.bad (Kept.refl _ _) E.out (by decide) rfl
    · have h2 : 8 < nq := by omega
      have h1' : no ≤ 8 := by omega
      clear hbig h1
      go_enter Try.func19, Try.ntmps19
      go_wp2_with fail
      go_ret2
      exact LayPost.bad (Kept.refl _ _) E.out (by decide) rfl
  · have h1 : no ≤ 8 := by omega
    have h2 : nq ≤ 8 := by omega
    by_cases hne : no = nq
    · subst hne
      have hnb : ¬ (8 < os.length ∨ 8 < qs.length) := by omega
      have hll : os.length = qs.length := by omega
      have HBAD := Lib.hid (fun h => layErr_bad (os := os) (qs := qs) hnb hll h)
      have HOK := Lib.hid (fun h => layErr_ok (os := os) (qs := qs) hnb hll h)
      have HO : Hid (∀ W, New w W → ∀ i, i < no → ∃ g o, Ao = some ⟨g, o, none⟩ ∧ W.cell? ⟨g, o + i, none⟩ = some (.int .i64 (oAt os i))) := Lib.hid fun W hW i hi => si_at (ho.kept hW hB fun _ _ h => h) i hi
      have HQ : Hid (∀ i, i < no → ∃ g o A' c', Aq = some ⟨g, o, none⟩ ∧ (∀ W, New w W → W.cell? ⟨g, o + i, none⟩ = some (.slice A' (qAt qs i).length c')) ∧ ∀ W, New w W → SliceOf (Rep.int .i64) W B A' (qAt qs i).length c' (qAt qs i)) := Lib.hid fun i hi => sl_at hq hB i hi
      have HSM : Hid (∀ i, i < no → (qAt qs i).length ≤ 1048576) := Lib.hid fun i hi => by unfold qAt; rw [getD_nat _ _ _ (by omega)]; exact hs _ (List.getElem_mem _)
      have HWO : Hid (∀ i, i < no → (Lit.int .i64 (oAt os i)).wf = true) := Lib.hid fun i hi => by unfold oAt; rw [getD_nat _ _ _ (by omega)]; exact ho.wf _ (List.getElem_mem _)
      have hb0 : Blk (w.alloc (.cells #[.slice none 0 0, .slice none 0 0] 58)) w.heap.size 58 #[.slice none 0 0, .slice none 0 0] := Blk.made _ _ _
      have hn0 : New w (w.alloc (.cells #[.slice none 0 0, .slice none 0 0] 58)) := (Kept.refl _ _).alloc _
      have hmm := @run_makeMap Try.prog
      obtain ⟨M, hM⟩ : ∃ M : Nat, M = 1048576 := ⟨_, rfl⟩
      have LO := Lib.hid lo
      have LQ := Lib.hid lq
      have HNB := Lib.hid hnb
      have HLL := Lib.hid hll
      have HB0 := Lib.hid hb0
      have HN0 := Lib.hid hn0
      have HMX := Lib.hid hM
      clear lo lq hnb hll hb0 hn0 hM
      clear ho hq hs hbig
      go_enter Try.func19, Try.ntmps19
      go_upto_region 6 with (fail)
      generalize w.alloc (.cells #[.slice none 0 0, .slice none 0 0] 58) = w0 at *
      have hmap := MapF.made (P := Try.prog) (K := 3) (E := 3) w0
      have hkm : New w0 (w0.alloc (.map #[] 0)) := (Kept.refl _ _).alloc _
      have hb1 := HB0.out.kept hkm id
      have hn1 := HN0.out.trans hkm
      have hbm : ¬ w.heap.size = w0.heap.size := fun e => by have := HB0.out.lt; omega
      have hbw : w.heap.size ≤ w0.heap.size := HN0.out.size
      have hml := hmap.lt
      have HMAP := Lib.hid hmap
      have HB1 := Lib.hid hb1
      have HN1 := Lib.hid hn1
      have HBM := Lib.hid hbm
      have HBW := Lib.hid hbw
      have HML := Lib.hid hml
      clear hmap hb1 hn1 hbm hbw hml
      clear hkm
      go_upto_region 7 with (fail)
      generalize w0.alloc (.map #[] 0) = w1 at *
      generalize w0.heap.size = bm at *
      clear hmm
      have hbl := HB1.out.lt
      have ht0 : Told w1.heap.size w1 0 0 none none 0 none none 0 ((layTo os qs 0).map (·.1)) [] := ⟨Row.nil _ _, Row.nil _ _, by simp, by simp, by simp, by simp, by simp, by simp, fun i j hi => absurd hi (by simp)⟩
      have HBL := Lib.hid hbl
      have HT0 := Lib.hid ht0
      clear hbl ht0
      go_wp2_with fail
      go_loopw [8] (fun s wr => ∃ (i N : Nat) (f : Int → Option Int) (ro : Option Nat) (Ar : Option Addr) (cr : Nat) (rq : Option Nat) (As : Option Addr) (cs : Nat) (Y : List Lk), i ≤ no ∧ s = .int .i64 i ∧ Kept (fun k => k = w.heap.size ∨ k = bm) w1 wr ∧ Blk wr w.heap.size 58 #[.slice Ar i cr, .slice As i cs] ∧
        Told w1.heap.size wr i i ro Ar cr rq As cs ((layTo os qs i).map (·.1)) Y ∧ Y.map (·.q) = (layTo os qs i).map (·.2) ∧ MapF Try.prog 3 3 wr bm N f ∧ N ≤ i * M ∧ Seen qs i 0 f ∧ LayOk os qs i) (fun s _ => (no - intOf s).toNat)
      case atStart => exact ⟨0, 0, _, none, none, 0, none, none, 0, [], Nat.zero_le _, rfl, Kept.refl _ _, HB1.out, HT0.out, rfl, HMAP.out, Nat.zero_le _, Seen.start, LayOk.start⟩
      case round =>
        obtain ⟨i, N, f, ro, Ar, cr, rq, As, cs, Y, hi, rfl, hkw, hbk, htd, hYq, hmp, hN, hsn, hok⟩ := hrel
        have hfr : New w wr := HN1.out.step hkw fun k hk e => by
          have := HBW.out
          rcases e with e | e <;> omega
        by_cases hlt : i < no
        · obtain ⟨wo, rfl⟩ : ∃ wo, wo = wr := ⟨_, rfl⟩
          obtain ⟨g, o, rfl, x0⟩ := HO.out wo hfr i hlt
          obtain ⟨gq, oq, A', c', rfl, hy0, hsl⟩ := HQ.out i hlt
          have HX0 : Hid (∀ W, New w W → W.cell? ⟨g, o + i, none⟩ = some (.int .i64 (oAt os i))) := Lib.hid fun W hW => by
            obtain ⟨g', o', e, h⟩ := HO.out W hW i hlt
            injection e with e
            injection e with e1 e2
            subst e1; subst e2
            exact h
          have y0 := hy0 wo hfr
          have hsm := HSM.out i hlt
          have howf := HWO.out i hlt
          have HBADO := Lib.hid (fun (h : ¬ OwnOk os qs i) => HBAD.out (fun hk => h (hk i (by have := LO.out; omega)).1))
          have HBADE := Lib.hid (fun k (hk : k < (qAt qs i).length) (h : ¬ ElOk os qs i k) => HBAD.out (fun hk' => h ((hk' i (by have := LO.out; omega)).2 k hk)))
          have HOWN : Hid (∀ v, v = oAt os i → (OwnOk os qs i ↔ -1 ≤ v ∧ (v = -1 → (qAt qs i).length = 0))) := Lib.hid fun v hv => by
            subst hv
            unfold OwnOk
            rw [List.length_eq_zero_iff]
          obtain ⟨ow, how⟩ : ∃ ow, ow = oAt os i := ⟨_, rfl⟩
          have hown := HOWN.out ow how
          rw [← how] at x0 howf HX0
          obtain ⟨m, hm⟩ : ∃ m, m = (qAt qs i).length := ⟨_, rfl⟩
          rw [← hm] at y0 hy0 hsl hsm hown HBADE
          have f2 : (0 : Int) ≤ (i : Int) := by omega
          have f3 : (i : Int) < (no : Int) := by omega
          have hsb := (hsl wo hfr).bound
          have HY0 := Lib.hid hy0
          have HSL := Lib.hid hsl
          have HOW := Lib.hid how
          have HM := Lib.hid hm
          have HLOK := Lib.hid hok
          have HKW := Lib.hid hkw
          have HBK := Lib.hid hbk
          have HTD := Lib.hid htd
          have HYQ := Lib.hid hYq
          have HMP := Lib.hid hmp
          have HNN := Lib.hid hN
          have HSN := Lib.hid hsn
          have HOWF := Lib.hid howf
          clear how hm hok hkw hbk htd hYq hmp hN hsn howf
          clear hy0 hsl
          by_cases g1 : ow < -1
          · have E := Lib.hid (HBADO.out (fun h => by have := (hown.1 h).1; omega))
            have HFR := Lib.hid hfr
            have HOWN := Lib.hid hown
            clear hfr hown
            go_wp2_with fail
            go_ret2
            exact LayPost.bad HFR.out E.out (by decide) rfl
          · have g1' : -1 ≤ ow := by omega
            by_cases g2 : ow = -1 ∧ 0 < m
            · obtain ⟨g3, g4⟩ := g2
              have E := Lib.hid (HBADO.out (fun h => by have := (hown.1 h).2 g3; omega))
              have g5 : (0 : Int) < (m : Int) := by omega
              have g6 : (ow == -1) = true := by simpa using g3
              have HFR := Lib.hid hfr
              have HOWN := Lib.hid hown
              clear hfr hown
              clear g1 g3
              go_wp2_with fail
              go_ret2
              exact LayPost.bad HFR.out E.out (by decide) rfl
            · have HOO := Lib.hid (hown.2 ⟨g1', fun h => by omega⟩)
              have hcond : ((ow == -1) = true ∧ (m : Int) ≤ 0) ∨ (ow == -1) = false := by
                by_cases h : ow = -1
                · exact .inl ⟨by simpa using h, by omega⟩
                · exact .inr (by simpa using h)
              have HFR := Lib.hid hfr
              have HOWN := Lib.hid hown
              clear hfr hown
              clear g1 g2
              rcases hcond with ⟨hz1, hz2⟩ | hz1
              all_goals
                go_wp2_with fail
                clear x0 y0
                try clear hz2
                go_loopw [9] (fun s W => ∃ (k N2 : Nat) (f2 : Int → Option Int), k ≤ m ∧ s = .int .i64 k ∧ Kept (fun j => j = bm) wo W ∧ MapF Try.prog 3 3 W bm N2 f2 ∧ N2 ≤ i * M + k ∧ Seen qs i k f2 ∧ Hid (∀ k', k' < k → ElOk os qs i k')) (fun s _ => (m - intOf s).toNat)
                case atStart => exact ⟨0, N, f, Nat.zero_le _, rfl, Kept.refl _ _, HMP.out, by have := HNN.out; omega, HSN.out, Lib.hid fun k' hk' => absurd hk' (Nat.not_lt_zero _)⟩
                case round =>
                  obtain ⟨k, N2, f2, hk, rfl, hkr, hmp2, hN2, hsn2, hels⟩ := hrel
                  have hfr2 : New w wr := HFR.out.step hkr fun j hj e => by have := HBW.out; omega
                  have x0 := HX0.out wr hfr2
                  have y0 := HY0.out wr hfr2
                  by_cases hlk : k < m
                  · have hsl2 := HSL.out wr hfr2
                    have hkq : k < (qAt qs i).length := by rw [← HM.out]; exact hlk
                    obtain ⟨ge, oe, rfl, -, hce⟩ := hsl2.ints (by omega)
                    have xe := hce k hkq
                    have hwfp := hsl2.wf _ (List.getElem_mem hkq)
                    have hlook := hmp2.look0 (T := 69) Try.underlying69 Try.underlying3 Try.underlying3 (fun W => by kernel_rfl) hwfp
                    have hgd : (qAt qs i).getD k 0 = (qAt qs i)[k] := getD_nat _ _ _ hkq
                    have hM1 : Met qs i k (qAt qs i)[k] → ¬ ElOk os qs i k := fun h he => by
                      obtain ⟨-, -, h3, h4⟩ := he
                      rw [hgd] at h3 h4
                      rcases h with ⟨j, hj, hp⟩ | hp
                      · exact h3 j hj hp
                      · exact h4 hp
                    have hM2 : ¬ Met qs i k (qAt qs i)[k] → 0 ≤ (qAt qs i)[k] → (qAt qs i)[k] ≠ ow → ElOk os qs i k := fun h' h1 h2 => by
                      unfold ElOk
                      rw [hgd]
                      exact ⟨h1, by rw [← HOW.out]; exact h2, fun j hj hp => h' (.inl ⟨j, hj, hp⟩), fun hp => h' (.inr hp)⟩
                    have hN1 : (qAt qs i)[k] < 0 → ¬ ElOk os qs i k := fun h he => by
                      have := he.1
                      rw [hgd] at this
                      omega
                    have hNE : (qAt qs i)[k] = ow → ¬ ElOk os qs i k := fun h he => by
                      have := he.2.1
                      rw [hgd, ← HOW.out] at this
                      exact this h
                    have hput := hsn2.put hkq
                    have hV1 := hsn2.1 (qAt qs i)[k]
                    have hV2 := hsn2.2 (qAt qs i)[k]
                    have HBK2 := Lib.hid (HBADE.out k hlk)
                    generalize (qAt qs i)[k] = p at *
                    have hiN : i * M ≤ 8388608 := by rw [HMX.out]; omega
                    obtain ⟨w5, hup, hmp5, hk5⟩ := hmp2.update (T := 69) Try.underlying69 Try.underlying3 Try.underlying3 (by unfold maxLen; omega) hwfp (show (Lit.int .i64 1).wf = true by decide)
                    have k2 : (0 : Int) ≤ (k : Int) := by omega
                    have k3 : (k : Int) < (m : Int) := by omega
                    generalize (f2 p).getD 0 = v at *
                    have HM1 := Lib.hid hM1
                    have HM2 := Lib.hid hM2
                    have HN1 := Lib.hid hN1
                    have HNE := Lib.hid hNE
                    have HPUT := Lib.hid hput
                    have HGD := Lib.hid hgd
                    have HKQ := Lib.hid hkq
                    have HKR := Lib.hid hkr
                    have HMP2 := Lib.hid hmp2
                    have HN2 := Lib.hid hN2
                    have HSN2 := Lib.hid hsn2
                    have HFR2 := Lib.hid hfr2
                    have HV1 := Lib.hid hV1
                    have HV2 := Lib.hid hV2
                    have HMP5 := Lib.hid hmp5
                    have HK5 := Lib.hid hk5
                    have HWFP := Lib.hid hwfp
                    have HIN := Lib.hid hiN
                    clear hM1 hM2 hN1 hNE hput hgd hkq hkr hmp2 hN2 hsn2 hfr2 hV1 hV2 hmp5 hk5 hwfp hiN
                    clear hce hsl2
                    by_cases g1 : p < 0
                    · have E := Lib.hid (HBK2.out (HN1.out g1))
                      go_wp2_with fail
                      go_ret2
                      exact LayPost.bad HFR2.out E.out (by decide) rfl
                    · have g1' : 0 ≤ p := by omega
                      by_cases g2 : p = ow
                      · have E := Lib.hid (HBK2.out (HNE.out g2))
                        have g3 : (p == ow) = true := by simpa using g2
                        clear g2 g1
                        go_wp2_with fail
                        go_ret2
                        exact LayPost.bad HFR2.out E.out (by decide) rfl
                      · have g3 : (p == ow) = false := by simpa using g2
                        by_cases hmet : Met qs i k p
                        · have E := Lib.hid (HBK2.out (HM1.out hmet))
                          obtain rfl := HV1.out hmet
                          clear g2 g1 hmet
                          go_wp2_with fail
                          go_ret2
                          exact LayPost.bad HFR2.out E.out (by decide) rfl
                        · have HEL := Lib.hid (HM2.out hmet g1' g2)
                          obtain rfl := HV2.out hmet
                          clear g2 g1 hmet
                          go_wp2_with fail
                          all_goals
                            go_roundw
                            case rel => exact ⟨k + 1, _, _, by omega, by go_num, HKR.out.trans HK5.out, HMP5.out, by have := HN2.out; omega, HPUT.out, Lib.hid fun k' hk' => by
                              by_cases e : k' = k
                              · subst e; exact HEL.out
                              · exact hels.out k' (by omega)⟩
                            case measure => simp [intOf]; omega
                  · obtain rfl : k = m := by omega
                    have hsnr := Seen.row (by rw [← HM.out]; exact hsn2)
                    have hok2 := HLOK.out.next HOO.out (fun k' hk' => hels.out k' (by rw [HM.out]; exact hk'))
                    have hNN2 : N2 ≤ (i + 1) * M := by have := HMX.out; rw [Nat.add_mul]; omega
                    have hbl1 := HBL.out
                    have hml1 := HML.out
                    have HY0' := HY0
                    have hbk2 := HBK.out.kept hkr HBM.out
                    have htd2 := HTD.out.kept hkr (fun j e e' => by have := HTD.out.fo j e; omega) (fun j e e' => by have := HTD.out.fq j e; omega) (fun y hy j e e' => by have := HTD.out.fe y hy j e; omega)
                    have hkw2 : Kept (fun k => k = w.heap.size ∨ k = bm) w1 wr := HKW.out.trans (hkr.mono fun j _ e => .inr e)
                    have c0 := hbk2.cell 0
                    have c1 := hbk2.cell 1
                    have d0 := hbk2.free 0
                    have d1 := hbk2.free 1
                    simp only [List.getElem?_toArray, List.getElem?_cons_zero, List.getElem?_cons_succ] at c0 c1
                    have hsz2 := hkw2.size
                    have hro : ro ≠ some w.heap.size := fun e => by have := htd2.fo _ e; omega
                    have hrq : rq ≠ some w.heap.size := fun e => by have := htd2.fq _ e; omega
                    have hbo2 := htd2.ow.bound
                    have hbq2 := htd2.qu.bound
                    have hYl : Y.length = i := by have := congrArg List.length HYQ.out; rw [List.length_map, List.length_map, layTo_len] at this; exact this
                    have kA : New wr (wr.alloc (.cells #[.int .i64 ow] 3)) := (Kept.refl _ _).alloc _
                    have pA1 := (hbk2.kept kA id).cell 0
                    have pA2 := HX0.out _ (hfr2.trans kA)
                    simp only [List.getElem?_toArray, List.getElem?_cons_zero] at pA1
                    have HKR := Lib.hid hkr
                    have HMP2 := Lib.hid hmp2
                    have HN2 := Lib.hid hN2
                    have HSN2 := Lib.hid hsn2
                    have HELS := Lib.hid hels
                    have HSNR := Lib.hid hsnr
                    have HOK2 := Lib.hid hok2
                    have HNN2 := Lib.hid hNN2
                    have HBL1 := Lib.hid hbl1
                    have HML1 := Lib.hid hml1
                    have HBK2 := Lib.hid hbk2
                    have HTD2 := Lib.hid htd2
                    have HKW2 := Lib.hid hkw2
                    have HSZ2 := Lib.hid hsz2
                    have HRO := Lib.hid hro
                    have HRQ := Lib.hid hrq
                    have HYL := Lib.hid hYl
                    have HFR2 := Lib.hid hfr2
                    clear hkr hmp2 hN2 hsn2 hels hsnr hok2 hNN2 hbl1 hml1 hbk2 htd2 hkw2 hsz2 hro hrq hYl hfr2
                    clear kA
                    go_upto_region 19 with (fail)
                    go_region_law (first | (refine step_append_one (W := wr.drew) (T := 3) (fr := (0, 0)) (cs := [.int .i64 ow]) tyInts rfl (.tmp 91) (.tmp 96) rfl rfl (Row.drewN HTD2.out.ow 1) rfl rfl rfl rfl (by simp [Value.oneCell']) (by unfold maxLen; omega) (by omega) ?_; intro r3 A3 c3 w3 hr3 hk3 hn3; have HK3 : Hid (Kept (fun j => ro = some j) wr w3) := Lib.hid ((Kept.refl _ _).drew.trans hk3); have z0 := (HBK2.out.kept HK3.out HRO.out).cell 0; have z1 := (HBK2.out.kept HK3.out HRO.out).free 0; simp only [List.getElem?_toArray, List.getElem?_cons_zero] at z0; have HR3 := Lib.hid hr3; have HN3 := Lib.hid hn3; clear hr3 hn3 hk3) | fail)
                    all_goals
                      go_upto_region 20 with (fail)
                      have htd3 := HTD2.out.push_own (by exact HSZ2.out) (v := ow) HR3.out HK3.out HN3.out
                      have hr3b : r3 ≠ some w.heap.size := fun e => by
                        rcases HN3.out _ e with h | h
                        · exact HRO.out h
                        · exact absurd HBK2.out.lt (Nat.not_lt.2 h)
                      have hYb : ∀ y ∈ Y, y.r ≠ some w.heap.size := fun y hy e => absurd (HTD2.out.fe y hy _ e) (Nat.not_le.2 HBL.out)
                      have ht4 := htd3.store hr3b HRQ.out hYb 0 (.slice A3 (i + 1) c3)
                      have hb4 := (HBK2.out.kept HK3.out HRO.out).set (i := 0) (.slice A3 (i + 1) c3)
                      simp only [List.setIfInBounds_toArray, List.set_cons_zero] at hb4
                      have hk4 : Kept (fun k => k = w.heap.size ∨ k = bm) w1 (w3.setCell ⟨w.heap.size, 0, none⟩ (.slice A3 (i + 1) c3)) := (HKW2.out.step HK3.out fun k hk e => absurd (HTD2.out.fo k e) (Nat.not_le.2 hk)).setCell (.inr (.inl rfl)) _
                      have hf4 : New w (w3.setCell ⟨w.heap.size, 0, none⟩ (.slice A3 (i + 1) c3)) := (HFR2.out.step HK3.out fun k hk e => absurd (Nat.le_trans HN1.out.size (HTD2.out.fo k e)) (Nat.not_le.2 hk)).setCell (.inl (Nat.le_refl _)) _
                      have hmp4 : MapF Try.prog 3 3 (w3.setCell ⟨w.heap.size, 0, none⟩ (.slice A3 (i + 1) c3)) bm N2 f2 := (HMP2.out.kept HK3.out fun e => absurd (HTD2.out.fo _ e) (Nat.not_le.2 HML.out)).kept (Kept.set1 w3 w.heap.size 0 (.slice A3 (i + 1) c3)) (fun e => HBM.out e.symm)
                      have hs4 : w1.heap.size ≤ w3.heap.size := Nat.le_trans HSZ2.out HK3.out.size
                      have hs4 : w1.heap.size ≤ (w3.setCell ⟨w.heap.size, 0, none⟩ (.slice A3 (i + 1) c3)).heap.size := hk4.size
                      generalize w3.setCell ⟨w.heap.size, 0, none⟩ (.slice A3 (i + 1) c3) = V at *
                      have v0 := hb4.cell 1
                      simp only [List.getElem?_toArray, List.getElem?_cons_zero, List.getElem?_cons_succ] at v0
                      have v1 := HY0'.out V hf4
                      have hbq4 := ht4.qu.bound
                      have kV : New V (V.alloc (.cells #[] 3)) := (Kept.refl _ _).alloc _
                      have v2 := (hb4.kept kV id).cell 1
                      simp only [List.getElem?_toArray, List.getElem?_cons_zero, List.getElem?_cons_succ] at v2
                      have v3 := HY0'.out _ (hf4.trans kV)
                      have HTD3 := Lib.hid htd3
                      have HR3B := Lib.hid hr3b
                      have HYB := Lib.hid hYb
                      have HT4 := Lib.hid ht4
                      have HB4 := Lib.hid hb4
                      have HK4O := Lib.hid hk4
                      have HF4 := Lib.hid hf4
                      have HMP4 := Lib.hid hmp4
                      have HS4 := Lib.hid hs4
                      clear htd3 hr3b hYb ht4 hb4 hk4 hf4 hmp4 hs4
                      clear kV hbo2 hbq2 x0 pA1 pA2 z0 z1 c0 c1 d0 d1
                      go_region_law (first
                        | (show (if Region.wanted ⟨some 110, _, _, _, _, _⟩ _ = true then _ else _)
                           refine step_copy (w := V) tyInts (by first | exact ((Kept.refl _ _).drew).alloc _ | exact ((Kept.refl _ _).alloc _).drew) (by rfl) (.tmp 105) (.tmp 109) (by rfl) (by rfl) (by rfl) (fun W' hW' => intsrc (HSL.out W' (HF4.out.trans hW'))) (by unfold maxLen; omega) (by omega) ?_
                           intro r4 A4 c4 w4 hr4 hk4 hk4' hn4
                           have hb5 := HB4.out.kept hk4 id
                           have kW : New w4 (w4.alloc (.cells #[.slice A4 k c4] 35)) := (Kept.refl _ _).alloc _
                           have q0 := hb5.cell 1
                           have q1 := (hb5.kept kW id).cell 1
                           simp only [List.getElem?_toArray, List.getElem?_cons_zero, List.getElem?_cons_succ] at q0 q1
                           have HR4 := Lib.hid hr4; have HN4 := Lib.hid hn4; have HK4 := Lib.hid hk4; have HB5 := Lib.hid hb5
                           clear hr4 hn4 hk4 hk4' hb5 kW)
                        | (show (if Region.wanted ⟨some 112, _, _, _, _, _⟩ _ = true then _ else _)
                           refine step_append_one (W := w4) (T := 35) (fr := (0, 0)) (cs := [.slice A4 k c4]) tyQueues (by rfl) (.tmp 104) (.tmp 111) (by rfl) (by rfl) (HT4.out.new HK4.out).qu (by rfl) (by rfl) (by rfl) (by rfl) (by simp [Value.oneCell']) (by unfold maxLen; omega) (by omega) ?_
                           intro r5 A5 c5 w5 hr5 hk5 hn5
                           have hb6 := HB5.out.kept hk5 HRQ.out
                           have s0 := hb6.cell 1
                           have s1 := hb6.free 1
                           simp only [List.getElem?_toArray, List.getElem?_cons_zero, List.getElem?_cons_succ] at s0
                           have HR5 := Lib.hid hr5; have HN5 := Lib.hid hn5; have HK5 := Lib.hid hk5; have HB6 := Lib.hid hb6
                           clear hr5 hn5 hk5 hb6)
                        | fail)
                      all_goals
                        have hr5b : r5 ≠ some w.heap.size := fun e => by
                          rcases HN5.out _ e with h | h
                          · exact HRQ.out h
                          · exact absurd HB5.out.lt (Nat.not_lt.2 h)
                        have hlt4 := HT4.out.ow.lt (by decide)
                        have hlq4 := HT4.out.qu.lt (by decide)
                        have hle4 : ∀ y ∈ Y, ∀ k, y.r = some k → k < V.heap.size := fun y hy => (HT4.out.el y hy).lt (by decide)
                        have ht5 := (HT4.out.new HK4.out).push_queue (y := ⟨0, r4, A4, c4, qAt qs i⟩) (Nat.le_trans HS4.out HK4.out.size) HYL.out (by rw [← HM.out]; exact HR4.out) (fun k e => Nat.le_trans HS4.out (HN4.out k e)) (fun k e => ⟨fun e' => absurd (hlt4 k e') (Nat.not_lt.2 (HN4.out k e)), fun e' => absurd (hlq4 k e') (Nat.not_lt.2 (HN4.out k e)), fun z hz e' => absurd (hle4 z hz k e') (Nat.not_lt.2 (HN4.out k e))⟩) (by rw [show slC ⟨0, r4, A4, c4, qAt qs i⟩ = .slice A4 k c4 by simp [slC, HM.out]]; exact HR5.out) HK5.out HN5.out
                        have hb7 := HB6.out.set (i := 1) (.slice A5 (i + 1) c5)
                        simp only [List.setIfInBounds_toArray, List.set_cons_zero, List.set_cons_succ] at hb7
                        have ht7 := ht5.store HR3B.out hr5b (fun y hy e => by
                          rcases List.mem_append.1 hy with hy | hy
                          · exact HYB.out y hy e
                          · rw [List.mem_singleton.1 hy] at e
                            have := HN4.out _ e; have := HB4.out.lt; omega) 1 (.slice A5 (i + 1) c5)
                        have hk7 : Kept (fun k => k = w.heap.size ∨ k = bm) w1 (w5.setCell ⟨w.heap.size, 1, none⟩ (.slice A5 (i + 1) c5)) := ((HK4O.out.trans (HK4.out.mono fun _ _ h => h.elim)).step HK5.out fun k hk e => absurd (HT4.out.fq k e) (Nat.not_le.2 hk)).setCell (.inr (.inl rfl)) _
                        have hmp7 : MapF Try.prog 3 3 (w5.setCell ⟨w.heap.size, 1, none⟩ (.slice A5 (i + 1) c5)) bm N2 f2 := ((HMP4.out.kept HK4.out id).kept HK5.out fun e => absurd (HT4.out.fq _ e) (Nat.not_le.2 HML.out)).kept (Kept.set1 w5 w.heap.size 1 (.slice A5 (i + 1) c5)) (fun e => HBM.out e.symm)
                        have hmap1 : (layTo os qs (i + 1)).map (·.1) = (layTo os qs i).map (·.1) ++ [ow] := by rw [layTo_succ, List.map_append, HOW.out]; rfl
                        have hmap2 : (Y ++ [(⟨0, r4, A4, c4, qAt qs i⟩ : Lk)]).map (·.q) = (layTo os qs (i + 1)).map (·.2) := by rw [layTo_succ, List.map_append, List.map_append, HYQ.out]; rfl
                        rw [← hmap1] at ht7
                        have HB7 := Lib.hid hb7
                        have HT7 := Lib.hid ht7
                        have HK7 := Lib.hid hk7
                        have HMP7 := Lib.hid hmp7
                        have HMAP2 := Lib.hid hmap2
                        clear hb7 ht7 hk7 hmp7 hmap2
                        clear ht5 hr5b hlt4 hlq4 hle4 hmap1
                        go_wp2_with fail
                        go_roundw
                        case rel => exact ⟨i + 1, N2, f2, r3, A3, c3, r5, A5, c5, _, by omega, by go_num, HK7.out, HB7.out, HT7.out, HMAP2.out, HMP7.out, HNN2.out, HSNR.out, HOK2.out⟩
                        case measure => simp [intOf]; omega
        · obtain rfl : i = no := by omega
          have hfin : ∃ F, RAt wr w.heap.size F (layTo os qs i) ∧ ∀ k, F k → w.heap.size ≤ k := by
            have h1 := HBL.out
            have h2 := HN1.out.size
            have hlen : (layTo os qs i).length = i := layTo_len
            have hYl : Y.length = i := by have := congrArg List.length hYq; rw [List.length_map, List.length_map] at this; omega
            refine ⟨fun k => w.heap.size ≤ k ∧ k < wr.heap.size, ⟨⟨ro, Ar, cr, rq, As, cs, Y, ?_, hYq⟩, fun k hk => hk.2⟩, fun k hk => hk.1⟩
            rw [hlen]
            refine ⟨hbk, ⟨htd.ow, htd.qu, htd.el, fun _ _ => Nat.zero_le _, fun _ _ => Nat.zero_le _, fun _ _ _ _ => Nat.zero_le _, htd.d1, htd.d2, htd.d3⟩, by rw [List.length_map, hlen], hYl, fun e => ?_, fun e => ?_, fun y hy e => ?_, fun k e => ⟨Nat.le_trans h2 (htd.fo k e), htd.ow.lt (by decide) k e⟩, fun k e => ⟨Nat.le_trans h2 (htd.fq k e), htd.qu.lt (by decide) k e⟩, fun y hy k e => ⟨Nat.le_trans h2 (htd.fe y hy k e), (htd.el y hy).lt (by decide) k e⟩, ⟨Nat.le_refl _, hbk.lt⟩⟩
            · have := htd.fo _ e; omega
            · have := htd.fq _ e; omega
            · have := htd.fe y hy _ e; omega
          have HFIN := Lib.hid hfin
          have HFR := Lib.hid hfr
          have HOK2 := Lib.hid hok
          clear hfin hfr hok
          clear hkw hbk htd hYq hmp hN hsn
          go_wp2_with fail
          go_ret2
          have l1 := LO.out
          have l2 := LQ.out
          refine ⟨HFR.out, .inl ⟨HOK.out (by rw [← l1]; exact HOK2.out), rfl, by rw [← l1]; exact HOK2.out, by omega, by omega, by rw [← l1]; exact HFIN.out⟩⟩
    · have E := Lib.hid (layErr_ne (os := os) (qs := qs) (by omega) (by omega))
      have hne' : ((no : Int) != (nq : Int)) = true := by simp; omega
      have hne2 : (no != nq) = true := by simpa using hne
      clear ho hq hs lo lq hbig hne
      go_enter Try.func19, Try.ntmps19
      go_wp2_with fail
      go_ret2
      exact LayPost.bad (Kept.refl _ _) E.out (by decide) rfl
end
end Go.Proofs.Ytjjlemkmdldljaa.Locks
