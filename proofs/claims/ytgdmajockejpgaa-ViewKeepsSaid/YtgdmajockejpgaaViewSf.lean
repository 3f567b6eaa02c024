/- The walk of the reference's CopyState (firebreakref15), for layer 18. -/
import Derived.Test.YtgdmajockejpgaaViewT
import Derived.Test.YtgdmajockejpgaaORepB
namespace Go.Proofs.Ytgdmajockejpgaa.View
open Go.RowKit Go.Fb
set_option linter.unusedVariables false
theorem OSl.nil_at {α : Type} {O : ORep α} {w : World} {F : Nat → Prop} (A : Option Addr) : OSl O w F A 0 0 [] := ⟨none, [], fun _ _ => False, ⟨by simp, .inl ⟨rfl, rfl, rfl⟩⟩, rfl, by simp, by simp, by simp, fun i hi => absurd hi (Nat.not_lt_zero _)⟩
/-- A copy laid behind an empty list: all of it new. -/
theorem clone_step {α : Type} {R : Rep α} {O : ORep α} {P : Program} {t e : TypeId} {f : α → List Value} (hu : P.underlying t = some (.slice e)) (one : ∀ {w : World} {B : Nat} {x : α} {cs : List Value}, R.cells w B x cs → ∀ u ∈ cs, u.oneCell' = true)
    (hf : ∀ {w : World} {B : Nat} {x : α} {cs : List Value}, R.cells w B x cs → cs = f x) (hs : O.size = R.size) (hlen : ∀ x, (f x).length = O.size) (ho : ∀ {w : World} {B : Nat} {x : α} {cs : List Value} (W : World), R.cells w B x cs → O.own W (fun _ => False) x (f x))
    {w : World} {B : Nat} {A : Option Addr} {n c : Nat} {l : List α} (h : SliceOf R w B A n c l) (hB : B ≤ w.heap.size) {W : World} (hW : New w W) (T : TypeId) :
    ∃ xs, Row (W.alloc (.cells #[] T)) R.size none (some ⟨W.heap.size, 0, none⟩) 0 0 [] ∧ Go.Src P R.size t (.slice A n c) n xs (W.alloc (.cells #[] T)) ∧ ∀ (r2 : Option Nat) (A2 : Option Addr) (c2 : Nat) (w2 : World), Row w2 R.size r2 A2 (0 + n) c2 ([] ++ xs) → Kept (fun k => none = some k) (W.alloc (.cells #[] T)) w2 → (∀ k, r2 = some k → none = some k ∨ (W.alloc (.cells #[] T)).heap.size ≤ k) →
      OSl O w2 (fun k => r2 = some k) A2 n c2 l ∧ New W w2 ∧ ∀ k, r2 = some k → W.heap.size < k ∧ k < w2.heap.size := by
  obtain ⟨lp, hlp, hk⟩ := h.known
  have hk0 : New W (W.alloc (.cells #[] T)) := (Kept.refl _ _).alloc _
  refine ⟨lp.flatMap (·.2), ⟨by simp, .inl ⟨rfl, rfl, rfl⟩⟩, (hk.kept (hW.trans hk0) hB fun _ _ h => h).src_known hu one, fun r2 A2 c2 w2 hr hkk hn => ?_⟩
  rw [Nat.zero_add, List.nil_append, flat_known (f := f) hk hf, hlp] at hr
  have hps : 0 < R.size := by rw [← hs]; exact O.pos
  refine ⟨OSl.of_row (O := O) (by rw [hs]; exact hr) (fun x _ => hlen x) h.len (fun _ e => e) (fun x hx => ?_), hk0.step hkk (fun i hi e => nomatch e), fun k e => ⟨?_, hr.lt hps k e⟩⟩
  · obtain ⟨es, h1⟩ := h.cells_mem x hx
    exact ho _ h1
  · rcases hn k e with h | h
    · cases h
    · rw [← size1] at h; omega
set_option maxHeartbeats 16000000 in
set_option maxRecDepth 100000 in
theorem copyState_any {w : World} {B : Nat} {s : State} {s0 s1 s2 : Value} (hs : repState.cells w B s [s0, s1, s2]) (hB : B ≤ w.heap.size) (hf : Few s) :
    Calls Try.prog 14 #[.agg #[s0, s1, s2]] w fun e w' => ∃ cs, e = .returned (.agg cs.toArray) ∧ stateO.own w' (fun k => w.heap.size ≤ k ∧ k < w'.heap.size) s cs ∧ New w w' := by
  obtain ⟨Aa, na, ca, Ab, nb, cb, e, ha, hb⟩ := hs
  simp only [List.cons.injEq, and_true] at e
  obtain ⟨rfl, rfl, rfl⟩ := e
  have hna := ha.len
  have hnb := hb.len
  have hna2 : na ≤ 1048576 := by have := hf.parts; omega
  have hnb2 : nb ≤ 1048576 := by have := hf.procs; omega
  have ka := ha.bound
  have kb := hb.bound
  have RA := Lib.hid (sl_here ha hB)
  have RB := Lib.hid (sl_here hb hB)
  have b1 : Blk (((w.alloc (.cells #[.int .i64 s.tick, .slice Aa na ca, .slice Ab nb cb] 30)).alloc (.cells #[.int .i64 0, .slice none 0 0, .slice none 0 0] 30)).alloc (.cells #[.int .i64 s.tick, .slice none 0 0, .slice none 0 0] 30)) w.heap.size 30 #[.int .i64 s.tick, .slice Aa na ca, .slice Ab nb cb] := ((Blk.made _ _ _).alloc _).alloc _
  have b2 : Blk (((w.alloc (.cells #[.int .i64 s.tick, .slice Aa na ca, .slice Ab nb cb] 30)).alloc (.cells #[.int .i64 0, .slice none 0 0, .slice none 0 0] 30)).alloc (.cells #[.int .i64 s.tick, .slice none 0 0, .slice none 0 0] 30)) (w.heap.size + 1) 30 #[.int .i64 0, .slice none 0 0, .slice none 0 0] := (Blk.made_at _ _ _ _ (by simp)).alloc _
  have b3 : Blk (((w.alloc (.cells #[.int .i64 s.tick, .slice Aa na ca, .slice Ab nb cb] 30)).alloc (.cells #[.int .i64 0, .slice none 0 0, .slice none 0 0] 30)).alloc (.cells #[.int .i64 s.tick, .slice none 0 0, .slice none 0 0] 30)) (w.heap.size + 2) 30 #[.int .i64 s.tick, .slice none 0 0, .slice none 0 0] := Blk.made_at _ _ _ _ (by simp)
  have hn : New w (((w.alloc (.cells #[.int .i64 s.tick, .slice Aa na ca, .slice Ab nb cb] 30)).alloc (.cells #[.int .i64 0, .slice none 0 0, .slice none 0 0] 30)).alloc (.cells #[.int .i64 s.tick, .slice none 0 0, .slice none 0 0] 30)) := (((Kept.refl _ _).alloc _).alloc _).alloc _
  clear ha hb
  have B1 := Lib.hid b1
  have B2 := Lib.hid b2
  have B3 := Lib.hid b3
  have HN := Lib.hid hn
  have HNA := Lib.hid hna
  have HNB := Lib.hid hnb
  have HF := Lib.hid hf
  clear b1 b2 b3 hn hna hnb hf
  go_enter Try.func14, Try.ntmps14
  go_upto_region 2 with (fail)
  generalize (((w.alloc (.cells #[.int .i64 s.tick, .slice Aa na ca, .slice Ab nb cb] 30)).alloc (.cells #[.int .i64 0, .slice none 0 0, .slice none 0 0] 30)).alloc (.cells #[.int .i64 s.tick, .slice none 0 0, .slice none 0 0] 30)) = w1 at *
  have hb3l := B3.out.lt
  have HBW : Hid (w.heap.size + 2 < w1.heap.size) := Lib.hid hb3l
  clear hb3l
  generalize hbw : w.heap.size = b at *
  have HBE : Hid (w.heap.size = b) := Lib.hid hbw
  have hB' : B ≤ w.heap.size := by rw [hbw]; exact hB
  clear hbw
  have z1 := B1.out.cell 1
  have z2 := B1.out.cell 2
  simp only [List.getElem?_toArray, List.getElem?_cons_zero, List.getElem?_cons_succ] at z1 z2
  go_wp2_with fail
  go_loopw [4] (fun t wr => ∃ (i : Nat) (A : Option Addr) (cc : Nat), i ≤ na ∧ t = .int .i64 i ∧ OSl partO wr (fun k => w1.heap.size ≤ k ∧ k < wr.heap.size) A i cc (s.parts.take i) ∧ Blk wr (b + 2) 30 #[.int .i64 s.tick, .slice A i cc, .slice none 0 0] ∧ Kept (fun k => k = b + 2) w1 wr) (fun t _ => (na - intOf t).toNat)
  case atStart => exact ⟨0, none, 0, Nat.zero_le _, rfl, OSl.nil, B3.out, Kept.refl _ _⟩
  case round =>
    obtain ⟨i, A, cc, hi, rfl, hout, hbo, hkr⟩ := hrel
    obtain ⟨wo, hwo⟩ : ∃ wo, wo = wr := ⟨_, rfl⟩
    subst hwo
    have hg0 := HBW.out
    have hnr : New w wo := HN.out.step hkr fun k hk e => by have := HBE.out; omega
    have hb1 := B1.out.kept hkr (fun e => by omega)
    have z1 := hb1.cell 1
    have z2 := hb1.cell 2
    simp only [List.getElem?_toArray, List.getElem?_cons_zero, List.getElem?_cons_succ] at z1 z2
    by_cases hlt : i < na
    · have hiL : i < s.parts.length := by have := HNA.out; omega
      obtain ⟨g, o, cs, rfl, hcl, hc⟩ := RA.out i hiL
      obtain ⟨p0, p1, p2, p3, p4, p5, p6, p7, p8, rfl, hlg, how, hqu⟩ := (hc w (Kept.refl _ _)).2
      have hxc : ∀ W, New w W → W.cell? ⟨g, o + i * 6, none⟩ = some (.int .i64 s.parts[i].cursor) ∧ W.cell? ⟨g, o + i * 6 + 1, none⟩ = some (.slice p0 p1 p2) ∧ W.cell? ⟨g, o + i * 6 + 2, none⟩ = some (.int .i64 s.parts[i].lost) ∧ W.cell? ⟨g, o + i * 6 + 3, none⟩ = some (.int .i64 s.parts[i].forbidden) ∧ W.cell? ⟨g, o + i * 6 + 4, none⟩ = some (.slice p3 p4 p5) ∧ W.cell? ⟨g, o + i * 6 + 5, none⟩ = some (.slice p6 p7 p8) := fun W hW => by
        have h := (hc W hW).1
        change ∀ j', j' < 6 → W.cell? ⟨g, o + i * 6 + j', none⟩ = _ at h
        exact ⟨h 0 (by decide), h 1 (by decide), h 2 (by decide), h 3 (by decide), h 4 (by decide), h 5 (by decide)⟩
      obtain ⟨x0, x1, x2, x3, x4, x5⟩ := hxc wo hnr
      clear hxc hc hcl
      have hin := HF.out.inner _ (List.getElem_mem hiL)
      have HTK := Lib.hid (List.take_succ_eq_append_getElem hiL)
      generalize s.parts[i] = x at *
      have e2 : (0 : Int) ≤ (i : Int) := by omega
      have e3 : (i : Int) < (na : Int) := by omega
      obtain ⟨hi1, hi2, hi3, hi4⟩ := hin
      have m1 : p1 ≤ 1048576 := by have := hlg.len; omega
      have m2 : p4 ≤ 1048576 := by have := how.len; omega
      have m3 : p7 ≤ 1048576 := by have := hqu.len; omega
      have k1 := hlg.bound
      have k2 := how.bound
      have k3 := hqu.bound
      have HQ := Lib.hid (sl_here hqu hB')
      have HQL := Lib.hid hqu.len
      have HC1 := Lib.hid fun W (hW : New w W) => clone_step (R := repEntry) (O := entO) (P := Try.prog) (f := entC) Try.underlying40 oneEnts (fun h => h.1) rfl (fun _ => rfl) (fun _ h => ⟨rfl, h.2⟩) hlg hB' hW 45
      have HC2 := Lib.hid fun W (hW : New w W) => clone_step (R := (Rep.int .i64)) (O := intO) (P := Try.prog) (f := (fun x => [Value.int .i64 x])) Try.underlying23 oneInts (fun h => h.1) rfl (fun _ => rfl) (fun _ h => ⟨rfl, h.2⟩) how hB' hW 3
      have HI4 := Lib.hid hi4
      clear hi1 hi2 hi3 hi4 hlg how hqu
      have hal : New wo (wo.alloc (.cells #[.int .i64 x.cursor, .slice p0 p1 p2, .int .i64 x.lost, .int .i64 x.forbidden, .slice p3 p4 p5, .slice p6 p7 p8] 43)) := (Kept.refl _ _).alloc _
      have hbx := Blk.made wo 43 #[.int .i64 x.cursor, .slice p0 p1 p2, .int .i64 x.lost, .int .i64 x.forbidden, .slice p3 p4 p5, .slice p6 p7 p8]
      have hob := hout.bound
      have HKR := Lib.hid hkr
      have HOUT := Lib.hid hout
      have HBO := Lib.hid hbo
      have HNR := Lib.hid hnr
      have HAL := Lib.hid hal
      have HBX := Lib.hid hbx
      have HB1R := Lib.hid hb1
      clear hkr hout hbo hnr hal hbx hb1
      clear hiL
      go_upto_region 6 with (fail)
      generalize wo.alloc (.cells #[.int .i64 x.cursor, .slice p0 p1 p2, .int .i64 x.lost, .int .i64 x.forbidden, .slice p3 p4 p5, .slice p6 p7 p8] 43) = w6 at *
      clear x0 x1 x2 x3 x4 x5
      have HSZ6 : Hid (wo.heap.size < w6.heap.size) := Lib.hid HBX.out.lt
      have HOX : Hid (b + 2 < wo.heap.size) := Lib.hid HBO.out.lt
      generalize hbxe : wo.heap.size = bx at *
      have HBXE : Hid (wo.heap.size = bx) := Lib.hid hbxe
      have HGX : Hid (bx < w6.heap.size ∧ b + 2 < bx) := Lib.hid ⟨HSZ6.out, HOX.out⟩
      have HN6 : Hid (New w w6) := Lib.hid (HNR.out.trans HAL.out)
      clear hbxe
      obtain ⟨xs1, hw1, hs1, hfin1⟩ := HC1.out w6 HN6.out
      have HW1 := Lib.hid hw1
      have HS1 := Lib.hid hs1
      have HFIN1 := Lib.hid hfin1
      clear hw1 hs1 hfin1
      have y1 := (HBX.out.alloc (.cells #[] 45)).cell 1
      simp only [List.getElem?_toArray, List.getElem?_cons_zero, List.getElem?_cons_succ] at y1
      go_upto_region 7 with (at_builtin; refine wpList_append_row tyEnts rfl (.tmp 28) (.tmp 30) rfl rfl HW1.out rfl HS1.out (by unfold maxLen; omega) (by omega) ?_; intro r1 A1 c1 wm1 hr hk hn; obtain ⟨ho, hm, hf⟩ := HFIN1.out _ _ _ _ hr hk hn; rw [Nat.zero_add]; have HO1 := Lib.hid ho; have HM1 := Lib.hid hm; have HF1 := Lib.hid hf; clear y1; have y1 := (HBX.out.kept HM1.out id).cell 1; have f1 := (HBX.out.kept HM1.out id).free 1; simp only [List.getElem?_toArray, List.getElem?_cons_zero, List.getElem?_cons_succ] at y1; clear hr hk hn ho hm hf)
      clear y1
      try clear f1
      have hk1 := Kept.set1 wm1 bx 1 (.slice A1 p1 c1)
      have hb1 := (HBX.out.kept HM1.out id).set (i := 1) (.slice A1 p1 c1)
      simp [Array.setIfInBounds] at hb1
      have hx1 : Kept (fun k => k = bx) w6 (wm1.setCell ⟨bx, 1, none⟩ (.slice A1 p1 c1)) := (HM1.out.mono fun _ _ h => h.elim).trans hk1
      have hsz1 : w6.heap.size ≤ wm1.heap.size ∧ wm1.heap.size = (wm1.setCell ⟨bx, 1, none⟩ (.slice A1 p1 c1)).heap.size := ⟨HM1.out.size, size_set _ _ _⟩
      have HP1 := Lib.hid (HO1.out.kept hk1 fun k e e' => by have := HF1.out k e; have := HGX.out; omega)
      have HB1 := Lib.hid hb1
      have HX1 := Lib.hid hx1
      have HSZ1 := Lib.hid hsz1
      clear hb1 hx1 hsz1
      clear hk1 HO1 HW1 HS1 HFIN1
      generalize wm1.setCell ⟨bx, 1, none⟩ (.slice A1 p1 c1) = w8 at *
      have HN8 : Hid (New w w8) := Lib.hid (HN6.out.step HX1.out fun k hk e => by have := HBXE.out; have := HNR.out.size; omega)
      obtain ⟨xs2, hw2, hs2, hfin2⟩ := HC2.out w8 HN8.out
      have HW2 := Lib.hid hw2
      have HS2 := Lib.hid hs2
      have HFIN2 := Lib.hid hfin2
      clear hw2 hs2 hfin2
      have y4 := (HB1.out.alloc (.cells #[] 3)).cell 4
      simp only [List.getElem?_toArray, List.getElem?_cons_zero, List.getElem?_cons_succ] at y4
      go_upto_region 8 with (at_builtin; refine wpList_append_row tyInts rfl (.tmp 33) (.tmp 35) rfl rfl HW2.out rfl HS2.out (by unfold maxLen; omega) (by omega) ?_; intro r2 A2 c2 wm2 hr hk hn; obtain ⟨ho, hm, hf⟩ := HFIN2.out _ _ _ _ hr hk hn; rw [Nat.zero_add]; have HO2 := Lib.hid ho; have HM2 := Lib.hid hm; have HF2 := Lib.hid hf; clear y4; have y4 := (HB1.out.kept HM2.out id).cell 4; have f4 := (HB1.out.kept HM2.out id).free 4; simp only [List.getElem?_toArray, List.getElem?_cons_zero, List.getElem?_cons_succ] at y4; clear hr hk hn ho hm hf)
      clear y4
      try clear f4
      have hk2 := Kept.set1 wm2 bx 4 (.slice A2 p4 c2)
      have hb2 := (HB1.out.kept HM2.out id).set (i := 4) (.slice A2 p4 c2)
      simp [Array.setIfInBounds] at hb2
      have hx2 : Kept (fun k => k = bx) w8 (wm2.setCell ⟨bx, 4, none⟩ (.slice A2 p4 c2)) := (HM2.out.mono fun _ _ h => h.elim).trans hk2
      have hsz2 : w8.heap.size ≤ wm2.heap.size ∧ wm2.heap.size = (wm2.setCell ⟨bx, 4, none⟩ (.slice A2 p4 c2)).heap.size := ⟨HM2.out.size, size_set _ _ _⟩
      have HP2 := Lib.hid (HO2.out.kept hk2 fun k e e' => by have := HF2.out k e; have := HGX.out; have := HSZ1.out; omega)
      have HB2 := Lib.hid hb2
      have HX2 := Lib.hid hx2
      have HSZ2 := Lib.hid hsz2
      clear hb2 hx2 hsz2
      clear hk2 HO2 HW2 HS2 HFIN2
      generalize wm2.setCell ⟨bx, 4, none⟩ (.slice A2 p4 c2) = w10 at *
      have HP1b := Lib.hid (HP1.out.kept HX2.out fun k e e' => by have := HF1.out k e; have := HGX.out; omega)
      have HN10 : Hid (New w w10) := Lib.hid (HN8.out.step HX2.out fun k hk e => by have := HBXE.out; have := HNR.out.size; omega)
      clear HP1
      have hal11 : New w10 (w10.alloc (.cells #[] 23)) := (Kept.refl _ _).alloc _
      have HAL11 := Lib.hid hal11
      clear hal11
      go_upto_region 9 with (fail)
      generalize w10.alloc (.cells #[] 23) = w11 at *
      have HB11 := Lib.hid (HB2.out.kept HAL11.out id)
      have y5 := HB11.out.cell 5
      simp only [List.getElem?_toArray, List.getElem?_cons_zero, List.getElem?_cons_succ] at y5
      go_wp2_with fail
      go_loopw [6, 7] (fun q t wr => ∃ (k : Nat) (Aq : Option Addr) (cq : Nat), k ≤ p7 ∧ q = .slice Aq k cq ∧ t = .int .i64 k ∧ OSl intO.slice wr (fun j => w11.heap.size ≤ j ∧ j < wr.heap.size) Aq k cq (x.queues.take k) ∧ New w11 wr) (fun _ t _ => (p7 - intOf t).toNat)
      case atStart => exact ⟨0, _, 0, Nat.zero_le _, rfl, rfl, OSl.nil_at _, Kept.refl _ _⟩
      case round =>
        obtain ⟨k, Aq, cq, hk, rfl, rfl, hq, hkq⟩ := hrel
        have hbq := HB11.out.kept hkq id
        have y5 := hbq.cell 5
        have f5 := hbq.free 5
        simp only [List.getElem?_toArray, List.getElem?_cons_zero, List.getElem?_cons_succ] at y5
        have hqb := hq.bound
        have hnq : New w wr := HN10.out.trans (HAL11.out.trans hkq)
        by_cases hlk : k < p7
        · have hkL : k < x.queues.length := by have := HQL.out; omega
          obtain ⟨g2, o2, cs2, rfl, hcl2, hc2⟩ := HQ.out k hkL
          obtain ⟨Av, nv, cv, rfl, hsv⟩ := (hc2 w (Kept.refl _ _)).2
          have u0 := (hc2 wr hnq).1 0 (by decide)
          rw [show o2 + k * (Rep.int .i64).slice.size + 0 = o2 + k from by show o2 + k * 1 + 0 = _; omega] at u0
          simp only [List.getElem?_toArray, List.getElem?_cons_zero, List.getElem?_cons_succ] at u0
          have hqa : New wr (wr.alloc (.cells #[] 3)) := (Kept.refl _ _).alloc _
          have u1 := (hqa.cell (p := ⟨g2, o2 + k, none⟩) (lt_of_cell u0).1 id).trans u0
          have y6 := (hqa.cell (p := ⟨bx, 5, none⟩) (lt_of_cell y5).1 id).trans y5
          clear hqa
          have hin := HI4.out _ (List.getElem_mem hkL)
          have HTQ := Lib.hid (List.take_succ_eq_append_getElem hkL)
          generalize x.queues[k] = qk at *
          have m4 : nv ≤ 1048576 := by have := hsv.len; omega
          have k4 := hsv.bound
          have e4 : (0 : Int) ≤ (k : Int) := by omega
          have e5 : (k : Int) < (p7 : Int) := by omega
          have HC3 := Lib.hid fun W (hW : New w W) => clone_step (R := (Rep.int .i64)) (O := intO) (P := Try.prog) (f := (fun x => [Value.int .i64 x])) Try.underlying23 oneInts (fun h => h.1) rfl (fun _ => rfl) (fun _ h => ⟨rfl, h.2⟩) hsv hB' hW 3
          obtain ⟨xs3, hw3, hs3, hfin3⟩ := HC3.out wr hnq
          have HW3 := Lib.hid hw3
          have HS3 := Lib.hid hs3
          have HFIN3 := Lib.hid hfin3
          have HQ' := Lib.hid hq
          have HKQ := Lib.hid hkq
          have HNQ := Lib.hid hnq
          have HBQ := Lib.hid hbq
          clear hw3 hs3 hfin3 hq hkq hnq hbq
          clear hsv hc2 hcl2 hin hkL
          have HQ2 := HQ'
          go_wp2_with (first | (at_builtin; refine wpList_append_row tyInts rfl (.tmp 47) (.tmp 52) rfl rfl HW3.out rfl HS3.out (by unfold maxLen; omega) (by omega) ?_; intro r3 A3 c3 wm3 hr hk hn; obtain ⟨ho, hm, hf⟩ := HFIN3.out _ _ _ _ hr hk hn; rw [Nat.zero_add]; have HO3 := Lib.hid ho; have HM3 := Lib.hid hm; have HF3 := Lib.hid hf; obtain ⟨rq, xq, hrq, hfq, hpush⟩ := (HQ2.out.new hm).rows; have HRQ := Lib.hid hrq; have HFQ := Lib.hid hfq; have HPU := Lib.hid (fun wz rz Az cz xz csz Fz Fy => @hpush wz rz Az cz xz csz Fz Fy); clear hrq hfq hpush; clear hr hk hn ho hm hf) | (at_builtin; refine wpList_append_one (cs := [.slice A3 nv c3]) tyQus rfl (.tmp 46) (.tmp 54) rfl rfl HRQ.out rfl rfl rfl (by simp [Value.oneCell']) (by unfold maxLen; omega) (by omega) ?_; intro r4 A4 c4 w13 hr4 hk4 hn4; have HR4 := Lib.hid hr4; have HK4 := Lib.hid hk4; have HN4 := Lib.hid hn4; clear hr4 hk4 hn4))
          go_roundw
          case rel =>
            have s1 := HM3.out.size
            have s2 := HKQ.out.size
            have s3 := HRQ.out.lt (by decide)
            have s4 := HK4.out.size
            refine ⟨k + 1, A4, c4, by omega, rfl, by go_num, ?_, (HKQ.out.trans HM3.out).step HK4.out fun j hj e => by have := HFQ.out j e; omega⟩
            rw [HTQ.out]
            refine HPU.out _ _ _ _ _ _ (fun j => r3 = some j) _ HR4.out HK4.out HN4.out (fun j e => by omega) ⟨A3, nv, c3, rfl, HO3.out⟩ (fun j e => ?_) (fun j e => ⟨e.1, by omega⟩) (fun j e => ?_) (fun j e => ?_)
            · have := HF3.out j e; exact ⟨fun e' => by omega, by omega⟩
            · have := HF3.out j e; exact ⟨by omega, by omega⟩
            · have := HR4.out.lt (by decide) j e
              rcases HN4.out j e with h | h
              · have := HFQ.out j h; exact ⟨by omega, by omega⟩
              · exact ⟨by omega, by omega⟩
          case measure => simp [intOf]; omega
        · obtain rfl : p7 = k := by omega
          have HQF : Hid (OSl intO.slice wr (fun j => w11.heap.size ≤ j ∧ j < wr.heap.size) Aq p7 cq x.queues) := Lib.hid (by
            have h := hq
            rw [List.take_of_length_le (by have := HQL.out; omega)] at h
            exact h)
          have hkS := Kept.set1 wr bx 5 (.slice Aq p7 cq)
          have hbS := hbq.set (i := 5) (.slice Aq p7 cq)
          simp [Array.setIfInBounds] at hbS
          have HXS : Hid (Kept (fun k => k = bx) w10 (wr.setCell ⟨bx, 5, none⟩ (.slice Aq p7 cq))) := Lib.hid (((HAL11.out.trans hkq).mono fun _ _ h => h.elim).trans hkS)
          have s1 := HGX.out
          have s2 := HSZ1.out
          have s3 := HSZ2.out
          have s4 := HAL11.out.size
          have s5 := hkq.size
          have s6 := hkS.size
          have HP1c := Lib.hid (HP1b.out.kept HXS.out fun k e e' => by have := HF1.out k e; omega)
          have HP2c := Lib.hid (HP2.out.kept HXS.out fun k e e' => by have := HF2.out k e; omega)
          have HQFc := Lib.hid (HQF.out.kept hkS fun k e e' => by omega)
          have HNE : Hid (New wo (wr.setCell ⟨bx, 5, none⟩ (.slice Aq p7 cq))) := Lib.hid (((HAL.out.step (HX1.out.trans HX2.out) fun k hk e => by have := HBXE.out; omega)).step HXS.out fun k hk e => by have := HBXE.out; omega)
          have HSE := Lib.hid (show w6.heap.size ≤ wm1.heap.size ∧ wm1.heap.size ≤ w8.heap.size ∧ w8.heap.size ≤ wm2.heap.size ∧ wm2.heap.size ≤ w10.heap.size ∧ w10.heap.size ≤ w11.heap.size ∧ wr.heap.size ≤ (wr.setCell ⟨bx, 5, none⟩ (.slice Aq p7 cq)).heap.size from ⟨by omega, by omega, by omega, by omega, by omega, by omega⟩)
          have HS5 := Lib.hid s5
          have HBS := Lib.hid hbS
          clear hbS
          clear hkS hq hkq hnq hbq s1 s2 s3 s4 s5 s6 HP1b HP2
          go_upto_region 14 with (fail)
          generalize wr.setCell ⟨bx, 5, none⟩ (.slice Aq p7 cq) = wS at *
          clear y5 f5
          have s1 := HGX.out
          have s2 := HSE.out
          have s3 := HS5.out
          have s4 := HBXE.out
          have hown : partO.own wS (fun j => bx < j ∧ j < wS.heap.size) x [.int .i64 x.cursor, .slice A1 p1 c1, .int .i64 x.lost, .int .i64 x.forbidden, .slice A2 p4 c2, .slice Aq p7 cq] := ⟨A1, p1, c1, A2, p4, c2, Aq, p7, cq, _, _, _, rfl, HP1c.out, HP2c.out, HQFc.out, fun j e => ⟨⟨by have := HF1.out j e; omega, by have := HF1.out j e; omega⟩, fun e' => by have := HF1.out j e; have := HF2.out j e'; omega, fun e' => by have := HF1.out j e; omega⟩, fun j e => ⟨⟨by have := HF2.out j e; omega, by have := HF2.out j e; omega⟩, fun e' => by have := HF2.out j e; omega⟩, fun j e => ⟨by omega, by omega⟩⟩
          have y0 := HBS.out.cell 0
          have y1 := HBS.out.cell 1
          have y2 := HBS.out.cell 2
          have y3 := HBS.out.cell 3
          have y4 := HBS.out.cell 4
          have y5 := HBS.out.cell 5
          have hboS := HBO.out.kept HNE.out id
          have t0 := hboS.cell 1
          have tf := hboS.free 1
          simp only [List.getElem?_toArray, List.getElem?_cons_zero, List.getElem?_cons_succ] at t0 y0 y1 y2 y3 y4 y5
          obtain ⟨ro, xo, hro, hfo, hpo⟩ := (HOUT.out.new HNE.out).rows
          have HPO := Lib.hid (fun wz rz Az cz xz csz Fz Fy => @hpo wz rz Az cz xz csz Fz Fy)
          have HXT : Hid (∀ W, Kept (fun k => ro = some k) wS W → W.cell? ⟨b + 2, 1, none⟩ = some (.slice A i cc) ∧ W.frozen? ⟨b + 2, 1, none⟩ = false ∧ Blk W (b + 2) 30 #[.int .i64 s.tick, .slice A i cc, .slice none 0 0]) := Lib.hid fun W hW => by
            have h := hboS.kept hW (fun e => by have := hfo _ e; have := HBW.out; omega)
            exact ⟨h.cell 1, h.free 1, h⟩
          have HKE := Lib.hid (HKR.out.trans (HNE.out.mono fun _ _ h => h.elim))
          have HRO := Lib.hid hro
          have HFO := Lib.hid hfo
          have HOWN := Lib.hid hown
          clear hro hfo hown
          clear hboS hpo s1 s2 s3 s4
          go_wp2_with (at_builtin; refine wpList_append_one (cs := [.int .i64 x.cursor, .slice A1 p1 c1, .int .i64 x.lost, .int .i64 x.forbidden, .slice A2 p4 c2, .slice Aq p7 cq]) tyParts rfl (.tmp 59) (.tmp 61) rfl rfl HRO.out rfl rfl rfl (by simp [Value.oneCell']) (by unfold maxLen; omega) (by omega) ?_; intro r5 A5 c5 w9 hr5 hk5 hn5; obtain ⟨t0, tf, hb9⟩ := HXT.out w9 hk5; have HR5 := Lib.hid hr5; have HK5 := Lib.hid hk5; have HN5 := Lib.hid hn5; have HB9 := Lib.hid hb9; clear hr5 hk5 hn5 hb9)
          go_roundw
          case rel =>
            have s1 := HGX.out
            have s2 := HSE.out
            have s3 := HS5.out
            have s4 := HBXE.out
            have s5 := HK5.out.size
            have s6 := HKR.out.size
            have s7 := HBW.out
            have hb9 := HB9.out.set (i := 1) (.slice A5 (i + 1) c5)
            simp [Array.setIfInBounds] at hb9
            have hz := size_set w9 ⟨b + 2, 1, none⟩ (.slice A5 (i + 1) c5)
            refine ⟨i + 1, A5, c5, by omega, by go_num, ?_, hb9, (HKE.out.step HK5.out fun k hk e => by have := HFO.out k e; omega).setCell (p := ⟨b + 2, 1, none⟩) (.inr rfl) (.slice A5 (i + 1) c5)⟩
            rw [HTK.out]
            refine (HPO.out _ _ _ _ _ _ _ (fun k => w1.heap.size ≤ k ∧ k < w9.heap.size) HR5.out HK5.out HN5.out (fun j e => by omega) HOWN.out (fun j e => ⟨fun e' => by omega, by omega⟩) (fun j e => ⟨e.1, by omega⟩) (fun j e => ⟨by omega, by omega⟩) (fun j e => ?_)).kept (Kept.set1 w9 (b + 2) 1 _) (fun j e e' => by omega) |>.mono fun j e => ⟨e.1, Nat.lt_of_lt_of_eq e.2 hz⟩
            have := HR5.out.lt (by decide) j e
            rcases HN5.out j e with h | h
            · have := HFO.out j h; exact ⟨by omega, by omega⟩
            · exact ⟨by omega, by omega⟩
          case measure => simp [intOf]; omega
    · obtain rfl : na = i := by omega
      obtain ⟨wd, hwd⟩ : ∃ wd, wd = wo := ⟨_, rfl⟩
      subst hwd
      obtain ⟨A1, hA1⟩ : ∃ A1, A1 = A := ⟨_, rfl⟩
      subst hA1
      obtain ⟨c1, hc1⟩ : ∃ c1, c1 = cc := ⟨_, rfl⟩
      subst hc1
      have hb2d := B2.out.kept hkr (fun e => by omega)
      have HGD : Hid (w1.heap.size ≤ wd.heap.size) := Lib.hid hkr.size
      have HPARTS : Hid (OSl partO wd (fun k => w1.heap.size ≤ k ∧ k < wd.heap.size) A1 na c1 s.parts) := Lib.hid (by
        have h := hout
        rw [List.take_of_length_le (by have := HNA.out; omega)] at h
        exact h)
      have hk1 := hout.bound
      have HND := Lib.hid hnr
      have B1D := Lib.hid hb1
      have B2D := Lib.hid hb2d
      have B3D := Lib.hid hbo
      clear hnr hb1 hb2d hbo
      clear hkr hout
      go_wp2_with fail
      go_loopw [8] (fun t wr => ∃ (i : Nat) (A : Option Addr) (cc : Nat), i ≤ nb ∧ t = .int .i64 i ∧ OSl procO wr (fun k => wd.heap.size ≤ k ∧ k < wr.heap.size) A i cc (s.procs.take i) ∧ Blk wr (b + 2) 30 #[.int .i64 s.tick, .slice A1 na c1, .slice A i cc] ∧ Kept (fun k => k = b + 2) wd wr) (fun t _ => (nb - intOf t).toNat)
      case atStart => exact ⟨0, none, 0, Nat.zero_le _, rfl, OSl.nil, B3D.out, Kept.refl _ _⟩
      case round =>
        obtain ⟨i, A, cc, hi, rfl, hout, hbo, hkr⟩ := hrel
        obtain ⟨wo, hwo⟩ : ∃ wo, wo = wr := ⟨_, rfl⟩
        subst hwo
        have hg0 := HBW.out
        have hg1 := HGD.out
        have hnr : New w wo := HND.out.step hkr fun k hk e => by have := HBE.out; omega
        have hb1 := B1D.out.kept hkr (fun e => by omega)
        have z1 := hb1.cell 1
        have z2 := hb1.cell 2
        simp only [List.getElem?_toArray, List.getElem?_cons_zero, List.getElem?_cons_succ] at z1 z2
        by_cases hlt : i < nb
        · have hiL : i < s.procs.length := by have := HNB.out; omega
          obtain ⟨g, o, cs, rfl, hcl, hc⟩ := RB.out i hiL
          obtain ⟨p0, p1, p2, rfl, hln⟩ := (hc w (Kept.refl _ _)).2
          have hxc : ∀ W, New w W → W.cell? ⟨g, o + i * 15, none⟩ = some (.int .i64 s.procs[i].state) ∧ W.cell? ⟨g, o + i * 15 + 1, none⟩ = some (.int .i64 s.procs[i].pc) ∧ W.cell? ⟨g, o + i * 15 + 2, none⟩ = some (.int .i64 s.procs[i].r0) ∧ W.cell? ⟨g, o + i * 15 + 3, none⟩ = some (.int .i64 s.procs[i].r1) ∧ W.cell? ⟨g, o + i * 15 + 4, none⟩ = some (.int .i64 s.procs[i].r2) ∧ W.cell? ⟨g, o + i * 15 + 5, none⟩ = some (.int .i64 s.procs[i].r3) ∧ W.cell? ⟨g, o + i * 15 + 6, none⟩ = some (.int .i64 s.procs[i].r4) ∧ W.cell? ⟨g, o + i * 15 + 7, none⟩ = some (.int .i64 s.procs[i].r5) ∧ W.cell? ⟨g, o + i * 15 + 8, none⟩ = some (.int .i64 s.procs[i].r6) ∧ W.cell? ⟨g, o + i * 15 + 9, none⟩ = some (.int .i64 s.procs[i].r7) ∧ W.cell? ⟨g, o + i * 15 + 10, none⟩ = some (.int .i64 s.procs[i].cursor) ∧ W.cell? ⟨g, o + i * 15 + 11, none⟩ = some (.int .i64 s.procs[i].timer) ∧ W.cell? ⟨g, o + i * 15 + 12, none⟩ = some (.bool s.procs[i].fired) ∧ W.cell? ⟨g, o + i * 15 + 13, none⟩ = some (.int .i64 s.procs[i].wake) ∧ W.cell? ⟨g, o + i * 15 + 14, none⟩ = some (.slice p0 p1 p2) := fun W hW => by
            have h := (hc W hW).1
            change ∀ j', j' < 15 → W.cell? ⟨g, o + i * 15 + j', none⟩ = _ at h
            exact ⟨h 0 (by decide), h 1 (by decide), h 2 (by decide), h 3 (by decide), h 4 (by decide), h 5 (by decide), h 6 (by decide), h 7 (by decide), h 8 (by decide), h 9 (by decide), h 10 (by decide), h 11 (by decide), h 12 (by decide), h 13 (by decide), h 14 (by decide)⟩
          obtain ⟨x0, x1, x2, x3, x4, x5, x6, x7, x8, x9, x10, x11, x12, x13, x14⟩ := hxc wo hnr
          clear hxc hc hcl
          have hin := HF.out.lanes _ (List.getElem_mem hiL)
          have HTK := Lib.hid (List.take_succ_eq_append_getElem hiL)
          generalize s.procs[i] = x at *
          have e2 : (0 : Int) ≤ (i : Int) := by omega
          have e3 : (i : Int) < (nb : Int) := by omega
          obtain ⟨hi1, hi2⟩ := hin
          have m3 : p1 ≤ 1048576 := by have := hln.len; omega
          have k3 := hln.bound
          have HQ := Lib.hid (sl_here hln hB')
          have HQL := Lib.hid hln.len
          have HI4 := Lib.hid hi2
          clear hi1 hi2 hln
          have hal : New wo (wo.alloc (.cells #[.int .i64 x.state, .int .i64 x.pc, .int .i64 x.r0, .int .i64 x.r1, .int .i64 x.r2, .int .i64 x.r3, .int .i64 x.r4, .int .i64 x.r5, .int .i64 x.r6, .int .i64 x.r7, .int .i64 x.cursor, .int .i64 x.timer, .bool x.fired, .int .i64 x.wake, .slice p0 p1 p2] 49)) := (Kept.refl _ _).alloc _
          have hbx := Blk.made wo 49 #[.int .i64 x.state, .int .i64 x.pc, .int .i64 x.r0, .int .i64 x.r1, .int .i64 x.r2, .int .i64 x.r3, .int .i64 x.r4, .int .i64 x.r5, .int .i64 x.r6, .int .i64 x.r7, .int .i64 x.cursor, .int .i64 x.timer, .bool x.fired, .int .i64 x.wake, .slice p0 p1 p2]
          have hob := hout.bound
          have HKR := Lib.hid hkr
          have HOUT := Lib.hid hout
          have HBO := Lib.hid hbo
          have HNR := Lib.hid hnr
          have HAL := Lib.hid hal
          have HBX := Lib.hid hbx
          have HB1R := Lib.hid hb1
          clear hkr hout hbo hnr hal hbx hb1
          clear hiL
          go_upto_region 19 with (fail)
          generalize wo.alloc (.cells #[.int .i64 x.state, .int .i64 x.pc, .int .i64 x.r0, .int .i64 x.r1, .int .i64 x.r2, .int .i64 x.r3, .int .i64 x.r4, .int .i64 x.r5, .int .i64 x.r6, .int .i64 x.r7, .int .i64 x.cursor, .int .i64 x.timer, .bool x.fired, .int .i64 x.wake, .slice p0 p1 p2] 49) = w6 at *
          clear x0 x1 x2 x3 x4 x5 x6 x7 x8 x9 x10 x11 x12 x13 x14
          have HSZ6 : Hid (wo.heap.size < w6.heap.size) := Lib.hid HBX.out.lt
          have HOX : Hid (b + 2 < wo.heap.size) := Lib.hid HBO.out.lt
          generalize hbxe : wo.heap.size = bx at *
          have HBXE : Hid (wo.heap.size = bx) := Lib.hid hbxe
          have HGX : Hid (bx < w6.heap.size ∧ b + 2 < bx) := Lib.hid ⟨HSZ6.out, HOX.out⟩
          have HN6 : Hid (New w w6) := Lib.hid (HNR.out.trans HAL.out)
          clear hbxe
          have hal7 : New w6 (w6.alloc (.cells #[] 53)) := (Kept.refl _ _).alloc _
          have HAL7 := Lib.hid hal7
          clear hal7
          go_upto_region 20 with (fail)
          generalize w6.alloc (.cells #[] 53) = w7 at *
          have HB7 := Lib.hid (HBX.out.kept HAL7.out id)
          have y14 := HB7.out.cell 14
          simp only [List.getElem?_toArray, List.getElem?_cons_zero, List.getElem?_cons_succ] at y14
          go_wp2_with fail
          go_loopw [10, 11] (fun q t wr => ∃ (k : Nat) (Aq : Option Addr) (cq : Nat), k ≤ p1 ∧ q = .slice Aq k cq ∧ t = .int .i64 k ∧ OSl laneO wr (fun j => w7.heap.size ≤ j ∧ j < wr.heap.size) Aq k cq (x.lanes.take k) ∧ New w7 wr) (fun _ t _ => (p1 - intOf t).toNat)
          case atStart => exact ⟨0, _, 0, Nat.zero_le _, rfl, rfl, OSl.nil_at _, Kept.refl _ _⟩
          case round =>
            obtain ⟨k, Aq, cq, hk, rfl, rfl, hq, hkq⟩ := hrel
            have hbq := HB7.out.kept hkq id
            have y14 := hbq.cell 14
            have f14 := hbq.free 14
            simp only [List.getElem?_toArray, List.getElem?_cons_zero, List.getElem?_cons_succ] at y14
            have hqb := hq.bound
            have hnq : New w wr := HN6.out.trans (HAL7.out.trans hkq)
            by_cases hlk : k < p1
            · have hkL : k < x.lanes.length := by have := HQL.out; omega
              obtain ⟨g2, o2, cs2, rfl, hcl2, hc2⟩ := HQ.out k hkL
              obtain ⟨Av, nv, cv, Aw, nw, cw, rfl, hsv, hsw, hwf1, hwf2⟩ := (hc2 w (Kept.refl _ _)).2
              have hu := (hc2 wr hnq).1
              change ∀ j', j' < 4 → wr.cell? ⟨g2, o2 + k * 4 + j', none⟩ = _ at hu
              have u0 := hu 0 (by decide)
              have u1 := hu 1 (by decide)
              have u2 := hu 2 (by decide)
              have u3 := hu 3 (by decide)
              simp only [Nat.add_zero, List.getElem?_toArray, List.getElem?_cons_zero, List.getElem?_cons_succ] at u0 u1 u2 u3
              have hin := HI4.out _ (List.getElem_mem hkL)
              have HTQ := Lib.hid (List.take_succ_eq_append_getElem hkL)
              clear hu hc2 hcl2
              generalize x.lanes[k] = qk at *
              obtain ⟨hin1, hin2⟩ := hin
              have m4 : nv ≤ 1048576 := by have := hsv.len; omega
              have m5 : nw ≤ 1048576 := by have := hsw.len; omega
              have k4 := hsv.bound
              have k5 := hsw.bound
              have e4 : (0 : Int) ≤ (k : Int) := by omega
              have e5 : (k : Int) < (p1 : Int) := by omega
              have HC3 := Lib.hid fun W (hW : New w W) => clone_step (R := (Rep.int .i64)) (O := intO) (P := Try.prog) (f := (fun x => [Value.int .i64 x])) Try.underlying50 oneVals (fun h => h.1) rfl (fun _ => rfl) (fun _ h => ⟨rfl, h.2⟩) hsv hB' hW 2
              have HC4 := Lib.hid fun W (hW : New w W) => clone_step (R := repWaiter) (O := waiO) (P := Try.prog) (f := waiC) Try.underlying51 oneWaits (fun h => h.1) rfl (fun _ => rfl) (fun _ h => ⟨rfl, h.2⟩) hsw hB' hW 55
              have hal2 : New wr (wr.alloc (.cells #[.slice Av nv cv, .slice Aw nw cw, .int .i64 qk.taken, .int .i64 qk.dropped] 53)) := (Kept.refl _ _).alloc _
              have hby := Blk.made wr 53 #[.slice Av nv cv, .slice Aw nw cw, .int .i64 qk.taken, .int .i64 qk.dropped]
              have HAL2 := Lib.hid hal2
              have HBY := Lib.hid hby
              have HQ2 := Lib.hid hq
              have HKQ := Lib.hid hkq
              have HNQ := Lib.hid hnq
              have HBQ := Lib.hid hbq
              have HWF1 := Lib.hid hwf1
              have HWF2 := Lib.hid hwf2
              clear hal2 hby hq hkq hnq hbq hwf1 hwf2
              clear hsv hsw hin1 hin2 hkL
              go_upto_region 24 with (fail)
              generalize wr.alloc (.cells #[.slice Av nv cv, .slice Aw nw cw, .int .i64 qk.taken, .int .i64 qk.dropped] 53) = w15 at *
              clear u0 u1 u2 u3
              have HY := Lib.hid HBY.out.lt
              generalize hbze : wr.heap.size = bz at *
              have HBZE : Hid (wr.heap.size = bz) := Lib.hid hbze
              have HGY : Hid (bz < w15.heap.size) := Lib.hid HY.out
              have HN15 : Hid (New w w15) := Lib.hid (HNQ.out.trans HAL2.out)
              clear hbze
              obtain ⟨xs3, hw3, hs3, hfin3⟩ := HC3.out w15 HN15.out
              have HW3 := Lib.hid hw3
              have HS3 := Lib.hid hs3
              have HFIN3 := Lib.hid hfin3
              clear hw3 hs3 hfin3
              have y0 := (HBY.out.alloc (.cells #[] 2)).cell 0
              simp only [List.getElem?_toArray, List.getElem?_cons_zero, List.getElem?_cons_succ] at y0
              go_upto_region 25 with (at_builtin; refine wpList_append_row tyVals rfl (.tmp 89) (.tmp 91) rfl rfl HW3.out rfl HS3.out (by unfold maxLen; omega) (by omega) ?_; intro r3 A3 c3 wm3 hr hk hn; obtain ⟨ho, hm, hf⟩ := HFIN3.out _ _ _ _ hr hk hn; rw [Nat.zero_add]; have HO3 := Lib.hid ho; have HM3 := Lib.hid hm; have HF3 := Lib.hid hf; clear y0; have y0 := (HBY.out.kept HM3.out id).cell 0; have f0 := (HBY.out.kept HM3.out id).free 0; simp only [List.getElem?_toArray, List.getElem?_cons_zero, List.getElem?_cons_succ] at y0; clear hr hk hn ho hm hf)
              clear y0
              try clear f0
              have hk3 := Kept.set1 wm3 bz 0 (.slice A3 nv c3)
              have hb3 := (HBY.out.kept HM3.out id).set (i := 0) (.slice A3 nv c3)
              simp [Array.setIfInBounds] at hb3
              have hx3 : Kept (fun k => k = bz) w15 (wm3.setCell ⟨bz, 0, none⟩ (.slice A3 nv c3)) := (HM3.out.mono fun _ _ h => h.elim).trans hk3
              have hsz3 : w15.heap.size ≤ wm3.heap.size ∧ wm3.heap.size = (wm3.setCell ⟨bz, 0, none⟩ (.slice A3 nv c3)).heap.size := ⟨HM3.out.size, size_set _ _ _⟩
              have HP3 := Lib.hid (HO3.out.kept hk3 fun k e e' => by have := HF3.out k e; have := HGY.out; omega)
              have HB3 := Lib.hid hb3
              have HX3 := Lib.hid hx3
              have HSZ3 := Lib.hid hsz3
              clear hb3 hx3 hsz3
              clear hk3 HO3 HW3 HS3 HFIN3
              generalize wm3.setCell ⟨bz, 0, none⟩ (.slice A3 nv c3) = w17 at *
              have HN17 : Hid (New w w17) := Lib.hid (HN15.out.step HX3.out fun k hk e => by have := HBZE.out; have := HNQ.out.size; omega)
              obtain ⟨xs4, hw4, hs4, hfin4⟩ := HC4.out w17 HN17.out
              have HW4 := Lib.hid hw4
              have HS4 := Lib.hid hs4
              have HFIN4 := Lib.hid hfin4
              clear hw4 hs4 hfin4
              have y1 := (HB3.out.alloc (.cells #[] 55)).cell 1
              simp only [List.getElem?_toArray, List.getElem?_cons_zero, List.getElem?_cons_succ] at y1
              go_upto_region 26 with (at_builtin; refine wpList_append_row tyWaits rfl (.tmp 94) (.tmp 96) rfl rfl HW4.out rfl HS4.out (by unfold maxLen; omega) (by omega) ?_; intro r4 A4 c4 wm4 hr hk hn; obtain ⟨ho, hm, hf⟩ := HFIN4.out _ _ _ _ hr hk hn; rw [Nat.zero_add]; have HO4 := Lib.hid ho; have HM4 := Lib.hid hm; have HF4 := Lib.hid hf; clear y1; have y1 := (HB3.out.kept HM4.out id).cell 1; have f1 := (HB3.out.kept HM4.out id).free 1; simp only [List.getElem?_toArray, List.getElem?_cons_zero, List.getElem?_cons_succ] at y1; clear hr hk hn ho hm hf)
              clear y1
              try clear f1
              have hk4 := Kept.set1 wm4 bz 1 (.slice A4 nw c4)
              have hb4 := (HB3.out.kept HM4.out id).set (i := 1) (.slice A4 nw c4)
              simp [Array.setIfInBounds] at hb4
              have hx4 : Kept (fun k => k = bz) w17 (wm4.setCell ⟨bz, 1, none⟩ (.slice A4 nw c4)) := (HM4.out.mono fun _ _ h => h.elim).trans hk4
              have hsz4 : w17.heap.size ≤ wm4.heap.size ∧ wm4.heap.size = (wm4.setCell ⟨bz, 1, none⟩ (.slice A4 nw c4)).heap.size := ⟨HM4.out.size, size_set _ _ _⟩
              have HP4 := Lib.hid (HO4.out.kept hk4 fun k e e' => by have := HF4.out k e; have := HGY.out; have := HSZ3.out; omega)
              have HB4 := Lib.hid hb4
              have HX4 := Lib.hid hx4
              have HSZ4 := Lib.hid hsz4
              clear hb4 hx4 hsz4
              clear hk4 HO4 HW4 HS4 HFIN4
              generalize wm4.setCell ⟨bz, 1, none⟩ (.slice A4 nw c4) = w19 at *
              have HP3b := Lib.hid (HP3.out.kept HX4.out fun k e e' => by have := HF3.out k e; have := HGY.out; omega)
              have HN19 : Hid (New wr w19) := Lib.hid (HAL2.out.step (HX3.out.trans HX4.out) fun k hk e => by have := HBZE.out; omega)
              have s1 := HGY.out
              have s2 := HSZ3.out
              have s3 := HSZ4.out
              have s4 := HBZE.out
              have hown : laneO.own w19 (fun j => bz ≤ j ∧ j < w19.heap.size) qk [.slice A3 nv c3, .slice A4 nw c4, .int .i64 qk.taken, .int .i64 qk.dropped] := ⟨A3, nv, c3, A4, nw, c4, _, _, rfl, HP3b.out, HP4.out, HWF1.out, HWF2.out, fun j e => ⟨⟨by have := HF3.out j e; omega, by have := HF3.out j e; omega⟩, fun e' => by have := HF3.out j e; have := HF4.out j e'; omega⟩, fun j e => ⟨by have := HF4.out j e; omega, by have := HF4.out j e; omega⟩⟩
              have u0 := HB4.out.cell 0
              have u1 := HB4.out.cell 1
              have u2 := HB4.out.cell 2
              have u3 := HB4.out.cell 3
              simp only [List.getElem?_toArray, List.getElem?_cons_zero, List.getElem?_cons_succ] at u0 u1 u2 u3
              obtain ⟨rq, xq, hrq, hfq, hpush⟩ := (HQ2.out.new HN19.out).rows
              have HPU := Lib.hid (fun wz rz Az cz xz csz Fz Fy => @hpush wz rz Az cz xz csz Fz Fy)
              have HSL : Hid (bz < w19.heap.size) := Lib.hid (by omega)
              have HRQ := Lib.hid hrq
              have HFQ := Lib.hid hfq
              have HLOWN := Lib.hid hown
              clear hrq hfq hown
              clear hpush s1 s2 s3 s4 y14 f14
              go_wp2_with (at_builtin; refine wpList_append_one (cs := [.slice A3 nv c3, .slice A4 nw c4, .int .i64 qk.taken, .int .i64 qk.dropped]) tyLanes rfl (.tmp 99) (.tmp 101) rfl rfl HRQ.out rfl rfl rfl (by simp [Value.oneCell']) (by unfold maxLen; omega) (by omega) ?_; intro r4 A9 c9 w13 hr4 hk4 hn4; have HR4 := Lib.hid hr4; have HK4 := Lib.hid hk4; have HN4 := Lib.hid hn4; clear hr4 hk4 hn4)
              go_roundw
              case rel =>
                have s0 := HKQ.out.size
                have s1 := HBZE.out
                have s2 := HSL.out
                have s3 := HRQ.out.lt (by decide)
                have s4 := HK4.out.size
                refine ⟨k + 1, A9, c9, by omega, rfl, by go_num, ?_, (HKQ.out.trans HN19.out).step HK4.out fun j hj e => by have := HFQ.out j e; omega⟩
                rw [HTQ.out]
                refine HPU.out _ _ _ _ _ _ _ _ HR4.out HK4.out HN4.out (fun j e => by omega) HLOWN.out (fun j e => ⟨fun e' => by omega, e.2⟩) (fun j e => ⟨e.1, by omega⟩) (fun j e => ⟨by omega, by omega⟩) (fun j e => ?_)
                have := HR4.out.lt (by decide) j e
                rcases HN4.out j e with h | h
                · have := HFQ.out j h; exact ⟨by omega, by omega⟩
                · exact ⟨by omega, by omega⟩
              case measure => simp [intOf]; omega
            · obtain rfl : p1 = k := by omega
              have HQF : Hid (OSl laneO wr (fun j => w7.heap.size ≤ j ∧ j < wr.heap.size) Aq p1 cq x.lanes) := Lib.hid (by
                have h := hq
                rw [List.take_of_length_le (by have := HQL.out; omega)] at h
                exact h)
              have hkS := Kept.set1 wr bx 14 (.slice Aq p1 cq)
              have hbS := hbq.set (i := 14) (.slice Aq p1 cq)
              simp [Array.setIfInBounds] at hbS
              have s1 := HGX.out
              have s4 := HAL7.out.size
              have s5 := hkq.size
              have s6 := hkS.size
              have HQFc := Lib.hid (HQF.out.kept hkS fun k e e' => by omega)
              have HNE : Hid (New wo (wr.setCell ⟨bx, 14, none⟩ (.slice Aq p1 cq))) := Lib.hid ((HAL.out.trans (HAL7.out.trans hkq)).step hkS fun k hk e => by have := HBXE.out; omega)
              have HSE := Lib.hid (show w6.heap.size ≤ w7.heap.size ∧ wr.heap.size ≤ (wr.setCell ⟨bx, 14, none⟩ (.slice Aq p1 cq)).heap.size from ⟨by omega, by omega⟩)
              have HS5 := Lib.hid s5
              have HBS := Lib.hid hbS
              clear hbS
              clear hkS hq hkq hnq hbq s1 s4 s5 s6
              go_upto_region 28 with (fail)
              generalize wr.setCell ⟨bx, 14, none⟩ (.slice Aq p1 cq) = wS at *
              clear y14 f14
              have s1 := HGX.out
              have s2 := HSE.out
              have s3 := HS5.out
              have s4 := HBXE.out
              have hown : procO.own wS (fun j => bx < j ∧ j < wS.heap.size) x [.int .i64 x.state, .int .i64 x.pc, .int .i64 x.r0, .int .i64 x.r1, .int .i64 x.r2, .int .i64 x.r3, .int .i64 x.r4, .int .i64 x.r5, .int .i64 x.r6, .int .i64 x.r7, .int .i64 x.cursor, .int .i64 x.timer, .bool x.fired, .int .i64 x.wake, .slice Aq p1 cq] := ⟨Aq, p1, cq, rfl, HQFc.out.mono fun j e => ⟨by omega, by omega⟩⟩
              have y0 := HBS.out.cell 0
              have y1 := HBS.out.cell 1
              have y2 := HBS.out.cell 2
              have y3 := HBS.out.cell 3
              have y4 := HBS.out.cell 4
              have y5 := HBS.out.cell 5
              have y6 := HBS.out.cell 6
              have y7 := HBS.out.cell 7
              have y8 := HBS.out.cell 8
              have y9 := HBS.out.cell 9
              have y10 := HBS.out.cell 10
              have y11 := HBS.out.cell 11
              have y12 := HBS.out.cell 12
              have y13 := HBS.out.cell 13
              have y14 := HBS.out.cell 14
              have hboS := HBO.out.kept HNE.out id
              have t0 := hboS.cell 2
              have tf := hboS.free 2
              simp only [List.getElem?_toArray, List.getElem?_cons_zero, List.getElem?_cons_succ] at t0 y0 y1 y2 y3 y4 y5 y6 y7 y8 y9 y10 y11 y12 y13 y14
              obtain ⟨ro, xo, hro, hfo, hpo⟩ := (HOUT.out.new HNE.out).rows
              have HPO := Lib.hid (fun wz rz Az cz xz csz Fz Fy => @hpo wz rz Az cz xz csz Fz Fy)
              have HXT : Hid (∀ W, Kept (fun k => ro = some k) wS W → W.cell? ⟨b + 2, 2, none⟩ = some (.slice A i cc) ∧ W.frozen? ⟨b + 2, 2, none⟩ = false ∧ Blk W (b + 2) 30 #[.int .i64 s.tick, .slice A1 na c1, .slice A i cc]) := Lib.hid fun W hW => by
                have h := hboS.kept hW (fun e => by have := hfo _ e; have := HBW.out; have := HGD.out; omega)
                exact ⟨h.cell 2, h.free 2, h⟩
              have HKE := Lib.hid (HKR.out.trans (HNE.out.mono fun _ _ h => h.elim))
              have HRO := Lib.hid hro
              have HFO := Lib.hid hfo
              have HOWN := Lib.hid hown
              clear hro hfo hown
              clear hboS hpo s1 s2 s3 s4
              go_wp2_with (at_builtin; refine wpList_append_one (cs := [.int .i64 x.state, .int .i64 x.pc, .int .i64 x.r0, .int .i64 x.r1, .int .i64 x.r2, .int .i64 x.r3, .int .i64 x.r4, .int .i64 x.r5, .int .i64 x.r6, .int .i64 x.r7, .int .i64 x.cursor, .int .i64 x.timer, .bool x.fired, .int .i64 x.wake, .slice Aq p1 cq]) tyProcs rfl (.tmp 106) (.tmp 108) rfl rfl HRO.out rfl rfl rfl (by simp [Value.oneCell']) (by unfold maxLen; omega) (by omega) ?_; intro r5 A5 c5 w9 hr5 hk5 hn5; obtain ⟨t0, tf, hb9⟩ := HXT.out w9 hk5; have HR5 := Lib.hid hr5; have HK5 := Lib.hid hk5; have HN5 := Lib.hid hn5; have HB9 := Lib.hid hb9; clear hr5 hk5 hn5 hb9)
              go_roundw
              case rel =>
                have s1 := HGX.out
                have s2 := HSE.out
                have s3 := HS5.out
                have s4 := HBXE.out
                have s5 := HK5.out.size
                have s6 := HKR.out.size
                have s7 := HBW.out
                have s8 := HGD.out
                have hb9 := HB9.out.set (i := 2) (.slice A5 (i + 1) c5)
                simp [Array.setIfInBounds] at hb9
                have hz := size_set w9 ⟨b + 2, 2, none⟩ (.slice A5 (i + 1) c5)
                refine ⟨i + 1, A5, c5, by omega, by go_num, ?_, hb9, (HKE.out.step HK5.out fun k hk e => by have := HFO.out k e; omega).setCell (p := ⟨b + 2, 2, none⟩) (.inr rfl) (.slice A5 (i + 1) c5)⟩
                rw [HTK.out]
                refine (HPO.out _ _ _ _ _ _ _ (fun k => wd.heap.size ≤ k ∧ k < w9.heap.size) HR5.out HK5.out HN5.out (fun j e => by omega) HOWN.out (fun j e => ⟨fun e' => by omega, by omega⟩) (fun j e => ⟨e.1, by omega⟩) (fun j e => ⟨by omega, by omega⟩) (fun j e => ?_)).kept (Kept.set1 w9 (b + 2) 2 _) (fun j e e' => by omega) |>.mono fun j e => ⟨e.1, Nat.lt_of_lt_of_eq e.2 hz⟩
                have := HR5.out.lt (by decide) j e
                rcases HN5.out j e with h | h
                · have := HFO.out j h; exact ⟨by omega, by omega⟩
                · exact ⟨by omega, by omega⟩
              case measure => simp [intOf]; omega
        · obtain rfl : nb = i := by omega
          have hb2f := B2D.out.kept hkr (fun e => by omega)
          have hpf := HPARTS.out.kept hkr (fun k e e' => by omega)
          have hof : OSl procO wo (fun k => wd.heap.size ≤ k ∧ k < wo.heap.size) A nb cc s.procs := by
            have h := hout
            rw [List.take_of_length_le (by have := HNB.out; omega)] at h
            exact h
          have hsz := hkr.size
          have z0 := hbo.cell 0
          have z1 := hbo.cell 1
          have z2 := hbo.cell 2
          have y0 := hb2f.cell 0
          have y1 := hb2f.cell 1
          have y2 := hb2f.cell 2
          have q0 := hb2f.free 0
          have q1 := hb2f.free 1
          have q2 := hb2f.free 2
          simp only [List.getElem?_toArray, List.getElem?_cons_zero, List.getElem?_cons_succ] at z0 z1 z2 y0 y1 y2
          have hkb := hout.bound
          have HNR := Lib.hid hnr
          have HB2F := Lib.hid hb2f
          have HPF := Lib.hid hpf
          have HOF := Lib.hid hof
          have HSZ := Lib.hid hsz
          clear hnr hb2f hpf hof hsz
          clear hbo hkr hb1 hout
          go_wp2_with fail
          have hbf : Blk (((wo.setCell ⟨b + 1, 0, none⟩ (.int .i64 s.tick)).setCell ⟨b + 1, 1, none⟩ (.slice A1 na c1)).setCell ⟨b + 1, 2, none⟩ (.slice A nb cc)) (b + 1) 30 #[.int .i64 s.tick, .slice A1 na c1, .slice A nb cc] := HB2F.out.setAll [.int .i64 s.tick, .slice A1 na c1, .slice A nb cc] rfl
          have hkf : Kept (fun k => k = b + 1) wo (((wo.setCell ⟨b + 1, 0, none⟩ (.int .i64 s.tick)).setCell ⟨b + 1, 1, none⟩ (.slice A1 na c1)).setCell ⟨b + 1, 2, none⟩ (.slice A nb cc)) := ((Kept.set1 wo (b + 1) 0 _).trans (Kept.set1 _ (b + 1) 1 _)).trans (Kept.set1 _ (b + 1) 2 _)
          generalize ((wo.setCell ⟨b + 1, 0, none⟩ (.int .i64 s.tick)).setCell ⟨b + 1, 1, none⟩ (.slice A1 na c1)).setCell ⟨b + 1, 2, none⟩ (.slice A nb cc) = wF at *
          have y0 := hbf.cell 0
          have y1 := hbf.cell 1
          have y2 := hbf.cell 2
          simp only [List.getElem?_toArray, List.getElem?_cons_zero, List.getElem?_cons_succ] at y0 y1 y2
          have k5 := HBE.out
          have k6 := HBW.out
          have k7 := HGD.out
          have k8 := HSZ.out
          have k9 := hkf.size
          refine bodyPost_ret (v := .agg #[.int .i64 s.tick, .slice A1 na c1, .slice A nb cc]) (by simp [results, Try.results14, go_sem, y0, y1, y2]) rfl ⟨[.int .i64 s.tick, .slice A1 na c1, .slice A nb cc], rfl, ⟨A1, na, c1, A, nb, cc, _, _, rfl, HPF.out.kept hkf fun k e e' => by omega, HOF.out.kept hkf fun k e e' => by omega, fun k e => ⟨⟨by omega, by omega⟩, fun e' => by omega⟩, fun k e => ⟨by omega, by omega⟩⟩, HNR.out.step hkf fun k hk e => by omega⟩
end Go.Proofs.Ytgdmajockejpgaa.View
