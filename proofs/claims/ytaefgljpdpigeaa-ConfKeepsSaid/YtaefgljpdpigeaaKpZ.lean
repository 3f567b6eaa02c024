/- The walk of the law ConfKeeps (layer 14). Printed by wip/tools/mkKz14.py. -/
import Derived.Test.YtaefgljpdpigeaaKpA
import Derived.Test.YtaefgljpdpigeaaKpB
import Derived.Test.YtaefgljpdpigeaaKpC
import Derived.Test.YtaefgljpdpigeaaKpE
import Derived.Test.YtaefgljpdpigeaaKpF
namespace Go.Proofs.Ytaefgljpdpigeaa.Conf
open Go.RowKit Go.Fb Go.CodeP Go.BytesP Go.ReaderP
set_option linter.unusedVariables false
theorem few_dec (b : List UInt8) : FewC (decL b) := by
  unfold decL
  cases hd : decD b with
  | error e =>
    show FewC cfZ
    exact ⟨by decide, by decide, by decide, fun p hp => by cases hp⟩
  | ok d =>
    obtain ⟨b1, b2, b3⟩ := dec_some hd
    have hs := sane_of b1
    exact ⟨by have := hs.labels; show d.labels.length ≤ _; omega, by have := hs.table; show d.table.length ≤ _; omega, by have := hs.procs; show d.procs.length ≤ _; omega, fun p hp => by have := (may_ok (hs.code p hp)).2.2.1; omega⟩
theorem WideC.owned {w : World} {F : Nat → Prop} {c : Cf} {Al At Ap : Option Addr} {cl ct cp : Nat} (h : WideC w F c Al cl At ct Ap cp) : OwnC w F c Al cl At ct Ap cp := by
  obtain ⟨Fl, Ft, Fp, h1, h2, h3, h4, h5⟩ := h
  exact ⟨Fl, Ft, Fp, OSl.front h1 rfl, OSl.front h2 rfl, wproc_read h3, h4, h5⟩
theorem OSl.smaller {α : Type} {O : ORep α} {w : World} {F : Nat → Prop} {A : Option Addr} {n c : Nat} {l : List α} (hO : ∀ (F : Nat → Prop) (x : α) (cs : List Value), O.own w F x cs → O.own w (fun k => F k ∧ k < w.heap.size) x cs) (h : OSl O w F A n c l) : OSl O w (fun k => F k ∧ k < w.heap.size) A n c l := by
  obtain ⟨r, xs, Fi, h1, h2, h3, h4, h5, h6⟩ := h
  exact ⟨r, xs, fun i k => Fi i k ∧ k < w.heap.size, h1, h2, fun k e => ⟨h3 k e, h1.lt O.pos k e⟩, fun i k e => ⟨⟨(h4 i k e.1).1, e.2⟩, (h4 i k e.1).2⟩, fun i j k hne e e' => h5 i j k hne e.1 e'.1, fun i hi => hO _ _ _ (h6 i hi)⟩
theorem OwnC.small {w : World} {F : Nat → Prop} {c : Cf} {Al At Ap : Option Addr} {cl ct cp : Nat} (h : OwnC w F c Al cl At ct Ap cp) : OwnC w (fun k => F k ∧ k < w.heap.size) c Al cl At ct Ap cp := by
  obtain ⟨Fl, Ft, Fp, h1, h2, h3, h4, h5⟩ := h
  refine ⟨_, _, _, OSl.smaller (fun _ _ _ h => h) h1, OSl.smaller (fun _ _ _ h => h) h2, OSl.smaller (fun F x cs h => ?_) h3, fun k e => ?_, fun k => ⟨fun e => ⟨fun e' => ((h5 k).1 e.1).1 e'.1, fun e' => ((h5 k).1 e.1).2 e'.1⟩, fun e e' => (h5 k).2 e.1 e'.1⟩⟩
  · obtain ⟨A, c, e, h, h'⟩ := h
    exact ⟨A, c, e, OSl.smaller (fun _ _ _ h => h) h, h'⟩
  · rcases e with e | e | e
    · exact ⟨h4 k (.inl e.1), e.2⟩
    · exact ⟨h4 k (.inr (.inl e.1)), e.2⟩
    · exact ⟨h4 k (.inr (.inr e.1)), e.2⟩
theorem short_encC (c : Cf) : (encC c).length ≤ 100000 := by
  unfold encC
  by_cases h : mayC c = (0, 0)
  · rw [if_pos h]; exact (length_encB h).2
  · rw [if_neg h]; decide
set_option maxRecDepth 100000 in
set_option maxHeartbeats 16000000 in
theorem keeps_walk {w : World} {c : Cf} {cs : Array Value} {A : Option Addr} {n k : Nat} {bs : List UInt8} (h : repConf.cells w w.heap.size c cs.toList) (hb : SliceOf Rep.byte w w.heap.size A n k bs) :
    Calls Try.prog 4 #[.agg cs, .slice A n k] w fun e w' => e = .returned (.bool true) ∧ New w w' := by
  obtain ⟨Al, cl, At, ct, Ap, cp, ecs, h1, h2, h3, h4⟩ := h
  obtain rfl : cs = (confC c Al cl At ct Ap cp).toArray := Array.ext' ecs
  clear ecs
  have hrc : ReadC w.heap.size w c Al cl At ct Ap cp := ⟨h1, h2, h3⟩
  have hwf := h4.1
  have hlen := short_encC c
  obtain ⟨ls, tb, x2, x3, x4, x5, ps⟩ := c
  have ka : New w (w.alloc (.cells #[.slice Al ls.length cl, .slice At tb.length ct, .int .i64 x2, .int .i64 x3, .int .i64 x4, .int .i64 x5, .slice Ap ps.length cp] 26)) := (Kept.refl _ _).alloc _
  have hbk := Blk.made w 26 #[.slice Al ls.length cl, .slice At tb.length ct, .int .i64 x2, .int .i64 x3, .int .i64 x4, .int .i64 x5, .slice Ap ps.length cp]
  have hbb := hb.bound
  clear h1 h2 h3 h4
  unfold confC
  simp only
  have HA := Lib.hid (fun W => awake_any W)
  have HRC := Lib.hid hrc
  have KA := Lib.hid ka
  have HBK := Lib.hid hbk
  have HB := Lib.hid hb
  have HWF := Lib.hid hwf
  have HLEN := Lib.hid hlen
  clear hrc ka hbk hb hwf hlen
  go_enter Try.func4, Try.ntmps4
  go_upto_region 3 with (go_at_call 9; refine (HA.out _).mono ?_; rintro e w1 ⟨rfl, hn1⟩)
  have hr1 := HRC.out.news (KA.out.trans hn1) (Nat.le_refl _)
  have hb1 := HBK.out.kept hn1 id
  have hn1' := KA.out.trans hn1
  have hlt1 := hn1'.size
  have hcb1 := hb1.lt
  clear hn1 HBK HA KA
  have hfew := few_any hr1 hlt1
  unfold Fewd confC at hfew
  simp only at hfew
  have y0 := hb1.cell 0
  have y1 := hb1.cell 1
  have y2 := hb1.cell 2
  have y3 := hb1.cell 3
  have y4 := hb1.cell 4
  have y5 := hb1.cell 5
  have y6 := hb1.cell 6
  simp only [List.getElem?_toArray, List.getElem?_cons_zero, List.getElem?_cons_succ] at y0 y1 y2 y3 y4 y5 y6
  have HFEW := Lib.hid hfew
  have HR1 := Lib.hid hr1
  have HB1 := Lib.hid hb1
  have HN1' := Lib.hid hn1'
  clear hfew hr1 hb1 hn1'
  go_upto_if 28 with (go_at_call 14; refine HFEW.out.mono ?_; rintro e w2 ⟨bf, rfl, hfw, hn2⟩; have HFW := Lib.hid hfw; have HN2 := Lib.hid hn2; clear hfw hn2)
  clear y0 y1 y2 y3 y4 y5 y6 HFEW
  cases bf with
  | false =>
    go_wp2_with fail
    go_ret
    exact ⟨rfl, HN1'.out.trans HN2.out⟩
  | true =>
    have hfc := HFW.out rfl
    clear HFW
    have hfc2 := hfc
    obtain ⟨q1, q2, q3, q4⟩ := hfc2
    simp only at q1 q2 q3 q4
    have hn02 := HN1'.out.trans HN2.out
    have hr2 := HR1.out.news HN2.out hlt1
    have hb2 := HB1.out.kept HN2.out id
    have hs2 := HN2.out.size
    have hlt2 : w.heap.size ≤ w2.heap.size := by omega
    have hwide := wide_any hr2 hlt2 q1 q2 q3 q4 HWF.out
    unfold Wided confC at hwide
    simp only at hwide
    have y0 := hb2.cell 0
    have y1 := hb2.cell 1
    have y2 := hb2.cell 2
    have y3 := hb2.cell 3
    have y4 := hb2.cell 4
    have y5 := hb2.cell 5
    have y6 := hb2.cell 6
    simp only [List.getElem?_toArray, List.getElem?_cons_zero, List.getElem?_cons_succ] at y0 y1 y2 y3 y4 y5 y6
    have HLEN2 := HLEN
    have HWIDE := Lib.hid hwide
    have HR2 := Lib.hid hr2
    have HB2 := Lib.hid hb2
    have HN02 := Lib.hid hn02
    have HFC := Lib.hid hfc
    have Q4 := Lib.hid q4
    clear hwide hr2 hb2 hn02 hfc q4
    clear HR1 HB1 HN1' HN2 HWF
    go_upto_region 6 with (go_at_call 12; refine HWIDE.out.mono ?_; rintro e w3 ⟨Dl, dl, Dt, dt, Dp, dp, F3, rfl, hw3, hF3, hn3⟩; have HW3 := Lib.hid hw3; have HF3 := Lib.hid hF3; have HN3 := Lib.hid hn3; clear hw3 hF3 hn3)
    clear y0 y1 y2 y3 y4 y5 y6 HWIDE
    have k4 : New w3 (w3.alloc (.cells #[.slice Dl ls.length dl, .slice Dt tb.length dt, .int .i64 x2, .int .i64 x3, .int .i64 x4, .int .i64 x5, .slice Dp ps.length dp] 26)) := (Kept.refl _ _).alloc _
    have hd4 := Blk.made w3 26 #[.slice Dl ls.length dl, .slice Dt tb.length dt, .int .i64 x2, .int .i64 x3, .int .i64 x4, .int .i64 x5, .slice Dp ps.length dp]
    have hs3 := HN3.out.size
    have hw4 := HW3.out.kept k4 (fun _ _ e => e)
    have hn24 := HN3.out.trans k4
    have hb4 := HB2.out.kept hn24 id
    have hr4 := HR2.out.news hn24 hlt2
    have hn04 := HN02.out.trans hn24
    have hs4 := k4.size
    have hd4l := hd4.lt
    generalize w3.alloc (.cells #[.slice Dl ls.length dl, .slice Dt tb.length dt, .int .i64 x2, .int .i64 x3, .int .i64 x4, .int .i64 x5, .slice Dp ps.length dp] 26) = w4 at *
    have HF4 := Lib.hid (show ∀ k, F3 k → w2.heap.size ≤ k ∧ k < w3.heap.size from HF3.out)
    generalize w3.heap.size = wb at *
    have HZ := Lib.hid (fun W (hW : New w4 W) => show Blk W wb 26 #[.slice Dl ls.length dl, .slice Dt tb.length dt, .int .i64 x2, .int .i64 x3, .int .i64 x4, .int .i64 x5, .slice Dp ps.length dp] ∧ Blk W w.heap.size 26 #[.slice Al ls.length cl, .slice At tb.length ct, .int .i64 x2, .int .i64 x3, .int .i64 x4, .int .i64 x5, .slice Ap ps.length cp] from ⟨hd4.kept hW id, hb4.kept hW id⟩)
    have hrd4 := hw4.read
    have HM := Lib.hid (fun W (hW : New w4 W) => may_read (hrd4.news hW (Nat.le_refl _)) hW.size)
    have HSK := Lib.hid (fun W (hW : New w4 W) => skel_read (hrd4.news hW (Nat.le_refl _)) ((hr4.news hW hn04.size).more hn04.size) hW.size)
    have HE := Lib.hid (fun W (hW : New w4 W) => encode_read (hrd4.news hW (Nat.le_refl _)) hW.size)
    have HKE := Lib.hid (fun W (hW : New w4 W) => lawkept_any (hw4.kept hW (fun _ _ e => e)) (hr4.news hW hn04.size) (Nat.le_trans hn04.size hW.size) HFC.out)
    have HRE := Lib.hid (fun W (hr : ReadC w.heap.size W ⟨ls, tb, x2, x3, x4, x5, ps⟩ Al cl At ct Ap cp) (hW : w.heap.size ≤ W.heap.size) => rencode_any hr.labs hr.tab hr.prs hW)
    unfold Encoded at HE HRE
    unfold confC at HM HSK HE HKE HRE
    simp only at HM HSK HE HKE HRE
    generalize encC ⟨ls, tb, x2, x3, x4, x5, ps⟩ = eb at *
    have c1 := hd4
    have c2 := hb4
    have z0 := c1.cell 0
    have z1 := c1.cell 1
    have z2 := c1.cell 2
    have z3 := c1.cell 3
    have z4 := c1.cell 4
    have z5 := c1.cell 5
    have z6 := c1.cell 6
    simp only [List.getElem?_toArray, List.getElem?_cons_zero, List.getElem?_cons_succ] at z0 z1 z2 z3 z4 z5 z6
    have y0 := c2.cell 0
    have y1 := c2.cell 1
    have y2 := c2.cell 2
    have y3 := c2.cell 3
    have y4 := c2.cell 4
    have y5 := c2.cell 5
    have y6 := c2.cell 6
    simp only [List.getElem?_toArray, List.getElem?_cons_zero, List.getElem?_cons_succ] at y0 y1 y2 y3 y4 y5 y6
    have HW4 := Lib.hid hw4
    have HN04 := Lib.hid hn04
    have HR4 := Lib.hid hr4
    clear hw4 hn04 hr4
    clear c1 c2 hd4 hb4 hrd4 hn24 k4 HW3 HF3 HN3 HN02 HB2 HR2
    have HN4 := Lib.hid (Kept.refl (fun _ => False) w4)
    have hcall := HM.out w4 HN4.out
    have HCALL := Lib.hid hcall
    clear hcall
    go_upto_region 7 with (go_at_call 15; refine HCALL.out.mono ?_; rintro e w5 ⟨rfl, hn⟩; have HN5 := Lib.hid (HN4.out.trans hn); have tt4 := hn.size; clear hn)
    clear z0 z1 z2 z3 z4 z5 z6 y0 y1 y2 y3 y4 y5 y6 HCALL
    obtain ⟨c1, c2⟩ := HZ.out w5 HN5.out
    have z0 := c1.cell 0
    have z1 := c1.cell 1
    have z2 := c1.cell 2
    have z3 := c1.cell 3
    have z4 := c1.cell 4
    have z5 := c1.cell 5
    have z6 := c1.cell 6
    simp only [List.getElem?_toArray, List.getElem?_cons_zero, List.getElem?_cons_succ] at z0 z1 z2 z3 z4 z5 z6
    have y0 := c2.cell 0
    have y1 := c2.cell 1
    have y2 := c2.cell 2
    have y3 := c2.cell 3
    have y4 := c2.cell 4
    have y5 := c2.cell 5
    have y6 := c2.cell 6
    simp only [List.getElem?_toArray, List.getElem?_cons_zero, List.getElem?_cons_succ] at y0 y1 y2 y3 y4 y5 y6
    clear c1 c2
    have hcall := HSK.out w5 HN5.out
    have HCALL := Lib.hid hcall
    clear hcall
    go_upto_region 8 with (go_at_call 13; refine HCALL.out.mono ?_; rintro e w6 ⟨rfl, hn⟩; have HN6 := Lib.hid (HN5.out.trans hn); have tt5 := hn.size; clear hn)
    clear z0 z1 z2 z3 z4 z5 z6 y0 y1 y2 y3 y4 y5 y6 HCALL
    obtain ⟨c1, c2⟩ := HZ.out w6 HN6.out
    have z0 := c1.cell 0
    have z1 := c1.cell 1
    have z2 := c1.cell 2
    have z3 := c1.cell 3
    have z4 := c1.cell 4
    have z5 := c1.cell 5
    have z6 := c1.cell 6
    simp only [List.getElem?_toArray, List.getElem?_cons_zero, List.getElem?_cons_succ] at z0 z1 z2 z3 z4 z5 z6
    have y0 := c2.cell 0
    have y1 := c2.cell 1
    have y2 := c2.cell 2
    have y3 := c2.cell 3
    have y4 := c2.cell 4
    have y5 := c2.cell 5
    have y6 := c2.cell 6
    simp only [List.getElem?_toArray, List.getElem?_cons_zero, List.getElem?_cons_succ] at y0 y1 y2 y3 y4 y5 y6
    clear c1 c2
    have hcall := HE.out w6 HN6.out
    have HCALL := Lib.hid hcall
    clear hcall
    go_upto_region 9 with (go_at_call 10; refine HCALL.out.mono ?_; rintro e w7 ⟨rx, Ax, kx, rfl, hrx, hfx, hn⟩; have HN7 := Lib.hid (HN6.out.trans hn); have tt6 := hn.size; have HRX := Lib.hid hrx; have HFX := Lib.hid hfx; clear hrx hfx; clear hn)
    clear z0 z1 z2 z3 z4 z5 z6 y0 y1 y2 y3 y4 y5 y6 HCALL
    obtain ⟨c1, c2⟩ := HZ.out w7 HN7.out
    have z0 := c1.cell 0
    have z1 := c1.cell 1
    have z2 := c1.cell 2
    have z3 := c1.cell 3
    have z4 := c1.cell 4
    have z5 := c1.cell 5
    have z6 := c1.cell 6
    simp only [List.getElem?_toArray, List.getElem?_cons_zero, List.getElem?_cons_succ] at z0 z1 z2 z3 z4 z5 z6
    have y0 := c2.cell 0
    have y1 := c2.cell 1
    have y2 := c2.cell 2
    have y3 := c2.cell 3
    have y4 := c2.cell 4
    have y5 := c2.cell 5
    have y6 := c2.cell 6
    simp only [List.getElem?_toArray, List.getElem?_cons_zero, List.getElem?_cons_succ] at y0 y1 y2 y3 y4 y5 y6
    clear c1 c2
    have hs67 := HN6.out.size
    have hcall := HE.out w7 HN7.out
    have HCALL := Lib.hid hcall
    clear hcall
    go_upto_region 10 with (go_at_call 10; refine HCALL.out.mono ?_; rintro e w8 ⟨ry, Ay, ky, rfl, hry, hfy, hn⟩; have HN8 := Lib.hid (HN7.out.trans hn); have tt7 := hn.size; have HRY := Lib.hid hry; have HFY := Lib.hid hfy; have HRX7 := Lib.hid (HRX.out.new (by decide) hn); clear hry hfy; clear hn)
    clear z0 z1 z2 z3 z4 z5 z6 y0 y1 y2 y3 y4 y5 y6 HCALL
    obtain ⟨c1, c2⟩ := HZ.out w8 HN8.out
    have z0 := c1.cell 0
    have z1 := c1.cell 1
    have z2 := c1.cell 2
    have z3 := c1.cell 3
    have z4 := c1.cell 4
    have z5 := c1.cell 5
    have z6 := c1.cell 6
    simp only [List.getElem?_toArray, List.getElem?_cons_zero, List.getElem?_cons_succ] at z0 z1 z2 z3 z4 z5 z6
    have y0 := c2.cell 0
    have y1 := c2.cell 1
    have y2 := c2.cell 2
    have y3 := c2.cell 3
    have y4 := c2.cell 4
    have y5 := c2.cell 5
    have y6 := c2.cell 6
    simp only [List.getElem?_toArray, List.getElem?_cons_zero, List.getElem?_cons_succ] at y0 y1 y2 y3 y4 y5 y6
    clear c1 c2
    have hcall := HKE.out w8 HN8.out
    have HCALL := Lib.hid hcall
    clear hcall
    go_upto_region 12 with (go_at_call 16; refine HCALL.out.mono ?_; rintro e w9 ⟨rfl, hn⟩; have HN9 := Lib.hid (HN8.out.trans hn); have tt8 := hn.size; have HRX8 := Lib.hid (HRX7.out.new (by decide) hn); have HRY8 := Lib.hid (HRY.out.new (by decide) hn); clear hn)
    clear z0 z1 z2 z3 z4 z5 z6 y0 y1 y2 y3 y4 y5 y6 HCALL
    obtain ⟨c1, c2⟩ := HZ.out w9 HN9.out
    have z0 := c1.cell 0
    have z1 := c1.cell 1
    have z2 := c1.cell 2
    have z3 := c1.cell 3
    have z4 := c1.cell 4
    have z5 := c1.cell 5
    have z6 := c1.cell 6
    simp only [List.getElem?_toArray, List.getElem?_cons_zero, List.getElem?_cons_succ] at z0 z1 z2 z3 z4 z5 z6
    have y0 := c2.cell 0
    have y1 := c2.cell 1
    have y2 := c2.cell 2
    have y3 := c2.cell 3
    have y4 := c2.cell 4
    have y5 := c2.cell 5
    have y6 := c2.cell 6
    simp only [List.getElem?_toArray, List.getElem?_cons_zero, List.getElem?_cons_succ] at y0 y1 y2 y3 y4 y5 y6
    clear c1 c2
    have s67 := HN6.out.size
    have s78 := HN7.out.size
    have s89 := HN9.out.size
    have hrx7 := HRX.out.lt (by decide)
    have HRX7B := Lib.hid hrx7
    have hown9 := (HW4.out.kept HN9.out (fun _ _ e => e)).owned
    have hwr := wreck_any (mk := 99) (by decide) (by decide) hown9 (fun g e => by have := HF4.out g e; omega) HFC.out
    unfold Wrecked confC at hwr
    simp only at hwr
    have hf34 : ∀ g, F3 g → w2.heap.size ≤ g ∧ g < w4.heap.size := fun g e => by have := HF4.out g e; omega
    have HWR := Lib.hid hwr
    have HF34 := Lib.hid hf34
    have HRX7 := Lib.hid hrx7
    clear hwr hf34 hrx7
    clear hown9
    go_upto_region 13 with (go_at_call 17; refine HWR.out.mono ?_; rintro e w10 ⟨⟨d1, d2, d3, d4, d5, d6, d7⟩, El, el, Et, et, Ep, ep, F10, rfl, -, -, -, -, hk10⟩; have HK10 := Lib.hid hk10; clear hk10)
    clear z0 z1 z2 z3 z4 z5 z6 y0 y1 y2 y3 y4 y5 y6 HWR
    have hk10 := HK10.out
    have hs10 := hk10.size
    have hb10 := (HZ.out w9 HN9.out).2.kept hk10 (fun e => by have := HF34.out _ e; omega)
    have hn9 := HN04.out.trans HN9.out
    have hn10 := hn9.step hk10 (fun g hg e => by have := HF34.out g e; omega)
    have hr10 := HRC.out.news hn10 (Nat.le_refl _)
    have hx10 := HRX8.out.of_kept (by decide) hk10 (fun g hg e => by have := HFX.out g hg; have := HF34.out g e; omega)
    have hy10 := HRY8.out.of_kept (by decide) hk10 (fun g hg e => by have := HFY.out g hg; have := HF34.out g e; omega)
    have hlt10 := hn10.size
    have hcall := HRE.out w10 hr10 hlt10
    have y0 := hb10.cell 0
    have y1 := hb10.cell 1
    have y2 := hb10.cell 2
    have y3 := hb10.cell 3
    have y4 := hb10.cell 4
    have y5 := hb10.cell 5
    have y6 := hb10.cell 6
    simp only [List.getElem?_toArray, List.getElem?_cons_zero, List.getElem?_cons_succ] at y0 y1 y2 y3 y4 y5 y6
    have HCALL := Lib.hid hcall
    have HB10 := Lib.hid hb10
    have HN10 := Lib.hid hn10
    have HX10 := Lib.hid hx10
    have HY10 := Lib.hid hy10
    clear hcall hb10 hn10 hx10 hy10
    clear hr10 hn9 hk10 HK10 HZ HM HSK HE HKE HRE
    go_upto_region 14 with (go_at_call 18; refine HCALL.out.mono ?_; rintro e w11 ⟨rw, Aw, kw, rfl, hrw, hfw, hn⟩; have HN11 := Lib.hid (HN10.out.trans hn); have HRW := Lib.hid hrw; have HFW := Lib.hid hfw; have HX11 := Lib.hid (HX10.out.new (by decide) hn); have HY11 := Lib.hid (HY10.out.new (by decide) hn); clear hrw hfw hn)
    clear y0 y1 y2 y3 y4 y5 y6 HCALL HX10 HY10 HN10
    have hb11 : New w w11 := HN11.out
    have HCB := Lib.hid (show w.heap.size < w2.heap.size by omega)
    have hyx : ∀ g, ry = some g → ¬ rx = some g := fun g e e' => by have := HFY.out g e; have := HRX7B.out g e'; omega
    have hwx : ∀ g, rw = some g → ¬ rx = some g := fun g e e' => by have := HFW.out g e; have := HRX7B.out g e'; have := hs10; omega
    have hxw : ∀ g, rx = some g → w.heap.size ≤ g := fun g e => by have := HFX.out g e; omega
    have s1 := str_of (P := Try.prog) (Row.bytes HX11.out).2 27 9 5 rfl rfl rfl
    have s2 := str_of (P := Try.prog) (Row.bytes HY11.out).2 27 9 5 rfl rfl rfl
    have s3 := str_of (P := Try.prog) (Row.bytes HRW.out).2 27 9 5 rfl rfl rfl
    have hlen := HLEN2.out
    have HEL := Lib.hid (show eb.length = eb.length from rfl)
    have hxb := HX11.out.bound
    have HB11 := Lib.hid hb11
    have HYX := Lib.hid hyx
    have HWX := Lib.hid hwx
    have HXW := Lib.hid hxw
    clear hb11 hyx hwx hxw
    clear HF4 HF34 HRX HRX7 HRX8 HRY HRY8 HFX HFY HFW HRX7B HN4 HN5 HN6 HN7 HN8 HN9 HN11 HW4 HR4 HLEN
    go_upto_region 16 with fail
    clear s1 s2 s3
    go_wp2_with fail
    go_loopw [71] (fun i wr => ∃ (j : Nat) (xs : List Value), i = .int .i64 j ∧ j ≤ eb.length ∧ Row wr 1 rx Ax eb.length kx xs ∧ Kept (fun g => rx = some g) w11 wr) (fun i _ => (eb.length - intOf i).toNat)
    case atStart => exact ⟨0, _, rfl, Nat.zero_le _, HX11.out, Kept.refl _ _⟩
    case round =>
      obtain ⟨j, xs, rfl, hj, hrow, hk⟩ := hrel
      clear HX11
      by_cases hlt : j < eb.length
      · obtain ⟨g, o, e1, rfl, h5, h6⟩ := hrow.at_pos (by omega)
        have p0 := h6 j (by omega)
        obtain ⟨u0, v0⟩ := Option.isSome_iff_exists.1 p0.1
        have f0 := p0.2
        have hrow2 := hrow.set (j := j) rfl (by omega) (.int .u8 7)
        have hk2 := hk.setCell (p := ⟨g, o + j, none⟩) (.inr e1) (.int .u8 7)
        have HROW2 := Lib.hid hrow2
        have HK2 := Lib.hid hk2
        clear hrow2 hk2
        clear hrow hk h5 h6 p0
        go_wp2_with fail
        exact ⟨⟨j + 1, _, by go_num, by omega, HROW2.out, HK2.out⟩, by simp [intOf]; omega⟩
      · obtain rfl : j = eb.length := by omega
        have HROW := Lib.hid hrow
        have HKX := Lib.hid hk
        clear hrow hk hlt hj
        go_wp2_with fail
        go_loopw [6, 78] (fun v i wr => ∃ (s : Nat) (r : Option Nat) (A : Option Addr) (c : Nat) (xs : List Value), i = .int .i64 s ∧ v = .slice A (eb.length + s) c ∧ s ≤ 40 ∧ Row wr 1 r A (eb.length + s) c xs ∧ (∀ g, r = some g → rx = some g ∨ w11.heap.size ≤ g) ∧ Kept (fun g => rx = some g) w11 wr) (fun _ i _ => (40 - intOf i).toNat)
        case atStart => exact ⟨0, rx, Ax, kx, xs, rfl, rfl, by omega, HROW.out, fun g e => .inl e, HKX.out⟩
        case round =>
          obtain ⟨s, r, A', c', xs', rfl, rfl, hs, hrow, hr, hk⟩ := hrel
          clear HROW HKX
          have hw11 := hk.size
          by_cases hlt : s < 40
          · have hcb := hrow.bound
            have HROW := Lib.hid hrow
            have HR := Lib.hid hr
            have HK := Lib.hid hk
            clear hrow hr hk
            go_wp2_with (first
              | (at_builtin
                 refine wpList_append_one (cs := [.int .u8 8]) Code.tyBytes rfl (.tmp 80) (.tmp 81) rfl rfl HROW.out rfl rfl rfl (by simp [Value.oneCell']) (by unfold maxLen; omega) (by omega) ?_
                 intro r6 A6 c6 w6 hr6 hk6 hn6
                 have HR6 := Lib.hid hr6
                 have HK6 := Lib.hid hk6
                 have HN6 := Lib.hid hn6
                 clear hr6 hk6 hn6)
              | fail)
            exact ⟨⟨s + 1, r6, A6, c6, _, by go_num, by rw [Nat.add_assoc], by omega, HR6.out, fun g e => by rcases HN6.out g e with e' | e'; exact HR.out g e'; exact .inr (by omega), HK.out.step HK6.out fun g hg e => by rcases HR.out g e with e' | e'; exact e'; omega⟩, by simp [intOf]; omega⟩
          · obtain rfl : s = 40 := by omega
            have hy := HY11.out.of_kept (by decide) hk (fun g e e' => HYX.out g e e')
            have hw := HRW.out.of_kept (by decide) hk (fun g e e' => HWX.out g e e')
            have hn := HB11.out.step hk (fun g hg e => by have := HXW.out g e; omega)
            have s2 := str_of (P := Try.prog) (Row.bytes hy).2 27 9 5 rfl rfl rfl
            have s3 := str_of (P := Try.prog) (Row.bytes hw).2 27 9 5 rfl rfl rfl
            have wl : IntKind.i64.wrap ((eb.length : Int) + 40) = (eb.length : Int) + 40 := IntWalk.i64_in _ (by omega)
            have HN12 := Lib.hid hn
            clear hrow hr hk hy hw hn hlt HY11 HRW HYX HWX HXW HB11
            obtain ⟨m, hmin⟩ : ∃ m : Nat, min (n : Int) 2097152 = m := ⟨(min (n : Int) 2097152).toNat, by omega⟩
            have hm1 : m ≤ n := by omega
            have hm2 : m ≤ 2097152 := by omega
            have hmk : m ≤ k := by omega
            go_upto_region 28 with fail
            clear s2 s3 wl hmin
            obtain ⟨z, cs, -, -, hcs, hmk2⟩ := run_make_ty (P := Try.prog) Code.tyBytes (li := 0) (ci := (m : Int) + 2) 0 (m + 2) rfl (by omega) (by omega) (by omega) (by omega)
            obtain ⟨r0, hrow0, hr0⟩ := Row.of_make (T := 5) (size := 1) wr cs (m + 2) hcs (by unfold maxLen; omega)
            have ka : New wr (wr.alloc (.cells cs.toArray 5)) := (Kept.refl _ _).alloc _
            have hbt := HB.out.take hm1 hmk (by unfold maxLen; omega)
            have hbl := hbt.len
            have hsrc := (hbt.kept (HN12.out.trans ka) (Nat.le_refl _) (fun _ _ e => e)).srcB Try.underlying27
            have wn : IntKind.i64.wrap ((m : Int) + 2) = (m : Int) + 2 := IntWalk.i64_in _ (by omega)
            generalize bs.take m = mt at *
            have HCS := Lib.hid hcs
            have HROW0 := Lib.hid hrow0
            have HR0 := Lib.hid hr0
            have KA := Lib.hid ka
            have HSRC := Lib.hid hsrc
            have HBT := Lib.hid hbt
            have HBL := Lib.hid hbl
            clear hcs hrow0 hr0 ka hsrc hbt hbl
            go_upto_region 29 with (first
              | (at_builtin
                 refine wpList_append_row Code.tyBytes rfl (.tmp 105) (.tmp 106) rfl rfl HROW0.out rfl HSRC.out (by unfold maxLen; omega) (by omega) ?_
                 intro ra Aa ca wa hra hka hna
                 rw [Nat.zero_add, List.nil_append] at hra
                 rw [Nat.zero_add]
                 have HRA := Lib.hid hra
                 have HKA := Lib.hid hka
                 have HNA := Lib.hid hna
                 clear hra hka hna)
              | (at_builtin
                 refine wpList_append_many (cs := [.int .u8 161, .int .u8 162]) Code.tyBytes rfl (.tmp 107) (.tmp 108) rfl rfl HRA.out rfl rfl rfl (by simp [Value.oneCell']) (by unfold maxLen; omega) (by omega) ?_
                 intro r3 A3 c3 w14 hr3 hk3 hn3
                 have hle3 := hr3.bound
                 have HR3 := Lib.hid hr3
                 have HK3 := Lib.hid hk3
                 have HN3 := Lib.hid hn3
                 clear hr3 hk3 hn3))
            have e0 : ∀ g, r0 = some g → wr.heap.size ≤ g := fun g e => by rw [HR0.out g e]; exact Nat.le_refl _
            have e1 := wide_row KA.out e0 HKA.out HNA.out HK3.out HN3.out
            have hn14 := HN12.out.trans e1.1
            have hr3lo := e1.2
            have hr3hi := HR3.out.lt (by decide)
            have hs14 := e1.1.size
            have hs12 := HN12.out.size
            have hh : SliceOf Rep.byte w14 w14.heap.size A3 m c3 mt := by
              have h1 := HR3.out.head (k := m) (by omega)
              rw [Nat.mul_one, List.take_append_of_le_length (by rw [List.length_map, ← HBL.out]; exact Nat.le_refl _), List.take_of_length_le (by rw [List.length_map, ← HBL.out]; exact Nat.le_refl _)] at h1
              exact (Row.bytes h1).2
            obtain ⟨g3, o3, e3, rfl, h35, h36⟩ := HR3.out.at_pos (by omega)
            have x0 := h35 m (by omega)
            have x1 := h35 (m + 1) (by omega)
            rw [List.getElem?_append_right (by rw [List.length_map, ← HBL.out]; exact Nat.le_refl _), List.length_map, ← HBL.out, Nat.sub_self] at x0
            rw [List.getElem?_append_right (by rw [List.length_map, ← HBL.out]; omega), List.length_map, ← HBL.out, Nat.add_sub_cancel_left] at x1
            simp only [List.getElem?_cons_zero, List.getElem?_cons_succ] at x0 x1
            have hg3 := hr3hi g3 e3
            have hg3lo := hr3lo g3 e3
            have hfd := few_dec mt
            have hdec := decode_any hh
            have HD2 := Lib.hid (fun W (hW : New w14 W) => decode_any (Code.news hh hW))
            have HRD := Lib.hid (fun W (hW : SliceOf Rep.byte W W.heap.size A m k mt) => rdecode_any hW)
            unfold Decoded at hdec HD2 HRD
            generalize decL mt = d at *
            generalize decE mt = ee at *
            obtain ⟨ee1, ee2⟩ := ee
            obtain ⟨ls', tb', v2, v3, v4, v5, ps'⟩ := d
            have HX0 := Lib.hid x0
            have HX1 := Lib.hid x1
            have HDEC := Lib.hid hdec
            have HH := Lib.hid hh
            have HN14 := Lib.hid hn14
            have HFD := Lib.hid hfd
            clear hdec hh hn14 hfd
            clear x0 x1 h35 h36 KA HKA HNA HK3 HN3 HROW0 HR0 HSRC HRA HCS hmk2 wn e1 e0 hr3lo hr3hi
            go_upto_region 30 with (go_at_call 11; refine HDEC.out.mono ?_; rintro e w15 ⟨cs15, Fp, rfl, hown15, hF15, hn15⟩; obtain ⟨Pl, pl, Pt, pt, Pp, pp, ecs, how15⟩ := own_open hown15; obtain rfl : cs15 = (confC ⟨ls', tb', v2, v3, v4, v5, ps'⟩ Pl pl Pt pt Pp pp).toArray := Array.ext' ecs; unfold confC; simp only; have HP15 := Lib.hid how15; have HFP := Lib.hid hF15; have HN15 := Lib.hid hn15; clear hown15 hF15 hn15 ecs how15)
            have k16 : New w15 (w15.alloc (.cells #[.slice Pl ls'.length pl, .slice Pt tb'.length pt, .int .i64 v2, .int .i64 v3, .int .i64 v4, .int .i64 v5, .slice Pp ps'.length pp] 26)) := (Kept.refl _ _).alloc _
            have hp16 := Blk.made w15 26 #[.slice Pl ls'.length pl, .slice Pt tb'.length pt, .int .i64 v2, .int .i64 v3, .int .i64 v4, .int .i64 v5, .slice Pp ps'.length pp]
            have hs15 := HN15.out.size
            have hs16 := k16.size
            obtain ⟨FP, hop16, hfp16⟩ : ∃ FP : Nat → Prop, OwnC (w15.alloc (.cells #[.slice Pl ls'.length pl, .slice Pt tb'.length pt, .int .i64 v2, .int .i64 v3, .int .i64 v4, .int .i64 v5, .slice Pp ps'.length pp] 26)) FP ⟨ls', tb', v2, v3, v4, v5, ps'⟩ Pl pl Pt pt Pp pp ∧ ∀ g, FP g → w14.heap.size ≤ g ∧ g < w15.heap.size := ⟨_, HP15.out.small.kept k16 (fun _ _ e => e), fun g e => ⟨HFP.out g e.1, e.2⟩⟩
            have HFP2 := Lib.hid hfp16
            clear hfp16
            have hn16 := HN15.out.trans k16
            have hp16l := hp16.lt
            generalize w15.alloc (.cells #[.slice Pl ls'.length pl, .slice Pt tb'.length pt, .int .i64 v2, .int .i64 v3, .int .i64 v4, .int .i64 v5, .slice Pp ps'.length pp] 26) = w16 at *
            have hdecq := HD2.out w16 hn16
            generalize w15.heap.size = pb at *
            have HDECQ := Lib.hid hdecq
            have HP16 := Lib.hid hp16
            have HOP16 := Lib.hid hop16
            have HN16 := Lib.hid hn16
            clear hdecq hp16 hop16 hn16
            clear k16 HN15 HFP HP15 HDEC HD2
            go_upto_region 31 with (go_at_call 11; refine HDECQ.out.mono ?_; rintro e w17 ⟨cs17, Fq, rfl, hown17, hF17, hn17⟩; obtain ⟨Ql, ql, Qt, qt, Qp, qp, ecs, how17⟩ := own_open hown17; obtain rfl : cs17 = (confC ⟨ls', tb', v2, v3, v4, v5, ps'⟩ Ql ql Qt qt Qp qp).toArray := Array.ext' ecs; unfold confC; simp only; have HQ17 := Lib.hid how17; have HFQ := Lib.hid hF17; have HN17 := Lib.hid hn17; clear hown17 hF17 hn17 ecs how17)
            have k18 : New w17 (w17.alloc (.cells #[.slice Ql ls'.length ql, .slice Qt tb'.length qt, .int .i64 v2, .int .i64 v3, .int .i64 v4, .int .i64 v5, .slice Qp ps'.length qp] 26)) := (Kept.refl _ _).alloc _
            have hq18 := Blk.made w17 26 #[.slice Ql ls'.length ql, .slice Qt tb'.length qt, .int .i64 v2, .int .i64 v3, .int .i64 v4, .int .i64 v5, .slice Qp ps'.length qp]
            have hs17 := HN17.out.size
            have hs18 := k18.size
            obtain ⟨FQ, hoq18, hfq18⟩ : ∃ FQ : Nat → Prop, OwnC (w17.alloc (.cells #[.slice Ql ls'.length ql, .slice Qt tb'.length qt, .int .i64 v2, .int .i64 v3, .int .i64 v4, .int .i64 v5, .slice Qp ps'.length qp] 26)) FQ ⟨ls', tb', v2, v3, v4, v5, ps'⟩ Ql ql Qt qt Qp qp ∧ ∀ g, FQ g → w16.heap.size ≤ g ∧ g < w17.heap.size := ⟨_, HQ17.out.small.kept k18 (fun _ _ e => e), fun g e => ⟨HFQ.out g e.1, e.2⟩⟩
            have hop18 := HOP16.out.kept (HN17.out.trans k18) (fun _ _ e => e)
            have hp18 := HP16.out.kept (HN17.out.trans k18) id
            have HFQ2 := Lib.hid hfq18
            clear hfq18
            have hn18 := (HN16.out.trans HN17.out).trans k18
            have hq18l := hq18.lt
            generalize w17.alloc (.cells #[.slice Ql ls'.length ql, .slice Qt tb'.length qt, .int .i64 v2, .int .i64 v3, .int .i64 v4, .int .i64 v5, .slice Qp ps'.length qp] 26) = w18 at *
            generalize w17.heap.size = qb at *
            have hall : ∀ W, New w18 W → New w18 W ∧ W.cell? ⟨g3, o3 + m, none⟩ = some (.int .u8 161) ∧ W.cell? ⟨g3, o3 + (m + 1), none⟩ = some (.int .u8 162) ∧ (convert 27 9 (.slice (some ⟨g3, o3, none⟩) m c3)).run Try.prog W = .ok (.string (ByteArray.mk mt.toArray)) W ∧ (convert 27 9 (.slice A m k)).run Try.prog W = .ok (.string (ByteArray.mk mt.toArray)) W := fun W hW => ⟨hW, ((hn18.trans hW).cell (p := ⟨g3, o3 + m, none⟩) hg3 id).trans HX0.out, ((hn18.trans hW).cell (p := ⟨g3, o3 + (m + 1), none⟩) hg3 id).trans HX1.out, str_of (P := Try.prog) (Code.news HH.out (hn18.trans hW)) 27 9 5 rfl rfl rfl, str_of (P := Try.prog) (Code.news HBT.out ((HN14.out.trans hn18).trans hW)) 27 9 5 rfl rfl rfl⟩
            generalize (ByteArray.mk mt.toArray) = sb at *
            obtain ⟨-, x0, x1, s1, s2⟩ := hall w18 (Kept.refl _ _)
            have HALL := Lib.hid hall
            clear hall
            have wm1 : IntKind.i64.wrap ((m : Int) + 1) = (m : Int) + 1 := IntWalk.i64_in _ (by omega)
            have hrow18 := HR3.out.new (by decide) hn18
            have hlec : m ≤ c3 := by omega
            have ib0 : (0 : Int) ≤ (m : Int) := by omega
            have ib1 : (m : Int) < ((m + 2 : Nat) : Int) := by omega
            have ib2 : (0 : Int) ≤ (m : Int) + 1 := by omega
            have ib3 : (m : Int) + 1 < ((m + 2 : Nat) : Int) := by omega
            have ib4 : (m : Int) < (m : Int) + 2 := by omega
            have ib5 : (m : Int) + 1 < (m : Int) + 2 := by omega
            have ib6 : ((m : Int) + 1).toNat = m + 1 := by omega
            have ib7 : m < m + 2 := by omega
            have ib8 : m + 1 < m + 2 := by omega
            have HQ18 := Lib.hid hq18
            have HOQ18 := Lib.hid hoq18
            have HOP18 := Lib.hid hop18
            have HP18 := Lib.hid hp18
            have HN18 := Lib.hid hn18
            have HROW18 := Lib.hid hrow18
            clear hq18 hoq18 hop18 hp18 hn18 hrow18
            clear k18 HN17 HN16 HFQ HQ17 HDECQ HOP16 HP16 HX0 HX1 HR3 HH
            go_wp2_with fail
            go_region_held3 (fun W => New w18 W ∧ W.cell? ⟨g3, o3 + m, none⟩ = some (.int .u8 161) ∧ W.cell? ⟨g3, o3 + (m + 1), none⟩ = some (.int .u8 162) ∧ (convert 27 9 (.slice (some ⟨g3, o3, none⟩) m c3)).run Try.prog W = .ok (.string sb) W ∧ (convert 27 9 (.slice A m k)).run Try.prog W = .ok (.string sb) W) (with_reducible first | exact HALL.out _ (by with_reducible assumption) | exact HALL.out _ (Kept.refl _ _).drew | exact HALL.out _ (Kept.refl _ _)) (fail)
            all_goals
              go_wp2_with fail
              have h19 : New w18 w18.drew := (Kept.refl _ _).drew
              have hrow19 := HROW18.out.new (by decide) h19
              have hn19 := HN18.out.trans h19
              have hp19 := HP18.out.kept h19 id
              have hq19 := HQ18.out.kept h19 id
              have hop19 := HOP18.out.kept h19 (fun _ _ e => e)
              have hoq19 := HOQ18.out.kept h19 (fun _ _ e => e)
              have hs19 := h19.size
              subst e3
              have HROW19 := Lib.hid hrow19
              have HN19 := Lib.hid hn19
              have HP19 := Lib.hid hp19
              have HQ19 := Lib.hid hq19
              have HOP19 := Lib.hid hop19
              have HOQ19 := Lib.hid hoq19
              clear hrow19 hn19 hp19 hq19 hop19 hoq19
              clear s1 s2 x0 x1 HALL h19 HROW18 HN18 HP18 HQ18 HOP18 HOQ18 wm1
              generalize w18.drew = w19 at *
              go_loopw [155] (fun i wr => ∃ (j : Nat) (xs : List Value), i = .int .i64 j ∧ j ≤ m + 2 ∧ Row wr 1 (some g3) (some ⟨g3, o3, none⟩) (m + 2) c3 xs ∧ Hid (∀ x ∈ xs, ∃ v : Int, x = .int .u8 v) ∧ Kept (fun g => g = g3) w19 wr) (fun i _ => (m + 2 - intOf i).toNat)
              case atStart =>
                refine ⟨0, _, rfl, Nat.zero_le _, HROW19.out, Lib.hid fun x hx => ?_, Kept.refl _ _⟩
                rcases List.mem_append.1 hx with hx | hx
                · obtain ⟨y, -, rfl⟩ := List.mem_map.1 hx
                  exact ⟨_, rfl⟩
                · simp only [List.mem_cons, List.not_mem_nil, or_false] at hx
                  rcases hx with rfl | rfl <;> exact ⟨_, rfl⟩
              case round =>
                obtain ⟨j, xs, rfl, hj, hrow, hall, hk⟩ := hrel
                clear HROW19
                by_cases hlt : j < m + 2
                · obtain ⟨g', o', e1, e2, h5, h6⟩ := hrow.at_pos (by omega)
                  injection e2 with e2
                  injection e2 with e3 e4
                  subst e3; subst e4
                  have hxl := hrow.length
                  have v0 := h5 j (by omega)
                  rw [List.getElem?_eq_getElem (by omega)] at v0
                  obtain ⟨v, hv⟩ := hall.out _ (List.getElem_mem (show j < xs.length by omega))
                  rw [hv] at v0
                  have f0 := (h6 j (by omega)).2
                  have hset := fun u => hrow.set (j := j) rfl (by omega) (.int .u8 u)
                  have hkk := fun u : Value => hk.setCell (p := ⟨g3, o3 + j, none⟩) (.inr rfl) u
                  have HSET := Lib.hid hset
                  have HKK := Lib.hid hkk
                  clear hrow hk h5 h6 hset hkk hv hxl
                  go_wp2_with fail
                  exact ⟨⟨j + 1, _, by go_num, by omega, HSET.out _, Lib.hid fun x hx => by
                    rcases List.mem_or_eq_of_mem_set hx with hx | rfl
                    · exact hall.out x hx
                    · exact ⟨_, rfl⟩, HKK.out _⟩, by simp [intOf]; omega⟩
                · have hgl : w14.heap.size ≤ pb ∧ pb < w16.heap.size ∧ w16.heap.size ≤ qb ∧ qb < w18.heap.size ∧ w18.heap.size ≤ w19.heap.size := ⟨by omega, by omega, by omega, by omega, by omega⟩
                  obtain ⟨l1, l2, l3, l4, l5⟩ := hgl
                  have hfp : ∀ g, FP g → w14.heap.size ≤ g ∧ g < pb := HFP2.out
                  have hfq : ∀ g, FQ g → w16.heap.size ≤ g ∧ g < qb := HFQ2.out
                  have l6 := hk.size
                  have hpw := HP19.out.kept hk (by omega)
                  have hqw := HQ19.out.kept hk (by omega)
                  have hopw := HOP19.out.kept hk (fun g e e' => by have := hfp g e; omega)
                  have hoqw := HOQ19.out.kept hk (fun g e e' => by have := hfq g e; omega)
                  have hnw := (HN14.out.trans HN19.out).step hk (fun g hg e => by omega)
                  have hbw := HBT.out.kept hnw (Nat.le_refl _) (fun _ _ e => e)
                  have hrdec := HRD.out wr (hbw.more hnw.size)
                  have hjl : m + 2 ≤ j := by omega
                  have HL := Lib.hid (And.intro HN14.out.size (And.intro l1 (And.intro l2 (And.intro l3 (And.intro l4 (Nat.le_trans l5 l6))))))
                  have HPW := Lib.hid hpw
                  have HQW := Lib.hid hqw
                  have HOPW := Lib.hid hopw
                  have HOQW := Lib.hid hoqw
                  have HNW := Lib.hid hnw
                  have HRDEC := Lib.hid hrdec
                  have HFP := Lib.hid hfp
                  have HFQ := Lib.hid hfq
                  clear hpw hqw hopw hoqw hnw hrdec hfp hfq
                  clear hrow hall hk hlt hj hbw l1 l2 l3 l4 l5 l6 HP19 HQ19 HOP19 HOQ19 HN19 HBT HN14 HRD HFP2 HFQ2 hs14 hs15 hs16 hs17 hs18 hs19 hp16l hq18l hg3 hg3lo
                  go_upto_region 39 with (go_at_call 19; refine HRDEC.out.mono ?_; rintro e w20 ⟨cs20, Fd, rfl, hown20, hF20, hn20⟩; obtain ⟨Rl, rl, Rt, rt, Rp, rp, ecs, how20⟩ := own_open hown20; obtain rfl : cs20 = (confC ⟨ls', tb', v2, v3, v4, v5, ps'⟩ Rl rl Rt rt Rp rp).toArray := Array.ext' ecs; unfold confC; simp only; have HO20 := Lib.hid how20; have HFD20 := Lib.hid hF20; have HN20 := Lib.hid hn20; clear hown20 hF20 hn20 ecs how20)
                  have k21 : New w20 (w20.alloc (.cells #[.slice Rl ls'.length rl, .slice Rt tb'.length rt, .int .i64 v2, .int .i64 v3, .int .i64 v4, .int .i64 v5, .slice Rp ps'.length rp] 26)) := (Kept.refl _ _).alloc _
                  have hd21 := Blk.made w20 26 #[.slice Rl ls'.length rl, .slice Rt tb'.length rt, .int .i64 v2, .int .i64 v3, .int .i64 v4, .int .i64 v5, .slice Rp ps'.length rp]
                  have k021 := HN20.out.trans k21
                  have hod21 := HO20.out.kept k21 (fun _ _ e => e)
                  have hp21 := HPW.out.kept k021 id
                  have hq21 := HQW.out.kept k021 id
                  have hop21 := HOPW.out.kept k021 (fun _ _ e => e)
                  have hoq21 := HOQW.out.kept k021 (fun _ _ e => e)
                  have hn21 := HNW.out.trans k021
                  have m1 := HN20.out.size
                  have m2 := k21.size
                  have m3 := hd21.lt
                  generalize w20.alloc (.cells #[.slice Rl ls'.length rl, .slice Rt tb'.length rt, .int .i64 v2, .int .i64 v3, .int .i64 v4, .int .i64 v5, .slice Rp ps'.length rp] 26) = w21 at *
                  generalize w20.heap.size = db at *
                  have HSP := Lib.hid (fun W (hW : New w21 W) => same_read (hop21.read.news hW (Nat.le_refl _)) (hod21.read.news hW (Nat.le_refl _)) hW.size)
                  have HSQ := Lib.hid (fun W (hW : New w21 W) => same_read (hoq21.read.news hW (Nat.le_refl _)) (hod21.read.news hW (Nat.le_refl _)) hW.size)
                  unfold confC at HSP HSQ
                  simp only at HSP HSQ
                  have a0 := hp21.cell 0
                  have a1 := hp21.cell 1
                  have a2 := hp21.cell 2
                  have a3 := hp21.cell 3
                  have a4 := hp21.cell 4
                  have a5 := hp21.cell 5
                  have a6 := hp21.cell 6
                  simp only [List.getElem?_toArray, List.getElem?_cons_zero, List.getElem?_cons_succ] at a0 a1 a2 a3 a4 a5 a6
                  have b0 := hq21.cell 0
                  have b1 := hq21.cell 1
                  have b2 := hq21.cell 2
                  have b3 := hq21.cell 3
                  have b4 := hq21.cell 4
                  have b5 := hq21.cell 5
                  have b6 := hq21.cell 6
                  simp only [List.getElem?_toArray, List.getElem?_cons_zero, List.getElem?_cons_succ] at b0 b1 b2 b3 b4 b5 b6
                  have d0 := hd21.cell 0
                  have d1 := hd21.cell 1
                  have d2 := hd21.cell 2
                  have d3 := hd21.cell 3
                  have d4 := hd21.cell 4
                  have d5 := hd21.cell 5
                  have d6 := hd21.cell 6
                  simp only [List.getElem?_toArray, List.getElem?_cons_zero, List.getElem?_cons_succ] at d0 d1 d2 d3 d4 d5 d6
                  have HB3 := Lib.hid (fun W (hW : New w21 W) => show Blk W pb 26 #[.slice Pl ls'.length pl, .slice Pt tb'.length pt, .int .i64 v2, .int .i64 v3, .int .i64 v4, .int .i64 v5, .slice Pp ps'.length pp] ∧ Blk W qb 26 #[.slice Ql ls'.length ql, .slice Qt tb'.length qt, .int .i64 v2, .int .i64 v3, .int .i64 v4, .int .i64 v5, .slice Qp ps'.length qp] ∧ Blk W db 26 #[.slice Rl ls'.length rl, .slice Rt tb'.length rt, .int .i64 v2, .int .i64 v3, .int .i64 v4, .int .i64 v5, .slice Rp ps'.length rp] from ⟨hp21.kept hW id, hq21.kept hW id, hd21.kept hW id⟩)
                  have HOD21 := Lib.hid hod21
                  have HOP21 := Lib.hid hop21
                  have HOQ21 := Lib.hid hoq21
                  have HN21 := Lib.hid hn21
                  clear hod21 hop21 hoq21 hn21
                  clear hp21 hq21 hd21 k21 k021 HO20 HPW HQW HOPW HOQW HRDEC
                  have HSP1 := Lib.hid (HSP.out w21 (Kept.refl _ _))
                  go_upto_region 41 with (first
                    | (go_at_call 20
                       with_reducible refine HSP1.out.mono ?_
                       rintro e w22 ⟨rfl, hn22⟩
                       obtain ⟨-, hq22, hd22⟩ := HB3.out w22 hn22
                       have i0 := hq22.cell 0
                       have i1 := hq22.cell 1
                       have i2 := hq22.cell 2
                       have i3 := hq22.cell 3
                       have i4 := hq22.cell 4
                       have i5 := hq22.cell 5
                       have i6 := hq22.cell 6
                       simp only [List.getElem?_toArray, List.getElem?_cons_zero, List.getElem?_cons_succ] at i0 i1 i2 i3 i4 i5 i6
                       have j0 := hd22.cell 0
                       have j1 := hd22.cell 1
                       have j2 := hd22.cell 2
                       have j3 := hd22.cell 3
                       have j4 := hd22.cell 4
                       have j5 := hd22.cell 5
                       have j6 := hd22.cell 6
                       simp only [List.getElem?_toArray, List.getElem?_cons_zero, List.getElem?_cons_succ] at j0 j1 j2 j3 j4 j5 j6
                       have HN22 := Lib.hid hn22
                       have HSQ2 := Lib.hid (HSQ.out w22 hn22)
                       clear hq22 hd22 hn22)
                    | (go_at_call 20
                       with_reducible refine HSQ2.out.mono ?_
                       rintro e w23 ⟨rfl, hn23⟩
                       have HN23 := Lib.hid (HN22.out.trans hn23)
                       clear hn23))
                  clear a0 a1 a2 a3 a4 a5 a6 b0 b1 b2 b3 b4 b5 b6 d0 d1 d2 d3 d4 d5 d6 i0 i1 i2 i3 i4 i5 i6 j0 j1 j2 j3 j4 j5 j6 HSP1 HSQ2 HSP HSQ HN22
                  obtain ⟨l0, l1, l2, l3, l4, l5⟩ := HL.out
                  have hfp := HFP.out
                  have hfq := HFQ.out
                  have l23 := HN23.out.size
                  have hop23 := HOP21.out.kept HN23.out (fun _ _ e => e)
                  have hwr := wreck_any (mk := 55) (by decide) (by decide) hop23 (fun g e => by have := hfp g e; omega) HFD.out
                  unfold Wrecked confC at hwr
                  simp only at hwr
                  obtain ⟨hp23, hq23, hd23⟩ := HB3.out w23 HN23.out
                  have HPX := Lib.hid hp23
                  have HQX := Lib.hid hq23
                  have HDX := Lib.hid hd23
                  have HFPX := Lib.hid hfp
                  have a0 := hp23.cell 0
                  have a1 := hp23.cell 1
                  have a2 := hp23.cell 2
                  have a3 := hp23.cell 3
                  have a4 := hp23.cell 4
                  have a5 := hp23.cell 5
                  have a6 := hp23.cell 6
                  simp only [List.getElem?_toArray, List.getElem?_cons_zero, List.getElem?_cons_succ] at a0 a1 a2 a3 a4 a5 a6
                  have HWR := Lib.hid hwr
                  clear hwr
                  clear hop23 hp23 hq23 hd23 HOP21 hfp
                  go_upto_region 42 with (first
                    | (go_at_call 17
                       refine HWR.out.mono ?_
                       rintro e w24 ⟨⟨n1, n2, n3, n4, n5, n6, n7⟩, Ml, ml, Mt, mt2, Mp, mp, F24, rfl, how24, hmk24, hF24, hFl24, hk24⟩
                       have hp24 := HPX.out.kept hk24 (fun e => by have := HFPX.out _ e; omega)
                       have p0 := hp24.cell 0
                       have p1 := hp24.cell 1
                       have p2 := hp24.cell 2
                       have p3 := hp24.cell 3
                       have p4 := hp24.cell 4
                       have p5 := hp24.cell 5
                       have p6 := hp24.cell 6
                       simp only [List.getElem?_toArray, List.getElem?_cons_zero, List.getElem?_cons_succ] at p0 p1 p2 p3 p4 p5 p6
                       have g0 := hp24.free 0
                       have g1 := hp24.free 1
                       have g2 := hp24.free 2
                       have g3 := hp24.free 3
                       have g4 := hp24.free 4
                       have g5 := hp24.free 5
                       have g6 := hp24.free 6
                       have hb25 := set7_blk hp24 (.slice Ml n1.length ml) (.slice Mt n2.length mt2) (.int .i64 n3) (.int .i64 n4) (.int .i64 n5) (.int .i64 n6) (.slice Mp n7.length mp)
                       have hk25 := set7_kept w24 pb (.slice Ml n1.length ml) (.slice Mt n2.length mt2) (.int .i64 n3) (.int .i64 n4) (.int .i64 n5) (.int .i64 n6) (.slice Mp n7.length mp)
                       unfold set7 at hb25 hk25
                       have HB25 := Lib.hid hb25
                       have HK25 := Lib.hid hk25
                       have HOW24 := Lib.hid how24
                       have HMK24 := Lib.hid hmk24
                       have HF24 := Lib.hid hF24
                       have HFL24 := Lib.hid hFl24
                       have HK24 := Lib.hid hk24
                       clear how24 hmk24 hF24 hFl24 hk24 hp24 hb25 hk25)
                    | fail)
                  have hb25 := HB25.out
                  have hk25 := HK25.out
                  clear a0 a1 a2 a3 a4 a5 a6 p0 p1 p2 p3 p4 p5 p6 g0 g1 g2 g3 g4 g5 g6 HB25 HK25 HWR
                  generalize World.setCell _ ⟨pb, 6, none⟩ _ = w25 at *
                  have hfp := HFPX.out
                  have l24 := HK24.out.size
                  have l25 := hk25.size
                  have hf24 := HF24.out
                  have hoq25 := ((HOQ21.out.kept HN23.out (fun _ _ e => e)).kept HK24.out (fun g e e' => by have := hfq g e; have := hfp g e'; omega)).kept hk25 (fun g e e' => by have := hfq g e; omega)
                  have hod25 := ((HOD21.out.kept HN23.out (fun _ _ e => e)).kept HK24.out (fun g e e' => by have := HFD20.out g e; have := hfp g e'; omega)).kept hk25 (fun g e e' => by have := HFD20.out g e; omega)
                  have hq25 := (HQX.out.kept HK24.out (fun e => by have := hfp _ e; omega)).kept hk25 (by omega)
                  have hd25 := (HDX.out.kept HK24.out (fun e => by have := hfp _ e; omega)).kept hk25 (by omega)
                  have how25 := HOW24.out.kept hk25 (fun g e e' => by rcases hf24 g e with h | h; have := hfp g h; omega; omega)
                  have hn25 := ((HN21.out.trans HN23.out).step HK24.out (fun g hg e => by have := hfp g e; omega)).step hk25 (fun g hg e => by omega)
                  have hsame := same_read hoq25.read hod25.read (Nat.le_refl _)
                  unfold confC at hsame
                  simp only at hsame
                  have b0 := hq25.cell 0
                  have b1 := hq25.cell 1
                  have b2 := hq25.cell 2
                  have b3 := hq25.cell 3
                  have b4 := hq25.cell 4
                  have b5 := hq25.cell 5
                  have b6 := hq25.cell 6
                  simp only [List.getElem?_toArray, List.getElem?_cons_zero, List.getElem?_cons_succ] at b0 b1 b2 b3 b4 b5 b6
                  have d0 := hd25.cell 0
                  have d1 := hd25.cell 1
                  have d2 := hd25.cell 2
                  have d3 := hd25.cell 3
                  have d4 := hd25.cell 4
                  have d5 := hd25.cell 5
                  have d6 := hd25.cell 6
                  simp only [List.getElem?_toArray, List.getElem?_cons_zero, List.getElem?_cons_succ] at d0 d1 d2 d3 d4 d5 d6
                  have HB25 := Lib.hid hb25
                  have HQ25 := Lib.hid hq25
                  have HHF24 := Lib.hid (show ∀ g, F24 g → (w14.heap.size ≤ g ∧ g < pb) ∨ w23.heap.size ≤ g from fun g e => by rcases hf24 g e with h | h; exact .inl (hfp g h); exact .inr h)
                  have HSAME := Lib.hid hsame
                  have HOQ25 := Lib.hid hoq25
                  have HOW25 := Lib.hid how25
                  have HN25 := Lib.hid hn25
                  clear hsame hoq25 how25 hn25
                  clear hb25 hk25 hq25 hd25 hod25 HOW24 HOQ21 HOD21 HN21 HN23 HQX HDX HPX HB3 hf24 hfp HFPX HK24 HF24 HFL24
                  go_upto_region 44 with (go_at_call 20; refine HSAME.out.mono ?_; rintro e w26 ⟨rfl, hn26⟩; have HN26 := Lib.hid hn26; clear hn26)
                  clear b0 b1 b2 b3 b4 b5 b6 d0 d1 d2 d3 d4 d5 d6 HSAME
                  have l26 := HN26.out.size
                  have hfq := HFQ.out
                  have hf24 := HHF24.out
                  have hoq26 := HOQ25.out.kept HN26.out (fun _ _ e => e)
                  have hwr := wreck_any (mk := 66) (by decide) (by decide) hoq26 (fun g e => by have := hfq g e; omega) HFD.out
                  unfold Wrecked confC at hwr
                  simp only at hwr
                  have hq26 := HQ25.out.kept HN26.out id
                  have HQX := Lib.hid hq26
                  have HFQX := Lib.hid hfq
                  have b0 := hq26.cell 0
                  have b1 := hq26.cell 1
                  have b2 := hq26.cell 2
                  have b3 := hq26.cell 3
                  have b4 := hq26.cell 4
                  have b5 := hq26.cell 5
                  have b6 := hq26.cell 6
                  simp only [List.getElem?_toArray, List.getElem?_cons_zero, List.getElem?_cons_succ] at b0 b1 b2 b3 b4 b5 b6
                  have HWR := Lib.hid hwr
                  clear hwr
                  clear hoq26 hq26 HOQ25 HQ25 hfq hf24
                  go_upto_region 45 with (first
                    | (go_at_call 17
                       refine HWR.out.mono ?_
                       rintro e w27 ⟨⟨u1, u2, u3, u4, u5, u6, u7⟩, Ol, ol, Ot, ot, Op, op, F27, rfl, how27, hmk27, hF27, hFl27, hk27⟩
                       have hq27 := HQX.out.kept hk27 (fun e => by have := HFQX.out _ e; omega)
                       have p0 := hq27.cell 0
                       have p1 := hq27.cell 1
                       have p2 := hq27.cell 2
                       have p3 := hq27.cell 3
                       have p4 := hq27.cell 4
                       have p5 := hq27.cell 5
                       have p6 := hq27.cell 6
                       simp only [List.getElem?_toArray, List.getElem?_cons_zero, List.getElem?_cons_succ] at p0 p1 p2 p3 p4 p5 p6
                       have g0 := hq27.free 0
                       have g1 := hq27.free 1
                       have g2 := hq27.free 2
                       have g3 := hq27.free 3
                       have g4 := hq27.free 4
                       have g5 := hq27.free 5
                       have g6 := hq27.free 6
                       have hb28 := set7_blk hq27 (.slice Ol u1.length ol) (.slice Ot u2.length ot) (.int .i64 u3) (.int .i64 u4) (.int .i64 u5) (.int .i64 u6) (.slice Op u7.length op)
                       have hk28 := set7_kept w27 qb (.slice Ol u1.length ol) (.slice Ot u2.length ot) (.int .i64 u3) (.int .i64 u4) (.int .i64 u5) (.int .i64 u6) (.slice Op u7.length op)
                       unfold set7 at hb28 hk28
                       have HB28 := Lib.hid hb28
                       have HK28 := Lib.hid hk28
                       have HOW27 := Lib.hid how27
                       have HMK27 := Lib.hid hmk27
                       have HF27 := Lib.hid hF27
                       have HK27 := Lib.hid hk27
                       clear how27 hmk27 hF27 hFl27 hk27 hq27 hb28 hk28)
                    | fail)
                  have hb28 := HB28.out
                  have hk28 := HK28.out
                  clear b0 b1 b2 b3 b4 b5 b6 p0 p1 p2 p3 p4 p5 p6 g0 g1 g2 g3 g4 g5 g6 HB28 HK28 HWR
                  generalize World.setCell _ ⟨qb, 6, none⟩ _ = w28 at *
                  have hfq := HFQX.out
                  have hf24 := HHF24.out
                  have hf27 := HF27.out
                  have l27 := HK27.out.size
                  have l28 := hk28.size
                  have hop28 := ((HOW25.out.kept HN26.out (fun _ _ e => e)).kept HK27.out (fun g e e' => by have := hfq g e'; rcases hf24 g e with h | h <;> omega)).kept hk28 (fun g e e' => by rcases hf24 g e with h | h <;> omega)
                  have hoq28 := HOW27.out.kept hk28 (fun g e e' => by rcases hf27 g e with h | h; have := hfq g h; omega; omega)
                  have hp28 := ((HB25.out.kept HN26.out id).kept HK27.out (fun e => by have := hfq _ e; omega)).kept hk28 (by omega)
                  have hn28 := ((HN25.out.trans HN26.out).step HK27.out (fun g hg e => by have := hfq g e; omega)).step hk28 (fun g hg e => by omega)
                  have HM1 := Lib.hid (fun W (hW : New w28 W) => lawmarked_any (mk := 55) (by decide) (by decide) (hop28.read.news hW (Nat.le_refl _)) hW.size HMK24.out)
                  have HM2 := Lib.hid (fun W (hW : New w28 W) => lawmarked_any (mk := 66) (by decide) (by decide) (hoq28.read.news hW (Nat.le_refl _)) hW.size HMK27.out)
                  unfold confC at HM1 HM2
                  simp only at HM1 HM2
                  have HM1W := Lib.hid (HM1.out w28 (Kept.refl _ _))
                  have HSN := Lib.hid (fun W => rsame_code (SliceOf.nil Code.repIns W W.heap.size) (SliceOf.nil Code.repIns W W.heap.size))
                  have a0 := hp28.cell 0
                  have a1 := hp28.cell 1
                  have a2 := hp28.cell 2
                  have a3 := hp28.cell 3
                  have a4 := hp28.cell 4
                  have a5 := hp28.cell 5
                  have a6 := hp28.cell 6
                  simp only [List.getElem?_toArray, List.getElem?_cons_zero, List.getElem?_cons_succ] at a0 a1 a2 a3 a4 a5 a6
                  have HB28 := Lib.hid hb28
                  have HN28 := Lib.hid hn28
                  clear hn28
                  clear hb28 hk28 hp28 hop28 hoq28 HOW25 HOW27 HB25 HK27 HN25 HN26 HF27 HHF24 hfq hf24 hf27 HMK24 HMK27 HFQX HQX HM1
                  go_wp2_with (first
                    | (go_at_call 21
                       with_reducible refine HM1W.out.mono ?_
                       rintro e w29 ⟨rfl, hn29⟩
                       have hq29 := HB28.out.kept hn29 id
                       have b0 := hq29.cell 0
                       have b1 := hq29.cell 1
                       have b2 := hq29.cell 2
                       have b3 := hq29.cell 3
                       have b4 := hq29.cell 4
                       have b5 := hq29.cell 5
                       have b6 := hq29.cell 6
                       simp only [List.getElem?_toArray, List.getElem?_cons_zero, List.getElem?_cons_succ] at b0 b1 b2 b3 b4 b5 b6
                       have HN29 := Lib.hid hn29
                       have HM2W := Lib.hid (HM2.out w29 hn29)
                       clear hq29 hn29)
                    | (go_at_call 21
                       with_reducible refine HM2W.out.mono ?_
                       rintro e w30 ⟨rfl, hn30⟩
                       have HN30 := Lib.hid (HN29.out.trans hn30)
                       clear hn30)
                    | (go_at_call 22
                       refine (HSN.out _).mono ?_
                       rintro e w31 ⟨rfl, qd, rfl⟩))
                  go_ret
                  exact ⟨rfl, HN28.out.trans (HN30.out.drewN _)⟩
end Go.Proofs.Ytaefgljpdpigeaa.Conf
