/- The walk of the law ConfReturns (layer 14). -/
import Derived.Test.YtaefgljpdpigeaaConfRo
namespace Go.Proofs.Ytaefgljpdpigeaa.Conf
open Go.RowKit Go.Fb Go.CodeP Go.BytesP Go.ReaderP
set_option linter.unusedVariables false
set_option maxRecDepth 100000 in
set_option maxHeartbeats 4000000 in
theorem returns_walk {w : World} {c : Cf} {cs : Array Value} {A : Option Addr} {n k : Nat} {bs : List UInt8} (h : repConf.cells w w.heap.size c cs.toList) (hb : SliceOf Rep.byte w w.heap.size A n k bs) :
    Calls Try.prog 8 #[.agg cs, .slice A n k] w fun e w' => e = .returned (.bool true) ∧ New w w' := by
  obtain ⟨Al, cl, At, ct, Ap, cp, ecs, h1, h2, h3, -⟩ := h
  obtain rfl : cs = (confC c Al cl At ct Ap cp).toArray := Array.ext' ecs
  clear ecs
  have hrc : ReadC w.heap.size w c Al cl At ct Ap cp := ⟨h1, h2, h3⟩
  have hfit := fits_read hrc
  have ka : New w (w.alloc (.cells (confC c Al cl At ct Ap cp).toArray 26)) := (Kept.refl _ _).alloc _
  have hbk := Blk.made w 26 (confC c Al cl At ct Ap cp).toArray
  have HNL := Lib.hid hb.len
  have HBO := Lib.hid hb.bound
  clear h1 h2 h3
  unfold confC at ka hbk ⊢
  have HA := Lib.hid (fun W => awake_any W)
  have HM := Lib.hid (fun (h : (mayC c).1 = 0) => may_zeroC h)
  have HRC := Lib.hid hrc
  have HFIT := Lib.hid hfit
  have KA := Lib.hid ka
  have HBK := Lib.hid hbk
  have HB := Lib.hid hb
  clear hrc hfit ka hbk hb
  go_enter Try.func8, Try.ntmps8
  go_upto_region 3 with (go_at_call 9; refine (HA.out _).mono ?_; rintro e w1 ⟨rfl, hn1⟩)
  have hr1 := HRC.out.news (KA.out.trans hn1) (Nat.le_refl _)
  have hb1 := HBK.out.kept hn1 id
  have hn1' := KA.out.trans hn1
  have hlt1 := hn1'.size
  clear hn1 HBK
  have henc := encode_read hr1 hlt1
  unfold Encoded at henc
  have y0 := hb1.cell 0
  have y1 := hb1.cell 1
  have y2 := hb1.cell 2
  have y3 := hb1.cell 3
  have y4 := hb1.cell 4
  have y5 := hb1.cell 5
  have y6 := hb1.cell 6
  simp only [List.getElem?_toArray, List.getElem?_cons_zero, List.getElem?_cons_succ] at y0 y1 y2 y3 y4 y5 y6
  have HENC := Lib.hid henc
  have HR1 := Lib.hid hr1
  have HB1 := Lib.hid hb1
  have HN1' := Lib.hid hn1'
  clear henc hr1 hb1 hn1'
  go_upto_region 4 with (go_at_call 10; refine HENC.out.mono ?_; rintro e w2 ⟨r2, A2, k2, rfl, hrow2, hf2, hn2⟩)
  clear y0 y1 y2 y3 y4 y5 y6 HENC
  have hr2 := HR1.out.news hn2 hlt1
  have hlt2 := Nat.le_trans hlt1 hn2.size
  have hb2 := HB1.out.kept hn2 id
  have hn2' := HN1'.out.trans hn2
  have hmay := may_read hr2 hlt2
  have y0 := hb2.cell 0
  have y1 := hb2.cell 1
  have y2 := hb2.cell 2
  have y3 := hb2.cell 3
  have y4 := hb2.cell 4
  have y5 := hb2.cell 5
  have y6 := hb2.cell 6
  simp only [List.getElem?_toArray, List.getElem?_cons_zero, List.getElem?_cons_succ] at y0 y1 y2 y3 y4 y5 y6
  have HMAY := Lib.hid hmay
  have HR2 := Lib.hid hr2
  have HB2 := Lib.hid hb2
  have HN2' := Lib.hid hn2'
  have HROW2 := Lib.hid hrow2
  clear hmay hr2 hb2 hn2' hrow2
  clear hf2 hn2 HR1 HB1 HN1'
  go_upto_region 5 with (go_at_call 15; refine HMAY.out.mono ?_; rintro e w3 ⟨rfl, hn3⟩)
  clear y0 y1 y2 y3 y4 y5 y6 HMAY
  have hr3 := HR2.out.news hn3 hlt2
  have hlt3 := Nat.le_trans hlt2 hn3.size
  have hb3 := HB2.out.kept hn3 id
  have hn3' := HN2'.out.trans hn3
  have hx3 := Code.news (Row.bytes HROW2.out).2 hn3
  clear hn3 HR2 HB2 HN2' HROW2
  have HR3 := Lib.hid hr3
  have HB3 := Lib.hid hb3
  have HN3' := Lib.hid hn3'
  have HX3 := Lib.hid hx3
  clear hr3 hb3 hn3' hx3
  have HMF := Lib.hid (fun (h : (mayC c).1 = 0) => And.intro (show encC c = encB c by unfold encC; rw [may_zeroC h, if_pos rfl]) (And.intro (dec_enc (may_zeroC h) HFIT.out) (length_encB (may_zeroC h))))
  have HNF := Lib.hid (fun (h : ¬ (mayC c).1 = 0) => show encC c = [] by unfold encC; rw [if_neg (fun e => h (congrArg Prod.fst e))])
  clear HFIT
  by_cases hm : (mayC c).1 = 0
  · obtain ⟨he, hd, hl⟩ := HMF.out hm
    have hm0 := HM.out hm
    clear HMF HNF HM HA
    have hdec := decode_any HX3.out
    unfold Decoded decE decL at hdec
    rw [he, hd] at hdec
    simp only at hdec
    rw [he, hm0]
    clear hm hm0 he hd HX3
    obtain ⟨hl1, hl2⟩ := hl
    generalize (encB c).length = el at *
    have hli : (el : Int) < 1048576 := by omega
    clear hl1 hl2
    have HDEC := Lib.hid hdec
    clear hdec
    go_upto_region 8 with fail
    go_upto_region 9 with (go_at_call 11; refine HDEC.out.mono ?_; rintro e w4 ⟨cs4, F4, rfl, hown4, hF4, hn4⟩; obtain ⟨Dl, dl, Dt, dt, Dp, dp, ecs, how4⟩ := own_open hown4; obtain rfl : cs4 = (confC c Dl dl Dt dt Dp dp).toArray := Array.ext' ecs; unfold confC; have HR4 := Lib.hid (HR3.out.news hn4 hlt3); have HB4 := Lib.hid (HB3.out.kept hn4 id); have HN4 := Lib.hid (HN3'.out.trans hn4); have HOW := Lib.hid how4.read; have hs4 := hn4.size; clear hown4 hF4 hn4 ecs how4 HB3 HR3 HN3' HDEC)
    have k5 : New w4 (w4.alloc (.cells #[.slice Dl c.labels.length dl, .slice Dt c.table.length dt, .int .i64 c.fuel, .int .i64 c.lane, .int .i64 c.locks, .int .i64 c.log, .slice Dp c.procs.length dp] 26)) := (Kept.refl _ _).alloc _
    have hd5 := Blk.made w4 26 #[.slice Dl c.labels.length dl, .slice Dt c.table.length dt, .int .i64 c.fuel, .int .i64 c.lane, .int .i64 c.locks, .int .i64 c.log, .slice Dp c.procs.length dp]
    have hb5 := HB4.out.kept k5 id
    have hr5 := HR4.out.news k5 (Nat.le_trans hlt3 hs4)
    have hn5 := HN4.out.trans k5
    have how5 := HOW.out.news k5 (Nat.le_refl _)
    have hlt5 := k5.size
    have hsame := same_read how5 (hr5.more (Nat.le_trans hlt3 hs4)) hlt5
    unfold confC at hsame
    clear k5 HB4 HR4 HN4 HOW how5 hr5 hlt5
    generalize w4.alloc (.cells #[.slice Dl c.labels.length dl, .slice Dt c.table.length dt, .int .i64 c.fuel, .int .i64 c.lane, .int .i64 c.locks, .int .i64 c.log, .slice Dp c.procs.length dp] 26) = w5 at *
    generalize w4.heap.size = da at *
    have z0 := hb5.cell 0
    have z1 := hb5.cell 1
    have z2 := hb5.cell 2
    have z3 := hb5.cell 3
    have z4 := hb5.cell 4
    have z5 := hb5.cell 5
    have z6 := hb5.cell 6
    have y0 := hd5.cell 0
    have y1 := hd5.cell 1
    have y2 := hd5.cell 2
    have y3 := hd5.cell 3
    have y4 := hd5.cell 4
    have y5 := hd5.cell 5
    have y6 := hd5.cell 6
    simp only [List.getElem?_toArray, List.getElem?_cons_zero, List.getElem?_cons_succ] at y0 y1 y2 y3 y4 y5 y6 z0 z1 z2 z3 z4 z5 z6
    have hl2 : ¬ (1048576:Int) ≤ (el:Int) := by omega
    have hl3 : decide ((1048576:Int) ≤ (el:Int)) = false := decide_eq_false hl2
    have hl4 : decide ((el:Int) ≥ (1048576:Int)) = false := decide_eq_false hl2
    have HSAME := Lib.hid hsame
    have HB5 := Lib.hid hb5
    have HD5 := Lib.hid hd5
    have HN5 := Lib.hid hn5
    clear hsame hb5 hd5 hn5
    go_upto_region 13 with (go_at_call 20; refine HSAME.out.mono ?_; rintro e w6 ⟨rfl, hn6⟩)
    clear y0 y1 y2 y3 y4 y5 y6 z0 z1 z2 z3 z4 z5 z6 HSAME HB5 HD5 hl2 hl3 hl4 hli hlt3 hs4 hlt1 hlt2
    have HNZ := Lib.hid (HN5.out.trans hn6)
    clear HN5 hn6
    obtain hwz := HNZ.out
    have hbz := Code.news HB.out hwz
    have hdec2 := decode_any hbz
    unfold Decoded decE decL at hdec2
    have hs2 := str_of (P := Try.prog) (hbz) 27 9 5 rfl rfl rfl
    cases hd : decD bs with
    | error x =>
      obtain ⟨x1, x2⟩ := x
      obtain ⟨b1, b2, b3⟩ := dec_bad hd
      rw [hd] at hdec2
      simp only at hdec2 b1 b2 b3
      rw [← HNL.out] at b3
      clear hd hs2 hbz hwz
      have b4 : x2 ≤ (n : Int) := b3
      clear b3
      have HDEC2 := Lib.hid hdec2
      clear hdec2
      go_upto_region 14 with (go_at_call 11; refine HDEC2.out.mono ?_; rintro e w8 ⟨cs8, F8, rfl, hown8, hF8, hn8⟩; obtain ⟨Dl, dl, Dt, dt, Dp, dp, ecs, how8⟩ := own_open hown8; obtain rfl : cs8 = (confC cfZ Dl dl Dt dt Dp dp).toArray := Array.ext' ecs; unfold confC cfZ; simp only [List.length_nil]; have HOW := Lib.hid how8.read; have HN8 := Lib.hid (HNZ.out.trans hn8); clear hown8 hF8 hn8 ecs how8 HDEC2)
      have k9 : New w8 (w8.alloc (.cells #[.slice Dl 0 dl, .slice Dt 0 dt, .int .i64 0, .int .i64 0, .int .i64 0, .int .i64 0, .slice Dp 0 dp] 26)) := (Kept.refl _ _).alloc _
      have hd9 := Blk.made w8 26 #[.slice Dl 0 dl, .slice Dt 0 dt, .int .i64 0, .int .i64 0, .int .i64 0, .int .i64 0, .slice Dp 0 dp]
      have hn9 := HN8.out.trans k9
      have how9 := HOW.out.news k9 (Nat.le_refl _)
      have hz9 : ReadC w8.heap.size (w8.alloc (.cells #[.slice Dl 0 dl, .slice Dt 0 dt, .int .i64 0, .int .i64 0, .int .i64 0, .int .i64 0, .slice Dp 0 dp] 26)) cfZ none 0 none 0 none 0 := ⟨SliceOf.nil _ _ _, SliceOf.nil _ _ _, SliceOf.nil _ _ _⟩
      have hlt9 := k9.size
      have hsame := same_read how9 hz9 hlt9
      unfold confC cfZ at hsame
      simp only [List.length_nil] at hsame
      clear k9 HN8 HOW hlt9 hz9 how9
      generalize w8.alloc (.cells #[.slice Dl 0 dl, .slice Dt 0 dt, .int .i64 0, .int .i64 0, .int .i64 0, .int .i64 0, .slice Dp 0 dp] 26) = w9 at *
      generalize w8.heap.size = db at *
      have y0 := hd9.cell 0
      have y1 := hd9.cell 1
      have y2 := hd9.cell 2
      have y3 := hd9.cell 3
      have y4 := hd9.cell 4
      have y5 := hd9.cell 5
      have y6 := hd9.cell 6
      simp only [List.getElem?_toArray, List.getElem?_cons_zero, List.getElem?_cons_succ] at y0 y1 y2 y3 y4 y5 y6
      have HSAME := Lib.hid hsame
      have HD9 := Lib.hid hd9
      have HN9 := Lib.hid hn9
      clear hsame hd9 hn9
      go_wp2_with (go_at_call 20; refine HSAME.out.mono ?_; rintro e u1 ⟨rfl, hu1⟩)
      go_ret
      exact ⟨rfl, HN9.out.trans hu1⟩
    | ok d =>
      obtain ⟨b1, b2, b3⟩ := dec_some hd
      rw [hd] at hdec2
      simp only at hdec2
      have hee : encC d = bs := by unfold encC; rw [if_pos b1]; exact b3
      have hle : n = bs.length := HNL.out
      clear hd hbz b2 b3 hwz
      have HDEC2 := Lib.hid hdec2
      have HS2 := Lib.hid hs2
      have HEE := Lib.hid hee
      have HLE := Lib.hid hle
      have B1 := Lib.hid b1
      clear hdec2 hs2 hee hle b1
      go_upto_region 14 with (go_at_call 11; refine HDEC2.out.mono ?_; rintro e w8 ⟨cs8, F8, rfl, hown8, hF8, hn8⟩; obtain ⟨Dl, dl, Dt, dt, Dp, dp, ecs, how8⟩ := own_open hown8; obtain rfl : cs8 = (confC d Dl dl Dt dt Dp dp).toArray := Array.ext' ecs; unfold confC; have HOW := Lib.hid how8.read; have HN8 := Lib.hid (HNZ.out.trans hn8); clear hown8 hF8 hn8 ecs how8 HDEC2)
      have k9 : New w8 (w8.alloc (.cells #[.slice Dl d.labels.length dl, .slice Dt d.table.length dt, .int .i64 d.fuel, .int .i64 d.lane, .int .i64 d.locks, .int .i64 d.log, .slice Dp d.procs.length dp] 26)) := (Kept.refl _ _).alloc _
      have hd9 := Blk.made w8 26 #[.slice Dl d.labels.length dl, .slice Dt d.table.length dt, .int .i64 d.fuel, .int .i64 d.lane, .int .i64 d.locks, .int .i64 d.log, .slice Dp d.procs.length dp]
      have hn9 := HN8.out.trans k9
      have how9 := HOW.out.news k9 (Nat.le_refl _)
      have hlt9 := k9.size
      have hmay := may_read how9 hlt9
      rw [B1.out] at hmay
      unfold confC at hmay
      clear k9 HN8 HOW
      generalize w8.alloc (.cells #[.slice Dl d.labels.length dl, .slice Dt d.table.length dt, .int .i64 d.fuel, .int .i64 d.lane, .int .i64 d.locks, .int .i64 d.log, .slice Dp d.procs.length dp] 26) = w9 at *
      generalize w8.heap.size = db at *
      have y0 := hd9.cell 0
      have y1 := hd9.cell 1
      have y2 := hd9.cell 2
      have y3 := hd9.cell 3
      have y4 := hd9.cell 4
      have y5 := hd9.cell 5
      have y6 := hd9.cell 6
      simp only [List.getElem?_toArray, List.getElem?_cons_zero, List.getElem?_cons_succ] at y0 y1 y2 y3 y4 y5 y6
      have HMAY := Lib.hid hmay
      have HD9 := Lib.hid hd9
      have HN9 := Lib.hid hn9
      have HOW9 := Lib.hid how9
      clear hmay hd9 hn9 how9
      go_upto_region 17 with (go_at_call 15; refine HMAY.out.mono ?_; rintro e u1 ⟨rfl, hu1⟩)
      clear y0 y1 y2 y3 y4 y5 y6 HMAY
      have hd10 := HD9.out.kept hu1 id
      have hr10 := HOW9.out.news hu1 hlt9
      have hlt10 := Nat.le_trans hlt9 hu1.size
      have hn10 := HN9.out.trans hu1
      have henc := encode_read hr10 hlt10
      unfold Encoded at henc
      rw [B1.out, HEE.out] at henc
      unfold confC at henc
      have y0 := hd10.cell 0
      have y1 := hd10.cell 1
      have y2 := hd10.cell 2
      have y3 := hd10.cell 3
      have y4 := hd10.cell 4
      have y5 := hd10.cell 5
      have y6 := hd10.cell 6
      simp only [List.getElem?_toArray, List.getElem?_cons_zero, List.getElem?_cons_succ] at y0 y1 y2 y3 y4 y5 y6
      have HENC := Lib.hid henc
      have HN10 := Lib.hid hn10
      clear henc hn10
      clear HD9 HOW9 HN9 hu1 hd10 hr10 hlt10 hlt9
      go_upto_region 18 with (go_at_call 10; refine HENC.out.mono ?_; rintro e u2 ⟨r2', A2', k2', rfl, hrow2, -, hu2⟩)
      clear y0 y1 y2 y3 y4 y5 y6 HENC
      have hn11 := HN10.out.trans hu2
      have s1 := str_of (P := Try.prog) (Row.bytes hrow2).2 27 9 5 rfl rfl rfl
      have s2 := str_of (P := Try.prog) (Code.news HB.out hn11) 27 9 5 rfl rfl rfl
      have HN11 := Lib.hid hn11
      clear hn11
      clear hrow2 hu2 HN10
      go_wp2_with fail
      go_ret
      exact ⟨rfl, HN11.out⟩
  · have he := HNF.out hm
    clear HMF HNF HM HA
    rw [he, List.length_nil]
    go_upto_region 13 with fail
    have HNZ := HN3'
    clear HN3' HR3 HB3 HX3 hlt3 hlt1 hlt2 hm
    obtain hwz := HNZ.out
    have hbz := Code.news HB.out hwz
    have hdec2 := decode_any hbz
    unfold Decoded decE decL at hdec2
    have hs2 := str_of (P := Try.prog) (hbz) 27 9 5 rfl rfl rfl
    cases hd : decD bs with
    | error x =>
      obtain ⟨x1, x2⟩ := x
      obtain ⟨b1, b2, b3⟩ := dec_bad hd
      rw [hd] at hdec2
      simp only at hdec2 b1 b2 b3
      rw [← HNL.out] at b3
      clear hd hs2 hbz hwz
      have b4 : x2 ≤ (n : Int) := b3
      clear b3
      have HDEC2 := Lib.hid hdec2
      clear hdec2
      go_upto_region 14 with (go_at_call 11; refine HDEC2.out.mono ?_; rintro e w8 ⟨cs8, F8, rfl, hown8, hF8, hn8⟩; obtain ⟨Dl, dl, Dt, dt, Dp, dp, ecs, how8⟩ := own_open hown8; obtain rfl : cs8 = (confC cfZ Dl dl Dt dt Dp dp).toArray := Array.ext' ecs; unfold confC cfZ; simp only [List.length_nil]; have HOW := Lib.hid how8.read; have HN8 := Lib.hid (HNZ.out.trans hn8); clear hown8 hF8 hn8 ecs how8 HDEC2)
      have k9 : New w8 (w8.alloc (.cells #[.slice Dl 0 dl, .slice Dt 0 dt, .int .i64 0, .int .i64 0, .int .i64 0, .int .i64 0, .slice Dp 0 dp] 26)) := (Kept.refl _ _).alloc _
      have hd9 := Blk.made w8 26 #[.slice Dl 0 dl, .slice Dt 0 dt, .int .i64 0, .int .i64 0, .int .i64 0, .int .i64 0, .slice Dp 0 dp]
      have hn9 := HN8.out.trans k9
      have how9 := HOW.out.news k9 (Nat.le_refl _)
      have hz9 : ReadC w8.heap.size (w8.alloc (.cells #[.slice Dl 0 dl, .slice Dt 0 dt, .int .i64 0, .int .i64 0, .int .i64 0, .int .i64 0, .slice Dp 0 dp] 26)) cfZ none 0 none 0 none 0 := ⟨SliceOf.nil _ _ _, SliceOf.nil _ _ _, SliceOf.nil _ _ _⟩
      have hlt9 := k9.size
      have hsame := same_read how9 hz9 hlt9
      unfold confC cfZ at hsame
      simp only [List.length_nil] at hsame
      clear k9 HN8 HOW hlt9 hz9 how9
      generalize w8.alloc (.cells #[.slice Dl 0 dl, .slice Dt 0 dt, .int .i64 0, .int .i64 0, .int .i64 0, .int .i64 0, .slice Dp 0 dp] 26) = w9 at *
      generalize w8.heap.size = db at *
      have y0 := hd9.cell 0
      have y1 := hd9.cell 1
      have y2 := hd9.cell 2
      have y3 := hd9.cell 3
      have y4 := hd9.cell 4
      have y5 := hd9.cell 5
      have y6 := hd9.cell 6
      simp only [List.getElem?_toArray, List.getElem?_cons_zero, List.getElem?_cons_succ] at y0 y1 y2 y3 y4 y5 y6
      have HSAME := Lib.hid hsame
      have HD9 := Lib.hid hd9
      have HN9 := Lib.hid hn9
      clear hsame hd9 hn9
      go_wp2_with (go_at_call 20; refine HSAME.out.mono ?_; rintro e u1 ⟨rfl, hu1⟩)
      go_ret
      exact ⟨rfl, HN9.out.trans hu1⟩
    | ok d =>
      obtain ⟨b1, b2, b3⟩ := dec_some hd
      rw [hd] at hdec2
      simp only at hdec2
      have hee : encC d = bs := by unfold encC; rw [if_pos b1]; exact b3
      have hle : n = bs.length := HNL.out
      clear hd hbz b2 b3 hwz
      have HDEC2 := Lib.hid hdec2
      have HS2 := Lib.hid hs2
      have HEE := Lib.hid hee
      have HLE := Lib.hid hle
      have B1 := Lib.hid b1
      clear hdec2 hs2 hee hle b1
      go_upto_region 14 with (go_at_call 11; refine HDEC2.out.mono ?_; rintro e w8 ⟨cs8, F8, rfl, hown8, hF8, hn8⟩; obtain ⟨Dl, dl, Dt, dt, Dp, dp, ecs, how8⟩ := own_open hown8; obtain rfl : cs8 = (confC d Dl dl Dt dt Dp dp).toArray := Array.ext' ecs; unfold confC; have HOW := Lib.hid how8.read; have HN8 := Lib.hid (HNZ.out.trans hn8); clear hown8 hF8 hn8 ecs how8 HDEC2)
      have k9 : New w8 (w8.alloc (.cells #[.slice Dl d.labels.length dl, .slice Dt d.table.length dt, .int .i64 d.fuel, .int .i64 d.lane, .int .i64 d.locks, .int .i64 d.log, .slice Dp d.procs.length dp] 26)) := (Kept.refl _ _).alloc _
      have hd9 := Blk.made w8 26 #[.slice Dl d.labels.length dl, .slice Dt d.table.length dt, .int .i64 d.fuel, .int .i64 d.lane, .int .i64 d.locks, .int .i64 d.log, .slice Dp d.procs.length dp]
      have hn9 := HN8.out.trans k9
      have how9 := HOW.out.news k9 (Nat.le_refl _)
      have hlt9 := k9.size
      have hmay := may_read how9 hlt9
      rw [B1.out] at hmay
      unfold confC at hmay
      clear k9 HN8 HOW
      generalize w8.alloc (.cells #[.slice Dl d.labels.length dl, .slice Dt d.table.length dt, .int .i64 d.fuel, .int .i64 d.lane, .int .i64 d.locks, .int .i64 d.log, .slice Dp d.procs.length dp] 26) = w9 at *
      generalize w8.heap.size = db at *
      have y0 := hd9.cell 0
      have y1 := hd9.cell 1
      have y2 := hd9.cell 2
      have y3 := hd9.cell 3
      have y4 := hd9.cell 4
      have y5 := hd9.cell 5
      have y6 := hd9.cell 6
      simp only [List.getElem?_toArray, List.getElem?_cons_zero, List.getElem?_cons_succ] at y0 y1 y2 y3 y4 y5 y6
      have HMAY := Lib.hid hmay
      have HD9 := Lib.hid hd9
      have HN9 := Lib.hid hn9
      have HOW9 := Lib.hid how9
      clear hmay hd9 hn9 how9
      go_upto_region 17 with (go_at_call 15; refine HMAY.out.mono ?_; rintro e u1 ⟨rfl, hu1⟩)
      clear y0 y1 y2 y3 y4 y5 y6 HMAY
      have hd10 := HD9.out.kept hu1 id
      have hr10 := HOW9.out.news hu1 hlt9
      have hlt10 := Nat.le_trans hlt9 hu1.size
      have hn10 := HN9.out.trans hu1
      have henc := encode_read hr10 hlt10
      unfold Encoded at henc
      rw [B1.out, HEE.out] at henc
      unfold confC at henc
      have y0 := hd10.cell 0
      have y1 := hd10.cell 1
      have y2 := hd10.cell 2
      have y3 := hd10.cell 3
      have y4 := hd10.cell 4
      have y5 := hd10.cell 5
      have y6 := hd10.cell 6
      simp only [List.getElem?_toArray, List.getElem?_cons_zero, List.getElem?_cons_succ] at y0 y1 y2 y3 y4 y5 y6
      have HENC := Lib.hid henc
      have HN10 := Lib.hid hn10
      clear henc hn10
      clear HD9 HOW9 HN9 hu1 hd10 hr10 hlt10 hlt9
      go_upto_region 18 with (go_at_call 10; refine HENC.out.mono ?_; rintro e u2 ⟨r2', A2', k2', rfl, hrow2, -, hu2⟩)
      clear y0 y1 y2 y3 y4 y5 y6 HENC
      have hn11 := HN10.out.trans hu2
      have s1 := str_of (P := Try.prog) (Row.bytes hrow2).2 27 9 5 rfl rfl rfl
      have s2 := str_of (P := Try.prog) (Code.news HB.out hn11) 27 9 5 rfl rfl rfl
      have HN11 := Lib.hid hn11
      clear hn11
      clear hrow2 hu2 HN10
      go_wp2_with fail
      go_ret
      exact ⟨rfl, HN11.out⟩
end Go.Proofs.Ytaefgljpdpigeaa.Conf
