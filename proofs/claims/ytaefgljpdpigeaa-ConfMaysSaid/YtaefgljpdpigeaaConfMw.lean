/- The walk of the law ConfMays (layer 14). -/
import Derived.Test.YtaefgljpdpigeaaConfRe
import Derived.Test.YtaefgljpdpigeaaConfRo
namespace Go.Proofs.Ytaefgljpdpigeaa.Conf
open Go.RowKit Go.Fb Go.CodeP Go.BytesP Go.ReaderP
set_option linter.unusedVariables false
theorem eqb_comm {α : Type} (a b : α) : eqb b a = eqb a b := by
  by_cases h : a = b
  · subst h; rfl
  · rw [eqb_false h, eqb_false (fun e => h e.symm)]
set_option maxRecDepth 100000 in
set_option maxHeartbeats 4000000 in
theorem mays_walk {w : World} {c d : Cf} {cs ds : Array Value} (h : repConf.cells w w.heap.size c cs.toList) (g : repConf.cells w w.heap.size d ds.toList) :
    Calls Try.prog 6 #[.agg cs, .agg ds] w fun e w' => e = .returned (.bool true) ∧ New w w' := by
  obtain ⟨Al, cl, At, ct, Ap, cp, ecs, h1, h2, h3, -⟩ := h
  obtain rfl : cs = (confC c Al cl At ct Ap cp).toArray := Array.ext' ecs
  obtain ⟨Bl, dl, Bt, dt, Bp, dp, eds, g1, g2, g3, -⟩ := g
  obtain rfl : ds = (confC d Bl dl Bt dt Bp dp).toArray := Array.ext' eds
  clear ecs eds
  have hc : ReadC w.heap.size w c Al cl At ct Ap cp := ⟨h1, h2, h3⟩
  have hd : ReadC w.heap.size w d Bl dl Bt dt Bp dp := ⟨g1, g2, g3⟩
  have HA := Lib.hid (fun W => awake_any W)
  have HM := Lib.hid (fun W (hW : New w W) => may_read (hc.news hW (Nat.le_refl _)) hW.size)
  have HRM := Lib.hid (fun W (hW : New w W) => let r := hc.news hW (Nat.le_refl _); rmay_any r.labs r.tab r.prs hW.size)
  have HE := Lib.hid (fun W (hW : New w W) => encode_read (hc.news hW (Nat.le_refl _)) hW.size)
  have HRE := Lib.hid (fun W (hW : New w W) => let r := hc.news hW (Nat.le_refl _); rencode_any r.labs r.tab r.prs hW.size)
  have HCD := Lib.hid (fun W (hW : New w W) => skel_read (hc.news hW (Nat.le_refl _)) (hd.news hW (Nat.le_refl _)) hW.size)
  have HDC := Lib.hid (fun W (hW : New w W) => skel_read (hd.news hW (Nat.le_refl _)) (hc.news hW (Nat.le_refl _)) hW.size)
  have HCC := Lib.hid (fun W (hW : New w W) => skel_read (hc.news hW (Nat.le_refl _)) (hc.news hW (Nat.le_refl _)) hW.size)
  have HRCD := Lib.hid (fun W (hW : New w W) => let r := hc.news hW (Nat.le_refl _); let q := hd.news hW (Nat.le_refl _); rskeleton_any r.labs r.tab r.prs q.labs q.tab q.prs hW.size)
  clear h1 h2 h3 g1 g2 g3 hc hd
  rw [eqb_comm (skel c) (skel d)] at HDC
  rw [eqb_refl (skel c)] at HCC
  unfold Encoded at HE HRE
  unfold confC at *
  generalize eqb (skel c) (skel d) = z at *
  generalize (encC c) = eb at *
  generalize mayC c = mm at *
  generalize Value.slice Al c.labels.length cl = v0 at *
  generalize Value.slice At c.table.length ct = v1 at *
  generalize Value.int .i64 c.fuel = v2 at *
  generalize Value.int .i64 c.lane = v3 at *
  generalize Value.int .i64 c.locks = v4 at *
  generalize Value.int .i64 c.log = v5 at *
  generalize Value.slice Ap c.procs.length cp = v6 at *
  generalize Value.slice Bl d.labels.length dl = u0 at *
  generalize Value.slice Bt d.table.length dt = u1 at *
  generalize Value.int .i64 d.fuel = u2 at *
  generalize Value.int .i64 d.lane = u3 at *
  generalize Value.int .i64 d.locks = u4 at *
  generalize Value.int .i64 d.log = u5 at *
  generalize Value.slice Bp d.procs.length dp = u6 at *
  have ka : New w ((w.alloc (.cells #[v0, v1, v2, v3, v4, v5, v6] 26)).alloc (.cells #[u0, u1, u2, u3, u4, u5, u6] 26)) := ((Kept.refl _ _).alloc _).alloc _
  have hb := (Blk.made w 26 #[v0, v1, v2, v3, v4, v5, v6]).alloc (.cells #[u0, u1, u2, u3, u4, u5, u6] 26)
  have hd := Blk.made (w.alloc (.cells #[v0, v1, v2, v3, v4, v5, v6] 26)) 26 #[u0, u1, u2, u3, u4, u5, u6]
  rw [← size1] at hd
  have KA := Lib.hid ka
  have HB := Lib.hid hb
  have HD := Lib.hid hd
  clear ka hb hd
  go_enter Try.func6, Try.ntmps6
  go_upto_region 3 with (go_at_call 9; refine (HA.out _).mono ?_; rintro e w1 ⟨rfl, hn1⟩)
  have hn1' := KA.out.trans hn1
  have hb1 := HB.out.kept hn1 id
  have hd1 := HD.out.kept hn1 id
  have y0 := hb1.cell 0
  have y1 := hb1.cell 1
  have y2 := hb1.cell 2
  have y3 := hb1.cell 3
  have y4 := hb1.cell 4
  have y5 := hb1.cell 5
  have y6 := hb1.cell 6
  simp only [List.getElem?_toArray, List.getElem?_cons_zero, List.getElem?_cons_succ] at y0 y1 y2 y3 y4 y5 y6
  have hmay := HM.out w1 hn1'
  have HN1' := Lib.hid hn1'
  have HB1 := Lib.hid hb1
  have HD1 := Lib.hid hd1
  have HMAY := Lib.hid hmay
  clear hn1' hb1 hd1 hmay
  clear hn1 KA HB HD HA HM
  go_upto_region 4 with (go_at_call 15; refine HMAY.out.mono ?_; rintro e w2 ⟨rfl, hn2⟩)
  clear y0 y1 y2 y3 y4 y5 y6 HMAY
  have hn2' := HN1'.out.trans hn2
  have hb2 := HB1.out.kept hn2 id
  have hd2 := HD1.out.kept hn2 id
  have y0 := hb2.cell 0
  have y1 := hb2.cell 1
  have y2 := hb2.cell 2
  have y3 := hb2.cell 3
  have y4 := hb2.cell 4
  have y5 := hb2.cell 5
  have y6 := hb2.cell 6
  simp only [List.getElem?_toArray, List.getElem?_cons_zero, List.getElem?_cons_succ] at y0 y1 y2 y3 y4 y5 y6
  have hmay := HRM.out w2 hn2'
  have HN2' := Lib.hid hn2'
  have HB2 := Lib.hid hb2
  have HD2 := Lib.hid hd2
  have HMAY := Lib.hid hmay
  clear hn2' hb2 hd2 hmay
  clear hn2 HN1' HB1 HD1 HRM
  go_upto_region 5 with (go_at_call 23; refine HMAY.out.mono ?_; rintro e w3 ⟨rfl, hn3⟩)
  clear y0 y1 y2 y3 y4 y5 y6 HMAY
  have hn3' := HN2'.out.trans hn3
  have hb3 := HB2.out.kept hn3 id
  have hd3 := HD2.out.kept hn3 id
  have y0 := hb3.cell 0
  have y1 := hb3.cell 1
  have y2 := hb3.cell 2
  have y3 := hb3.cell 3
  have y4 := hb3.cell 4
  have y5 := hb3.cell 5
  have y6 := hb3.cell 6
  simp only [List.getElem?_toArray, List.getElem?_cons_zero, List.getElem?_cons_succ] at y0 y1 y2 y3 y4 y5 y6
  have henc := HE.out w3 hn3'
  have HN3' := Lib.hid hn3'
  have HB3 := Lib.hid hb3
  have HD3 := Lib.hid hd3
  have HENC := Lib.hid henc
  clear hn3' hb3 hd3 henc
  clear hn3 HN2' HB2 HD2 HE
  go_upto_region 6 with (go_at_call 10; refine HENC.out.mono ?_; rintro e w4 ⟨r4, A4, k4, rfl, hrow4, -, hn4⟩)
  clear y0 y1 y2 y3 y4 y5 y6 HENC
  have hn4' := HN3'.out.trans hn4
  have hb4 := HB3.out.kept hn4 id
  have hd4 := HD3.out.kept hn4 id
  have y0 := hb4.cell 0
  have y1 := hb4.cell 1
  have y2 := hb4.cell 2
  have y3 := hb4.cell 3
  have y4 := hb4.cell 4
  have y5 := hb4.cell 5
  have y6 := hb4.cell 6
  simp only [List.getElem?_toArray, List.getElem?_cons_zero, List.getElem?_cons_succ] at y0 y1 y2 y3 y4 y5 y6
  have henc := HRE.out w4 hn4'
  have hs4 := (Row.bytes hrow4).2
  have HN4' := Lib.hid hn4'
  have HB4 := Lib.hid hb4
  have HD4 := Lib.hid hd4
  have HENC := Lib.hid henc
  have HS4 := Lib.hid hs4
  clear hn4' hb4 hd4 henc hs4
  clear hn4 HN3' HB3 HD3 HRE hrow4
  go_upto_region 7 with (go_at_call 18; refine HENC.out.mono ?_; rintro e w5 ⟨r5, A5, k5, rfl, hrow5, -, hn5⟩)
  clear y0 y1 y2 y3 y4 y5 y6 HENC
  have hn5' := HN4'.out.trans hn5
  have hb5 := HB4.out.kept hn5 id
  have hd5 := HD4.out.kept hn5 id
  have hs5 := (Row.bytes hrow5).2
  have hs4' := Code.news HS4.out hn5
  have hall : ∀ W, New w5 W → New w5 W ∧ W.cell? ⟨w.heap.size, 0, none⟩ = some v0 ∧ W.cell? ⟨w.heap.size, 1, none⟩ = some v1 ∧ W.cell? ⟨w.heap.size, 2, none⟩ = some v2 ∧ W.cell? ⟨w.heap.size, 3, none⟩ = some v3 ∧ W.cell? ⟨w.heap.size, 4, none⟩ = some v4 ∧ W.cell? ⟨w.heap.size, 5, none⟩ = some v5 ∧ W.cell? ⟨w.heap.size, 6, none⟩ = some v6 ∧ W.cell? ⟨w.heap.size + 1, 0, none⟩ = some u0 ∧ W.cell? ⟨w.heap.size + 1, 1, none⟩ = some u1 ∧ W.cell? ⟨w.heap.size + 1, 2, none⟩ = some u2 ∧ W.cell? ⟨w.heap.size + 1, 3, none⟩ = some u3 ∧ W.cell? ⟨w.heap.size + 1, 4, none⟩ = some u4 ∧ W.cell? ⟨w.heap.size + 1, 5, none⟩ = some u5 ∧ W.cell? ⟨w.heap.size + 1, 6, none⟩ = some u6 ∧ (convert 27 9 (.slice A4 eb.length k4)).run Try.prog W = .ok (.string (ByteArray.mk eb.toArray)) W ∧ (convert 27 9 (.slice A5 eb.length k5)).run Try.prog W = .ok (.string (ByteArray.mk eb.toArray)) W := fun W hW =>
    have p := hb5.kept hW id
    have q := hd5.kept hW id
    ⟨hW, p.cell 0, p.cell 1, p.cell 2, p.cell 3, p.cell 4, p.cell 5, p.cell 6, q.cell 0, q.cell 1, q.cell 2, q.cell 3, q.cell 4, q.cell 5, q.cell 6, str_of (P := Try.prog) (Code.news hs4' hW) 27 9 5 rfl rfl rfl, str_of (P := Try.prog) (Code.news hs5 hW) 27 9 5 rfl rfl rfl⟩
  generalize (ByteArray.mk eb.toArray) = sb at *
  have HCD5 := Lib.hid (fun W (hW : New w5 W) => (HCD.out W (hn5'.trans hW)).mono fun e w' (h : _ ∧ New W w') => And.intro h.1 (hW.trans h.2))
  have HDC5 := Lib.hid (fun W (hW : New w5 W) => (HDC.out W (hn5'.trans hW)).mono fun e w' (h : _ ∧ New W w') => And.intro h.1 (hW.trans h.2))
  have HCC5 := Lib.hid (fun W (hW : New w5 W) => (HCC.out W (hn5'.trans hW)).mono fun e w' (h : _ ∧ New W w') => And.intro h.1 (hW.trans h.2))
  have HRCD5 := Lib.hid (fun W (hW : New w5 W) => (HRCD.out W (hn5'.trans hW)).mono fun e w' (h : _ ∧ New W w') => And.intro h.1 (hW.trans h.2))
  obtain ⟨-, c0, c1, c2, c3, c4, c5, c6, d0, d1, d2, d3, d4, d5, d6, f4, f5⟩ := hall w5 (Kept.refl _ _)
  have HN5' := Lib.hid hn5'
  have HALL := Lib.hid hall
  clear hn5' hall
  clear hn5 hb5 hd5 hs5 hs4' hrow5 HN4' HB4 HD4 HS4 HCD HDC HCC HRCD
  go_region_held3 (fun W => New w5 W ∧ W.cell? ⟨w.heap.size, 0, none⟩ = some v0 ∧ W.cell? ⟨w.heap.size, 1, none⟩ = some v1 ∧ W.cell? ⟨w.heap.size, 2, none⟩ = some v2 ∧ W.cell? ⟨w.heap.size, 3, none⟩ = some v3 ∧ W.cell? ⟨w.heap.size, 4, none⟩ = some v4 ∧ W.cell? ⟨w.heap.size, 5, none⟩ = some v5 ∧ W.cell? ⟨w.heap.size, 6, none⟩ = some v6 ∧ W.cell? ⟨w.heap.size + 1, 0, none⟩ = some u0 ∧ W.cell? ⟨w.heap.size + 1, 1, none⟩ = some u1 ∧ W.cell? ⟨w.heap.size + 1, 2, none⟩ = some u2 ∧ W.cell? ⟨w.heap.size + 1, 3, none⟩ = some u3 ∧ W.cell? ⟨w.heap.size + 1, 4, none⟩ = some u4 ∧ W.cell? ⟨w.heap.size + 1, 5, none⟩ = some u5 ∧ W.cell? ⟨w.heap.size + 1, 6, none⟩ = some u6 ∧ (convert 27 9 (.slice A4 eb.length k4)).run Try.prog W = .ok (.string sb) W ∧ (convert 27 9 (.slice A5 eb.length k5)).run Try.prog W = .ok (.string sb) W) (with_reducible first | exact HALL.out _ (by with_reducible assumption) | exact HALL.out _ (Kept.refl _ _).drew | exact HALL.out _ (Kept.refl _ _)) (first
    | (go_at_call 24; with_reducible refine (HRCD5.out _ (by with_reducible first | assumption | exact (Kept.refl _ _).drew | exact Kept.refl _ _)).mono ?_; rintro e x9 ⟨rfl, hx9⟩)
    | (go_at_call 13; with_reducible refine (HCD5.out _ (by with_reducible first | assumption | exact (Kept.refl _ _).drew | exact Kept.refl _ _)).mono ?_; rintro e x9 ⟨rfl, hx9⟩)
    | (go_at_call 13; with_reducible refine (HDC5.out _ (by with_reducible first | assumption | exact (Kept.refl _ _).drew | exact Kept.refl _ _)).mono ?_; rintro e x9 ⟨rfl, hx9⟩)
    | (go_at_call 13; with_reducible refine (HCC5.out _ (by with_reducible first | assumption | exact (Kept.refl _ _).drew | exact Kept.refl _ _)).mono ?_; rintro e x9 ⟨rfl, hx9⟩))
  all_goals
    go_wp2_with fail
    go_ret
    exact ⟨rfl, HN5'.out.trans (by assumption)⟩
end Go.Proofs.Ytaefgljpdpigeaa.Conf
