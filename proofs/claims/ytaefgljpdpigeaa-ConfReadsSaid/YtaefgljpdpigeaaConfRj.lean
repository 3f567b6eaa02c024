/- The walk of the law ConfReads (layer 14). -/
import Derived.Test.YtaefgljpdpigeaaConfRi
namespace Go.Proofs.Ytaefgljpdpigeaa.Conf
open Go.RowKit Go.Fb Go.CodeP Go.BytesP Go.ReaderP
set_option linter.unusedVariables false
set_option maxRecDepth 100000 in
set_option maxHeartbeats 4000000 in
theorem reads_walk {w : World} {A : Option Addr} {n k : Nat} {bs : List UInt8} (hb : SliceOf Rep.byte w w.heap.size A n k bs) :
    Calls Try.prog 7 #[.slice A n k] w fun e w' => e = .returned (.bool true) ∧ New w w' := by
  have HA := Lib.hid (fun W => awake_any W)
  have HD := Lib.hid (fun W (hW : New w W) => decode_any (Code.news hb hW))
  have HR := Lib.hid (fun W (hW : New w W) => rdecode_any (Code.news hb hW))
  unfold Decoded at HD HR
  clear hb
  generalize decL bs = d at *
  generalize decE bs = e at *
  obtain ⟨e1, e2⟩ := e
  obtain ⟨ls, tb, x2, x3, x4, x5, ps⟩ := d
  go_enter Try.func7, Try.ntmps7
  go_upto_region 3 with (go_at_call 9; refine (HA.out _).mono ?_; rintro e w1 ⟨rfl, hn1⟩)
  have hdec := HD.out w1 hn1
  have HDEC := Lib.hid hdec
  have HN1 := Lib.hid hn1
  clear hdec hn1
  clear HD HA
  go_upto_region 4 with (go_at_call 11; refine HDEC.out.mono ?_; rintro e w2 ⟨cs2, F2, rfl, hown2, hF2, hn2⟩; obtain ⟨Dl, dl, Dt, dt, Dp, dp, ecs, how2⟩ := own_open hown2; obtain rfl : cs2 = (confC ⟨ls, tb, x2, x3, x4, x5, ps⟩ Dl dl Dt dt Dp dp).toArray := Array.ext' ecs; unfold confC; simp only; have HOW := Lib.hid how2.read; have HN2 := Lib.hid (HN1.out.trans hn2); clear hown2 hF2 hn2 ecs how2)
  clear HDEC HN1
  have k3 : New w2 (w2.alloc (.cells #[.slice Dl ls.length dl, .slice Dt tb.length dt, .int .i64 x2, .int .i64 x3, .int .i64 x4, .int .i64 x5, .slice Dp ps.length dp] 26)) := (Kept.refl _ _).alloc _
  have hd3 := Blk.made w2 26 #[.slice Dl ls.length dl, .slice Dt tb.length dt, .int .i64 x2, .int .i64 x3, .int .i64 x4, .int .i64 x5, .slice Dp ps.length dp]
  have hn3 := HN2.out.trans k3
  have how3 := (HOW.out.news k3 (Nat.le_refl _)).more k3.size
  clear k3 HN2 HOW
  generalize w2.alloc (.cells #[.slice Dl ls.length dl, .slice Dt tb.length dt, .int .i64 x2, .int .i64 x3, .int .i64 x4, .int .i64 x5, .slice Dp ps.length dp] 26) = w3 at *
  generalize w2.heap.size = da at *
  have hdec := HR.out w3 hn3
  have HDEC := Lib.hid hdec
  have HN3 := Lib.hid hn3
  have HD3 := Lib.hid hd3
  have HOW3 := Lib.hid how3
  clear hdec hn3 hd3 how3
  clear HR
  go_upto_region 5 with (go_at_call 19; refine HDEC.out.mono ?_; rintro e w4 ⟨cs4, F4, rfl, hown4, hF4, hn4⟩; obtain ⟨El, el, Et, et, Ep, ep, ecs, how4⟩ := own_open hown4; obtain rfl : cs4 = (confC ⟨ls, tb, x2, x3, x4, x5, ps⟩ El el Et et Ep ep).toArray := Array.ext' ecs; unfold confC; simp only; have HOW := Lib.hid how4.read; have HN4 := Lib.hid (HN3.out.trans hn4); have HD4 := Lib.hid (HD3.out.kept hn4 id); have HOWD := Lib.hid ((HOW3.out.news hn4 (Nat.le_refl _)).more hn4.size); clear hown4 hF4 hn4 ecs how4)
  clear HDEC HN3 HD3 HOW3
  have k5 : New w4 (w4.alloc (.cells #[.slice El ls.length el, .slice Et tb.length et, .int .i64 x2, .int .i64 x3, .int .i64 x4, .int .i64 x5, .slice Ep ps.length ep] 26)) := (Kept.refl _ _).alloc _
  have he5 := Blk.made w4 26 #[.slice El ls.length el, .slice Et tb.length et, .int .i64 x2, .int .i64 x3, .int .i64 x4, .int .i64 x5, .slice Ep ps.length ep]
  have hd5 := HD4.out.kept k5 id
  have hn5 := HN4.out.trans k5
  have hsame := same_read ((HOWD.out.news k5 (Nat.le_refl _)).more k5.size) ((HOW.out.news k5 (Nat.le_refl _)).more k5.size) (Nat.le_refl _)
  unfold confC at hsame
  simp only at hsame
  clear k5 HN4 HOW HD4 HOWD
  generalize w4.alloc (.cells #[.slice El ls.length el, .slice Et tb.length et, .int .i64 x2, .int .i64 x3, .int .i64 x4, .int .i64 x5, .slice Ep ps.length ep] 26) = w5 at *
  generalize w4.heap.size = db at *
  have z0 := hd5.cell 0
  have z1 := hd5.cell 1
  have z2 := hd5.cell 2
  have z3 := hd5.cell 3
  have z4 := hd5.cell 4
  have z5 := hd5.cell 5
  have z6 := hd5.cell 6
  have y0 := he5.cell 0
  have y1 := he5.cell 1
  have y2 := he5.cell 2
  have y3 := he5.cell 3
  have y4 := he5.cell 4
  have y5 := he5.cell 5
  have y6 := he5.cell 6
  simp only [List.getElem?_toArray, List.getElem?_cons_zero, List.getElem?_cons_succ] at y0 y1 y2 y3 y4 y5 y6 z0 z1 z2 z3 z4 z5 z6
  have HSAME := Lib.hid hsame
  have HN5 := Lib.hid hn5
  clear hsame hn5
  clear hd5 he5
  go_wp2_with (go_at_call 20; refine HSAME.out.mono ?_; rintro e w6 ⟨rfl, hn6⟩)
  go_ret
  exact ⟨rfl, HN5.out.trans hn6⟩
end Go.Proofs.Ytaefgljpdpigeaa.Conf
