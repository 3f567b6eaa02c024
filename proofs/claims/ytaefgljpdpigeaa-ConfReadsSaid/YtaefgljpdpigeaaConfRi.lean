/- The walk of the reference's Decode (layer 14). Printed by wip/tools/mkRi14.py. -/
import Derived.Test.YtaefgljpdpigeaaConfRh
namespace Go.Proofs.Ytaefgljpdpigeaa.Conf
open Go.RowKit Go.Fb Go.CodeP Go.BytesP Go.ReaderP
set_option linter.unusedVariables false
/-- What a reading leaves, by where the reader stands. -/
def outD (bs : List UInt8) (s' : St) (x : Cf) : Except (Int × Int) Cf :=
  match s' with
  | .error e => .error e
  | .ok p => if p < bs.length then .error (6, (p : Int)) else .ok x
theorem dec_run {bs : List UInt8} {s' : St} {x : Cf} (h : Run (bodyD bs) (rMark bs (.ok 0) markB) s' x) (hl : ¬ 1048576 < bs.length) :
    decD bs = outD bs s' x := by
  rw [mark_run] at h
  unfold decD
  rw [if_neg hl]
  cases hm : markD bs markB 0 with
  | error e => rw [hm] at h; simp only [Run] at h; subst h; rfl
  | ok p =>
    rw [hm] at h
    simp only [Run] at h ⊢
    cases hb : bodyD bs p with
    | error e => rw [hb] at h; simp only [Agr] at h; subst h; rfl
    | ok q =>
      obtain ⟨y, p'⟩ := q
      rw [hb] at h
      simp only [Agr] at h
      obtain ⟨rfl, rfl⟩ := h
      rfl
section
variable {w : World} {A : Option Addr} {n c : Nat} {bs : List UInt8}
set_option maxRecDepth 100000 in
set_option maxHeartbeats 4000000 in
theorem rdecode_any (hb : SliceOf Rep.byte w w.heap.size A n c bs) : Calls Try.prog 19 #[.slice A n c] w fun e w' => Decoded w w' e bs := by
  unfold Decoded
  have hn := hb.len
  have hbd := hb.bound
  have k1 : New w (w.alloc (.cells zeroC 26)) := (Kept.refl _ _).alloc _
  have b1 := Blk.made w 26 zeroC
  by_cases hbig : 1048576 < n
  · have hD : decD bs = .error (22, 1048576) := by unfold decD; rw [if_pos (by omega)]
    have gb : (1048576 : Int) < (n : Int) := by omega
    unfold zeroC at k1 b1
    have u0 := b1.cell 0
    have u1 := b1.cell 1
    have u2 := b1.cell 2
    have u3 := b1.cell 3
    have u4 := b1.cell 4
    have u5 := b1.cell 5
    have u6 := b1.cell 6
    simp only [List.getElem?_toArray, List.getElem?_cons_zero, List.getElem?_cons_succ] at u0 u1 u2 u3 u4 u5 u6
    have g0 := b1.free 0
    have g1 := b1.free 1
    have g2 := b1.free 2
    have g3 := b1.free 3
    have g4 := b1.free 4
    have g5 := b1.free 5
    have g6 := b1.free 6
    have K1 := Lib.hid k1
    have HD := Lib.hid hD
    clear k1 hD
    clear hb hn hbd b1 hbig
    go_enter Try.func19, Try.ntmps19
    go_wp2_with fail
    refine bodyPost_ret (v := .tuple #[.agg #[.slice none 0 0, .slice none 0 0, .int .i64 0, .int .i64 0, .int .i64 0, .int .i64 0, .slice none 0 0], .int .i64 22, .int .i64 1048576]) (by simp [results, Try.results19, go_sem, u0, u1, u2, u3, u4, u5, u6]) rfl ?_
    refine ⟨zeroC, fun _ => False, ?_, ?_, fun _ h => h.elim, K1.out⟩
    · unfold decE; rw [HD.out]; rfl
    · unfold decL; rw [HD.out]; exact own_zero _
  · have gb : decide ((1048576 : Int) < (n : Int)) = false := by simp; omega
    have gb2 : (n : Int) ≤ 1048576 := by omega
    have k2 := k1.alloc (.cells #[.slice A n c, .int .i64 0, .int .i64 0, .int .i64 0] 77)
    have b2 := Blk.made (w.alloc (.cells zeroC 26)) 77 #[.slice A n c, .int .i64 0, .int .i64 0, .int .i64 0]
    have b12 := b1.alloc (.cells #[.slice A n c, .int .i64 0, .int .i64 0, .int .i64 0] 77)
    rw [← size1] at b2
    have hr0 : Reader.At _ (w.heap.size + 1) A n c (.ok 0) := ⟨b2, Nat.zero_le _⟩
    have hrun := rconfig_any hr0 (hb.kept k2 (Nat.le_refl _) (fun _ _ h => h)) (Nat.le_succ _)
    unfold RefEnd at hrun
    unfold zeroC at k2 b12 hrun
    have hbl : ¬ 1048576 < bs.length := by omega
    have K2 := Lib.hid k2
    have B12 := Lib.hid b12
    have HRUN := Lib.hid hrun
    have HN := Lib.hid hn
    have HBL := Lib.hid hbl
    clear k2 b12 hrun hn hbl
    clear k1 b1 b2 hr0 hb hbig
    go_enter Try.func19, Try.ntmps19
    go_upto_region 5 with (go_at_call 50; refine HRUN.out.mono ?_; rintro e w3 ⟨x, s3, F, cs, rfl, hown, hF, hat, hbody, hk⟩; obtain ⟨Al, cl, Ad, ct, Ap, cp, ecs, how⟩ := own_open hown; obtain ⟨ls, tb, x2, x3, x4, x5, ps⟩ := x; obtain rfl : cs = (confC ⟨ls, tb, x2, x3, x4, x5, ps⟩ Al cl Ad ct Ap cp).toArray := Array.ext' ecs; unfold confC; simp only; have HB12W := Lib.hid (Blk.kept B12.out hk (by omega)); have HN3 := Lib.hid (K2.out.step hk fun i hi e => by omega); have HOWN := Lib.hid hown; have HF := Lib.hid hF; have HAT := Lib.hid hat; have HDEC := Lib.hid (dec_run hbody HBL.out); clear hown hF hat hbody hk how ecs)
    clear HRUN K2 B12
    have k4 : New w3 (w3.alloc (.cells #[.slice Al ls.length cl, .slice Ad tb.length ct, .int .i64 x2, .int .i64 x3, .int .i64 x4, .int .i64 x5, .slice Ap ps.length cp] 26)) := (Kept.refl _ _).alloc _
    have b4 := Blk.made w3 26 #[.slice Al ls.length cl, .slice Ad tb.length ct, .int .i64 x2, .int .i64 x3, .int .i64 x4, .int .i64 x5, .slice Ap ps.length cp]
    have hres := HB12W.out.kept k4 id
    have hn4 := HN3.out.trans k4
    have hat4 := HAT.out.kept k4 id
    have hown4 := confO.kept HOWN.out k4 (fun _ _ h => h)
    have h3 := HN3.out.size
    have hF4 : ∀ k, F k → w.heap.size + 2 ≤ k := fun k e => by have := (HF.out k e).1; simp only [World.alloc, Array.size_push] at this; omega
    unfold confC at hown4
    have hrw3 := HB12W.out.lt
    have hrr3 : w.heap.size + 1 < w3.heap.size := HAT.out.lt
    generalize w3.alloc (.cells #[.slice Al ls.length cl, .slice Ad tb.length ct, .int .i64 x2, .int .i64 x3, .int .i64 x4, .int .i64 x5, .slice Ap ps.length cp] 26) = w4 at *
    generalize w3.heap.size = xb at *
    clear HB12W HN3 HAT HOWN HF k4
    have HOWN4 := Lib.hid hown4
    have HF4 := Lib.hid hF4
    have HN4 := Lib.hid hn4
    clear hown4 hF4 hn4
    cases s3 with
    | error q =>
      have hD : decD bs = .error q := HDEC.out
      obtain ⟨a9, hrd9, he9⟩ := hat4
      have ge : (q.1 == 0) = false := by simpa using he9
      have ge2 : (q.1 != 0) = true := by simpa using he9
      have r0 := Blk.cell hrd9 0
      have r1 := Blk.cell hrd9 1
      have r2 := Blk.cell hrd9 2
      have r3 := Blk.cell hrd9 3
      simp only [List.getElem?_toArray, List.getElem?_cons_zero, List.getElem?_cons_succ] at r0 r1 r2 r3
      have y0 := hres.cell 0
      have y1 := hres.cell 1
      have y2 := hres.cell 2
      have y3 := hres.cell 3
      have y4 := hres.cell 4
      have y5 := hres.cell 5
      have y6 := hres.cell 6
      simp only [List.getElem?_toArray, List.getElem?_cons_zero, List.getElem?_cons_succ] at y0 y1 y2 y3 y4 y5 y6
      have g0 := hres.free 0
      have g1 := hres.free 1
      have g2 := hres.free 2
      have g3 := hres.free 3
      have g4 := hres.free 4
      have g5 := hres.free 5
      have g6 := hres.free 6
      have hb10 := Blk.drew (set7_blk hres (.slice none 0 0) (.slice none 0 0) (.int .i64 0) (.int .i64 0) (.int .i64 0) (.int .i64 0) (.slice none 0 0))
      have hk10 := (set7_kept w4 w.heap.size (.slice none 0 0) (.slice none 0 0) (.int .i64 0) (.int .i64 0) (.int .i64 0) (.int .i64 0) (.slice none 0 0)).drew
      unfold set7 at hb10 hk10
      have HB10 := Lib.hid hb10
      have HK10 := Lib.hid hk10
      have HD := Lib.hid hD
      have HRD9 := Lib.hid hrd9
      clear hb10 hk10 hD hrd9
      clear hres HDEC
      go_wp2_with fail
      go_region
      have hb10 := HB10.out
      have hk10 := HK10.out
      clear y0 y1 y2 y3 y4 y5 y6 g0 g1 g2 g3 g4 g5 g6 r0 r1 r2 r3 HB10 HK10
      generalize World.drew _ = W at *
      have y0 := hb10.cell 0
      have y1 := hb10.cell 1
      have y2 := hb10.cell 2
      have y3 := hb10.cell 3
      have y4 := hb10.cell 4
      have y5 := hb10.cell 5
      have y6 := hb10.cell 6
      simp only [List.getElem?_toArray, List.getElem?_cons_zero, List.getElem?_cons_succ] at y0 y1 y2 y3 y4 y5 y6
      go_wp2_with fail
      refine bodyPost_ret (v := .tuple #[.agg #[.slice none 0 0, .slice none 0 0, .int .i64 0, .int .i64 0, .int .i64 0, .int .i64 0, .slice none 0 0], .int .i64 q.1, .int .i64 q.2]) (by simp [results, Try.results19, go_sem, y0, y1, y2, y3, y4, y5, y6]) rfl ?_
      refine ⟨zeroC, fun _ => False, ?_, ?_, fun _ h => h.elim, ?_⟩
      · unfold decE; rw [HD.out]; rfl
      · unfold decL; rw [HD.out]; exact own_zero _
      · exact HN4.out.step hk10 fun i hi e => by omega
    | ok p =>
      obtain ⟨hrd4, hp⟩ := hat4
      have r1 := Blk.cell hrd4 1
      have r2 := Blk.cell hrd4 2
      simp only [List.getElem?_toArray, List.getElem?_cons_zero, List.getElem?_cons_succ] at r1 r2
      by_cases hlt : p < n
      · have hD : decD bs = .error (6, (p : Int)) := HDEC.out.trans (by unfold outD; simp only; rw [if_pos (by have := HN.out; omega)])
        have hfail := Reader.fail_ok (w.heap.size + 1) A n c p 6 p w4 hrd4 (by decide)
        have hres4 := hres
        clear hres
        have HD := Lib.hid hD
        have HFAIL := Lib.hid hfail
        have HRES4 := Lib.hid hres4
        have HRD4 := Lib.hid hrd4
        clear hD hfail hres4 hrd4
        go_upto_region 7 with (go_at_call 51; refine HFAIL.out.mono ?_; rintro e w5 ⟨rfl, hrf, hkf⟩; have HRF := Lib.hid hrf; have HKF := Lib.hid hkf; clear hrf hkf)
        clear r1 r2 HFAIL
        have hrd9 := HRF.out
        have hres := HRES4.out.kept HKF.out (by omega)
        have hD := HD.out
        have HN4' := Lib.hid (HN4.out.step HKF.out fun i hi e => by omega)
        clear HD HRES4 HRD4 HN4
        rename Hid (New w w5) => HN4
        have r0 := Blk.cell hrd9 0
        have r1 := Blk.cell hrd9 1
        have r2 := Blk.cell hrd9 2
        have r3 := Blk.cell hrd9 3
        simp only [List.getElem?_toArray, List.getElem?_cons_zero, List.getElem?_cons_succ] at r0 r1 r2 r3
        have y0 := hres.cell 0
        have y1 := hres.cell 1
        have y2 := hres.cell 2
        have y3 := hres.cell 3
        have y4 := hres.cell 4
        have y5 := hres.cell 5
        have y6 := hres.cell 6
        simp only [List.getElem?_toArray, List.getElem?_cons_zero, List.getElem?_cons_succ] at y0 y1 y2 y3 y4 y5 y6
        have g0 := hres.free 0
        have g1 := hres.free 1
        have g2 := hres.free 2
        have g3 := hres.free 3
        have g4 := hres.free 4
        have g5 := hres.free 5
        have g6 := hres.free 6
        have hb10 := Blk.drew (set7_blk hres (.slice none 0 0) (.slice none 0 0) (.int .i64 0) (.int .i64 0) (.int .i64 0) (.int .i64 0) (.slice none 0 0))
        have hk10 := (set7_kept w5 w.heap.size (.slice none 0 0) (.slice none 0 0) (.int .i64 0) (.int .i64 0) (.int .i64 0) (.int .i64 0) (.slice none 0 0)).drew
        unfold set7 at hb10 hk10
        have HB10 := Lib.hid hb10
        have HK10 := Lib.hid hk10
        have HD := Lib.hid hD
        have HRD9 := Lib.hid hrd9
        clear hb10 hk10 hD hrd9
        clear hres HDEC
        go_wp2_with fail
        go_region
        have hb10 := HB10.out
        have hk10 := HK10.out
        clear y0 y1 y2 y3 y4 y5 y6 g0 g1 g2 g3 g4 g5 g6 r0 r1 r2 r3 HB10 HK10
        generalize World.drew _ = W at *
        have y0 := hb10.cell 0
        have y1 := hb10.cell 1
        have y2 := hb10.cell 2
        have y3 := hb10.cell 3
        have y4 := hb10.cell 4
        have y5 := hb10.cell 5
        have y6 := hb10.cell 6
        simp only [List.getElem?_toArray, List.getElem?_cons_zero, List.getElem?_cons_succ] at y0 y1 y2 y3 y4 y5 y6
        go_wp2_with fail
        refine bodyPost_ret (v := .tuple #[.agg #[.slice none 0 0, .slice none 0 0, .int .i64 0, .int .i64 0, .int .i64 0, .int .i64 0, .slice none 0 0], .int .i64 6, .int .i64 (p : Int)]) (by simp [results, Try.results19, go_sem, y0, y1, y2, y3, y4, y5, y6]) rfl ?_
        refine ⟨zeroC, fun _ => False, ?_, ?_, fun _ h => h.elim, ?_⟩
        · unfold decE; rw [HD.out]; rfl
        · unfold decL; rw [HD.out]; exact own_zero _
        · exact HN4.out.step hk10 fun i hi e => by omega
      · have hD : decD bs = .ok ⟨ls, tb, x2, x3, x4, x5, ps⟩ := HDEC.out.trans (by unfold outD; simp only; rw [if_neg (by have := HN.out; omega)])
        have gd : (n : Int) ≤ (p : Int) := by omega
        have HD := Lib.hid hD
        clear hD
        clear hlt hp
        go_upto_region 9 with fail
        clear gd r1 r2
        have u0 := b4.cell 0
        have u1 := b4.cell 1
        have u2 := b4.cell 2
        have u3 := b4.cell 3
        have u4 := b4.cell 4
        have u5 := b4.cell 5
        have u6 := b4.cell 6
        simp only [List.getElem?_toArray, List.getElem?_cons_zero, List.getElem?_cons_succ] at u0 u1 u2 u3 u4 u5 u6
        have y0 := hres.cell 0
        have y1 := hres.cell 1
        have y2 := hres.cell 2
        have y3 := hres.cell 3
        have y4 := hres.cell 4
        have y5 := hres.cell 5
        have y6 := hres.cell 6
        simp only [List.getElem?_toArray, List.getElem?_cons_zero, List.getElem?_cons_succ] at y0 y1 y2 y3 y4 y5 y6
        have g0 := hres.free 0
        have g1 := hres.free 1
        have g2 := hres.free 2
        have g3 := hres.free 3
        have g4 := hres.free 4
        have g5 := hres.free 5
        have g6 := hres.free 6
        have hb10 := set7_blk hres (.slice Al ls.length cl) (.slice Ad tb.length ct) (.int .i64 x2) (.int .i64 x3) (.int .i64 x4) (.int .i64 x5) (.slice Ap ps.length cp)
        have hk10 := set7_kept w4 w.heap.size (.slice Al ls.length cl) (.slice Ad tb.length ct) (.int .i64 x2) (.int .i64 x3) (.int .i64 x4) (.int .i64 x5) (.slice Ap ps.length cp)
        unfold set7 at hb10 hk10
        have HB10 := Lib.hid hb10
        have HK10 := Lib.hid hk10
        clear hb10 hk10
        clear hres HDEC hrd4 b4
        go_wp2_with fail
        have hb10 := HB10.out
        have hk10 := HK10.out
        clear y0 y1 y2 y3 y4 y5 y6 g0 g1 g2 g3 g4 g5 g6 u0 u1 u2 u3 u4 u5 u6 HB10 HK10
        generalize World.setCell _ ⟨w.heap.size, 6, none⟩ _ = W at *
        have y0 := hb10.cell 0
        have y1 := hb10.cell 1
        have y2 := hb10.cell 2
        have y3 := hb10.cell 3
        have y4 := hb10.cell 4
        have y5 := hb10.cell 5
        have y6 := hb10.cell 6
        simp only [List.getElem?_toArray, List.getElem?_cons_zero, List.getElem?_cons_succ] at y0 y1 y2 y3 y4 y5 y6
        refine bodyPost_ret (v := .tuple #[.agg #[.slice Al ls.length cl, .slice Ad tb.length ct, .int .i64 x2, .int .i64 x3, .int .i64 x4, .int .i64 x5, .slice Ap ps.length cp], .int .i64 0, .int .i64 0]) (by simp [results, Try.results19, go_sem, y0, y1, y2, y3, y4, y5, y6]) rfl ?_
        refine ⟨#[.slice Al ls.length cl, .slice Ad tb.length ct, .int .i64 x2, .int .i64 x3, .int .i64 x4, .int .i64 x5, .slice Ap ps.length cp], ?_, F, ?_, fun k e => by have := HF4.out k e; omega, HN4.out.step hk10 fun i hi e => by omega⟩
        · unfold decE; rw [HD.out]
        · unfold decL; rw [HD.out]
          exact confO.kept HOWN4.out hk10 (fun k e e' => by have := HF4.out k e; omega)
end
end Go.Proofs.Ytaefgljpdpigeaa.Conf
