/- The walk of the reference's Decode (layer 14). Printed by wip/tools/mkRi14.py. -/
import Derived.Test.YtaefgljpdpigeaaKpD
import Derived.Test.YtaefgljpdpigeaaConfM
import Derived.StillTailTactics
import Derived.Deep.QuietTactic
import Derived.Deep.RegionHeld3
import Derived.Deep.DeepCutAuto
import Derived.Test.YtaefgljpdpigeaaConfG
import Derived.Test.YtaefgljpdpigeaaConfAw
import Derived.Laws.IdiomStrings
import Derived.Lib.BufferRead
namespace Go.Proofs.Ytaefgljpdpigeaa.Conf
open Go.RowKit Go.Fb Go.CodeP Go.BytesP Go.ReaderP
set_option linter.unusedVariables false
/-- What a reading leaves, by where the reader stands. -/
def outD (bs : List UInt8) (s' : St) (x : Cf) : Except (Int × Int) Cf :=
  match s' with
  | .error e => .error e
  | .ok p => if p < bs.length then .error (6, (p : Int)) else .ok x
theorem dec_run {bs : List UInt8} {s' : St} {x : Cf} (h : Run (bodyD bs) (rMark bs (.ok 0) markB) s' x) (hl : ¬ 1048576 < bs.length) :
    decD bs = outD bs s' x := by
  rw [mark_run] at h
  unfold decD
  rw [if_neg hl]
  cases hm : markD bs markB 0 with
  | error e => rw [hm] at h; simp only [Run] at h; subst h; rfl
  | ok p =>
    rw [hm] at h
    simp only [Run] at h ⊢
    cases hb : bodyD bs p with
    | error e => rw [hb] at h; simp only [Agr] at h; subst h; rfl
    | ok q =>
      obtain ⟨y, p'⟩ := q
      rw [hb] at h
      simp only [Agr] at h
      obtain ⟨rfl, rfl⟩ := h
      rfl
section
variable {w : World} {A : Option Addr} {n c : Nat} {bs : List UInt8}
set_option maxRecDepth 100000 in
set_option maxHeartbeats 4000000 in
theorem rdecode_any (hb : SliceOf Rep.byte w w.heap.size A n c bs) : Calls Try.prog 19 #[.slice A n c] w fun e w' => Decoded w w' e bs := by
  unfold Decoded
  have hn := hb.len
  have hbd := hb.bound
  have k1 : New w (w.alloc (.cells zeroC 26)) := (Kept.refl _ _).alloc _
  have b1 := Blk.made w 26 zeroC
  by_cases hbig : 1048576 < n
  · have hD : decD bs = .error (22, 1048576) := by unfold decD; rw [if_pos (by omega)]
    have gb : (1048576 : Int) < (n : Int) := by omega
    unfold zeroC at k1 b1
    have u0 := b1.cell 0
    have u1 := b1.cell 1
    have u2 := b1.cell 2
    have u3 := b1.cell 3
    have u4 := b1.cell 4
    have u5 := b1.cell 5
    have u6 := b1.cell 6
    simp only [List.getElem?_toArray, List.getElem?_cons_zero, List.getElem?_cons_succ] at u0 u1 u2 u3 u4 u5 u6
    have g0 := b1.free 0
    have g1 := b1.free 1
    have g2 := b1.free 2
    have g3 := b1.free 3
    have g4 := b1.free 4
    have g5 := b1.free 5
    have g6 := b1.free 6
    have K1 := Lib.hid k1
    have HD := Lib.hid hD
    clear k1 hD
    clear hb hn hbd b1 hbig
    go_enter Try.func19, Try.ntmps19
    go_wp2_with fail
    refine bodyPost_ret (v := .tuple #[.agg #[.slice none 0 0, .slice none 0 0, .int .i64 0, .int .i64 0, .int .i64 0, .int .i64 0, .slice none 0 0], .int .i64 22, .int .i64 1048576]) (by simp [results, Try.results19, go_sem, u0, u1, u2, u3, u4, u5, u6]) rfl ?_
    refine ⟨zeroC, fun _ => False, ?_, ?_, fun _ h => h.elim, K1.out⟩
    · unfold decE; rw [HD.out]; rfl
    · unfold decL; rw [HD.out]; exact own_zero _
  · have gb : decide ((1048576 : Int) < (n : Int)) = false := by simp; omega
    have gb2 : (n : Int) ≤ 1048576 := by omega
    have k2 := k1.alloc (.cells #[.slice A n c, .int .i64 0, .int .i64 0, .int .i64 0] 77)
    have b2 := Blk.made (w.alloc (.cells zeroC 26)) 77 #[.slice A n c, .int .i64 0, .int .i64 0, .int .i64 0]
    have b12 := b1.alloc (.cells #[.slice A n c, .int .i64 0, .int .i64 0, .int .i64 0] 77)
    rw [← size1] at b2
    have hr0 : Reader.At _ (w.heap.size + 1) A n c (.ok 0) := ⟨b2, Nat.zero_le _⟩
    have hrun := rconfig_any hr0 (hb.kept k2 (Nat.le_refl _) (fun _ _ h => h)) (Nat.le_succ _)
    unfold RefEnd at hrun
    unfold zeroC at k2 b12 hrun
    have hbl : ¬ 1048576 < bs.length := by omega
    have K2 := Lib.hid k2
    have B12 := Lib.hid b12
    have HRUN := Lib.hid hrun
    have HN := Lib.hid hn
    have HBL := Lib.hid hbl
    clear k2 b12 hrun hn hbl
    clear k1 b1 b2 hr0 hb hbig
    go_enter Try.func19, Try.ntmps19
    go_upto_region 5 with (go_at_call 50; refine HRUN.out.mono ?_; rintro e w3 ⟨x, s3, F, cs, rfl, hown, hF, hat, hbody, hk⟩; obtain ⟨Al, cl, Ad, ct, Ap, cp, ecs, how⟩ := own_open hown; obtain ⟨ls, tb, x2, x3, x4, x5, ps⟩ := x; obtain rfl : cs = (confC ⟨ls, tb, x2, x3, x4, x5, ps⟩ Al cl Ad ct Ap cp).toArray := Array.ext' ecs; unfold confC; simp only; have HB12W := Lib.hid (Blk.kept B12.out hk (by omega)); have HN3 := Lib.hid (K2.out.step hk fun i hi e => by omega); have HOWN := Lib.hid hown; have HF := Lib.hid hF; have HAT := Lib.hid hat; have HDEC := Lib.hid (dec_run hbody HBL.out); clear hown hF hat hbody hk how ecs)
    clear HRUN K2 B12
    have k4 : New w3 (w3.alloc (.cells #[.slice Al ls.length cl, .slice Ad tb.length ct, .int .i64 x2, .int .i64 x3, .int .i64 x4, .int .i64 x5, .slice Ap ps.length cp] 26)) := (Kept.refl _ _).alloc _
    have b4 := Blk.made w3 26 #[.slice Al ls.length cl, .slice Ad tb.length ct, .int .i64 x2, .int .i64 x3, .int .i64 x4, .int .i64 x5, .slice Ap ps.length cp]
    have hres := HB12W.out.kept k4 id
    have hn4 := HN3.out.trans k4
    have hat4 := HAT.out.kept k4 id
    have hown4 := confO.kept HOWN.out k4 (fun _ _ h => h)
    have h3 := HN3.out.size
    have hF4 : ∀ k, F k → w.heap.size + 2 ≤ k := fun k e => by have := (HF.out k e).1; simp only [World.alloc, Array.size_push] at this; omega
    unfold confC at hown4
    have hrw3 := HB12W.out.lt
    have hrr3 : w.heap.size + 1 < w3.heap.size := HAT.out.lt
    generalize w3.alloc (.cells #[.slice Al ls.length cl, .slice Ad tb.length ct, .int .i64 x2, .int .i64 x3, .int .i64 x4, .int .i64 x5, .slice Ap ps.length cp] 26) = w4 at *
    generalize w3.heap.size = xb at *
    clear HB12W HN3 HAT HOWN HF k4
    have HOWN4 := Lib.hid hown4
    have HF4 := Lib.hid hF4
    have HN4 := Lib.hid hn4
    clear hown4 hF4 hn4
    cases s3 with
    | error q =>
      have hD : decD bs = .error q := HDEC.out
      obtain ⟨a9, hrd9, he9⟩ := hat4
      have ge : (q.1 == 0) = false := by simpa using he9
      have ge2 : (q.1 != 0) = true := by simpa using he9
      have r0 := Blk.cell hrd9 0
      have r1 := Blk.cell hrd9 1
      have r2 := Blk.cell hrd9 2
      have r3 := Blk.cell hrd9 3
      simp only [List.getElem?_toArray, List.getElem?_cons_zero, List.getElem?_cons_succ] at r0 r1 r2 r3
      have y0 := hres.cell 0
      have y1 := hres.cell 1
      have y2 := hres.cell 2
      have y3 := hres.cell 3
      have y4 := hres.cell 4
      have y5 := hres.cell 5
      have y6 := hres.cell 6
      simp only [List.getElem?_toArray, List.getElem?_cons_zero, List.getElem?_cons_succ] at y0 y1 y2 y3 y4 y5 y6
      have g0 := hres.free 0
      have g1 := hres.free 1
      have g2 := hres.free 2
      have g3 := hres.free 3
      have g4 := hres.free 4
      have g5 := hres.free 5
      have g6 := hres.free 6
      have hb10 := Blk.drew (set7_blk hres (.slice none 0 0) (.slice none 0 0) (.int .i64 0) (.int .i64 0) (.int .i64 0) (.int .i64 0) (.slice none 0 0))
      have hk10 := (set7_kept w4 w.heap.size (.slice none 0 0) (.slice none 0 0) (.int .i64 0) (.int .i64 0) (.int .i64 0) (.int .i64 0) (.slice none 0 0)).drew
      unfold set7 at hb10 hk10
      have HB10 := Lib.hid hb10
      have HK10 := Lib.hid hk10
      have HD := Lib.hid hD
      have HRD9 := Lib.hid hrd9
      clear hb10 hk10 hD hrd9
      clear hres HDEC
      go_wp2_with fail
      go_region
      have hb10 := HB10.out
      have hk10 := HK10.out
      clear y0 y1 y2 y3 y4 y5 y6 g0 g1 g2 g3 g4 g5 g6 r0 r1 r2 r3 HB10 HK10
      generalize World.drew _ = W at *
      have y0 := hb10.cell 0
      have y1 := hb10.cell 1
      have y2 := hb10.cell 2
      have y3 := hb10.cell 3
      have y4 := hb10.cell 4
      have y5 := hb10.cell 5
      have y6 := hb10.cell 6
      simp only [List.getElem?_toArray, List.getElem?_cons_zero, List.getElem?_cons_succ] at y0 y1 y2 y3 y4 y5 y6
      go_wp2_with fail
      refine bodyPost_ret (v := .tuple #[.agg #[.slice none 0 0, .slice none 0 0, .int .i64 0, .int .i64 0, .int .i64 0, .int .i64 0, .slice none 0 0], .int .i64 q.1, .int .i64 q.2]) (by simp [results, Try.results19, go_sem, y0, y1, y2, y3, y4, y5, y6]) rfl ?_
      refine ⟨zeroC, fun _ => False, ?_, ?_, fun _ h => h.elim, ?_⟩
      · unfold decE; rw [HD.out]; rfl
      · unfold decL; rw [HD.out]; exact own_zero _
      · exact HN4.out.step hk10 fun i hi e => by omega
    | ok p =>
      obtain ⟨hrd4, hp⟩ := hat4
      have r1 := Blk.cell hrd4 1
      have r2 := Blk.cell hrd4 2
      simp only [List.getElem?_toArray, List.getElem?_cons_zero, List.getElem?_cons_succ] at r1 r2
      by_cases hlt : p < n
      · have hD : decD bs = .error (6, (p : Int)) := HDEC.out.trans (by unfold outD; simp only; rw [if_pos (by have := HN.out; omega)])
        have hfail := Reader.fail_ok (w.heap.size + 1) A n c p 6 p w4 hrd4 (by decide)
        have hres4 := hres
        clear hres
        have HD := Lib.hid hD
        have HFAIL := Lib.hid hfail
        have HRES4 := Lib.hid hres4
        have HRD4 := Lib.hid hrd4
        clear hD hfail hres4 hrd4
        go_upto_region 7 with (go_at_call 51; refine HFAIL.out.mono ?_; rintro e w5 ⟨rfl, hrf, hkf⟩; have HRF := Lib.hid hrf; have HKF := Lib.hid hkf; clear hrf hkf)
        clear r1 r2 HFAIL
        have hrd9 := HRF.out
        have hres := HRES4.out.kept HKF.out (by omega)
        have hD := HD.out
        have HN4' := Lib.hid (HN4.out.step HKF.out fun i hi e => by omega)
        clear HD HRES4 HRD4 HN4
        rename Hid (New w w5) => HN4
        have r0 := Blk.cell hrd9 0
        have r1 := Blk.cell hrd9 1
        have r2 := Blk.cell hrd9 2
        have r3 := Blk.cell hrd9 3
        simp only [List.getElem?_toArray, List.getElem?_cons_zero, List.getElem?_cons_succ] at r0 r1 r2 r3
        have y0 := hres.cell 0
        have y1 := hres.cell 1
        have y2 := hres.cell 2
        have y3 := hres.cell 3
        have y4 := hres.cell 4
        have y5 := hres.cell 5
        have y6 := hres.cell 6
        simp only [List.getElem?_toArray, List.getElem?_cons_zero, List.getElem?_cons_succ] at y0 y1 y2 y3 y4 y5 y6
        have g0 := hres.free 0
        have g1 := hres.free 1
        have g2 := hres.free 2
        have g3 := hres.free 3
        have g4 := hres.free 4
        have g5 := hres.free 5
        have g6 := hres.free 6
        have hb10 := Blk.drew (set7_blk hres (.slice none 0 0) (.slice none 0 0) (.int .i64 0) (.int .i64 0) (.int .i64 0) (.int .i64 0) (.slice none 0 0))
        have hk10 := (set7_kept w5 w.heap.size (.slice none 0 0) (.slice none 0 0) (.int .i64 0) (.int .i64 0) (.int .i64 0) (.int .i64 0) (.slice none 0 0)).drew
        unfold set7 at hb10 hk10
        have HB10 := Lib.hid hb10
        have HK10 := Lib.hid hk10
        have HD := Lib.hid hD
        have HRD9 := Lib.hid hrd9
        clear hb10 hk10 hD hrd9
        clear hres HDEC
        go_wp2_with fail
        go_region
        have hb10 := HB10.out
        have hk10 := HK10.out
        clear y0 y1 y2 y3 y4 y5 y6 g0 g1 g2 g3 g4 g5 g6 r0 r1 r2 r3 HB10 HK10
        generalize World.drew _ = W at *
        have y0 := hb10.cell 0
        have y1 := hb10.cell 1
        have y2 := hb10.cell 2
        have y3 := hb10.cell 3
        have y4 := hb10.cell 4
        have y5 := hb10.cell 5
        have y6 := hb10.cell 6
        simp only [List.getElem?_toArray, List.getElem?_cons_zero, List.getElem?_cons_succ] at y0 y1 y2 y3 y4 y5 y6
        go_wp2_with fail
        refine bodyPost_ret (v := .tuple #[.agg #[.slice none 0 0, .slice none 0 0, .int .i64 0, .int .i64 0, .int .i64 0, .int .i64 0, .slice none 0 0], .int .i64 6, .int .i64 (p : Int)]) (by simp [results, Try.results19, go_sem, y0, y1, y2, y3, y4, y5, y6]) rfl ?_
        refine ⟨zeroC, fun _ => False, ?_, ?_, fun _ h => h.elim, ?_⟩
        · unfold decE; rw [HD.out]; rfl
        · unfold decL; rw [HD.out]; exact own_zero _
        · exact HN4.out.step hk10 fun i hi e => by omega
      · have hD : decD bs = .ok ⟨ls, tb, x2, x3, x4, x5, ps⟩ := HDEC.out.trans (by unfold outD; simp only; rw [if_neg (by have := HN.out; omega)])
        have gd : (n : Int) ≤ (p : Int) := by omega
        have HD := Lib.hid hD
        clear hD
        clear hlt hp
        go_upto_region 9 with fail
        clear gd r1 r2
        have u0 := b4.cell 0
        have u1 := b4.cell 1
        have u2 := b4.cell 2
        have u3 := b4.cell 3
        have u4 := b4.cell 4
        have u5 := b4.cell 5
        have u6 := b4.cell 6
        simp only [List.getElem?_toArray, List.getElem?_cons_zero, List.getElem?_cons_succ] at u0 u1 u2 u3 u4 u5 u6
        have y0 := hres.cell 0
        have y1 := hres.cell 1
        have y2 := hres.cell 2
        have y3 := hres.cell 3
        have y4 := hres.cell 4
        have y5 := hres.cell 5
        have y6 := hres.cell 6
        simp only [List.getElem?_toArray, List.getElem?_cons_zero, List.getElem?_cons_succ] at y0 y1 y2 y3 y4 y5 y6
        have g0 := hres.free 0
        have g1 := hres.free 1
        have g2 := hres.free 2
        have g3 := hres.free 3
        have g4 := hres.free 4
        have g5 := hres.free 5
        have g6 := hres.free 6
        have hb10 := set7_blk hres (.slice Al ls.length cl) (.slice Ad tb.length ct) (.int .i64 x2) (.int .i64 x3) (.int .i64 x4) (.int .i64 x5) (.slice Ap ps.length cp)
        have hk10 := set7_kept w4 w.heap.size (.slice Al ls.length cl) (.slice Ad tb.length ct) (.int .i64 x2) (.int .i64 x3) (.int .i64 x4) (.int .i64 x5) (.slice Ap ps.length cp)
        unfold set7 at hb10 hk10
        have HB10 := Lib.hid hb10
        have HK10 := Lib.hid hk10
        clear hb10 hk10
        clear hres HDEC hrd4 b4
        go_wp2_with fail
        have hb10 := HB10.out
        have hk10 := HK10.out
        clear y0 y1 y2 y3 y4 y5 y6 g0 g1 g2 g3 g4 g5 g6 u0 u1 u2 u3 u4 u5 u6 HB10 HK10
        generalize World.setCell _ ⟨w.heap.size, 6, none⟩ _ = W at *
        have y0 := hb10.cell 0
        have y1 := hb10.cell 1
        have y2 := hb10.cell 2
        have y3 := hb10.cell 3
        have y4 := hb10.cell 4
        have y5 := hb10.cell 5
        have y6 := hb10.cell 6
        simp only [List.getElem?_toArray, List.getElem?_cons_zero, List.getElem?_cons_succ] at y0 y1 y2 y3 y4 y5 y6
        refine bodyPost_ret (v := .tuple #[.agg #[.slice Al ls.length cl, .slice Ad tb.length ct, .int .i64 x2, .int .i64 x3, .int .i64 x4, .int .i64 x5, .slice Ap ps.length cp], .int .i64 0, .int .i64 0]) (by simp [results, Try.results19, go_sem, y0, y1, y2, y3, y4, y5, y6]) rfl ?_
        refine ⟨#[.slice Al ls.length cl, .slice Ad tb.length ct, .int .i64 x2, .int .i64 x3, .int .i64 x4, .int .i64 x5, .slice Ap ps.length cp], ?_, F, ?_, fun k e => by have := HF4.out k e; omega, HN4.out.step hk10 fun i hi e => by omega⟩
        · unfold decE; rw [HD.out]
        · unfold decL; rw [HD.out]
          exact confO.kept HOWN4.out hk10 (fun k e e' => by have := HF4.out k e; omega)
end
end Go.Proofs.Ytaefgljpdpigeaa.Conf

/- The walk of the reference's May (layer 14). -/
namespace Go.Proofs.Ytaefgljpdpigeaa.Conf
open Go.RowKit Go.Fb Go.CodeP
set_option linter.unusedVariables false
theorem rwithin_any (n a b : Int) (w : World) : Calls Try.prog 54 #[.int .i64 n, .int .i64 a, .int .i64 b] w fun e w' => e = .returned (.bool (withinB n a b)) ∧ w = w' := by
  have hcs : (n < a ∧ withinB n a b = false) ∨ (a ≤ n ∧ n ≤ b ∧ withinB n a b = true) ∨ (a ≤ n ∧ b < n ∧ withinB n a b = false) := by
    unfold withinB
    by_cases h1 : n < a
    · exact .inl ⟨h1, decide_eq_false (fun h => by omega)⟩
    · by_cases h2 : n ≤ b
      · exact .inr (.inl ⟨by omega, h2, decide_eq_true ⟨by omega, h2⟩⟩)
      · exact .inr (.inr ⟨by omega, by omega, decide_eq_false (fun h => by omega)⟩)
  generalize withinB n a b = res at *
  rcases hcs with ⟨a1, rfl⟩ | ⟨a1, b1, rfl⟩ | ⟨a1, b1, rfl⟩
  all_goals
    go_enter Try.func54, Try.ntmps54
    go_wp2_with fail
    go_ret
    exact ⟨by simp [Array.getD] <;> omega, rfl⟩
/-- What is wrong with a table, by the document. -/
def tabE (l : List Int) (parts : Int) : Int := if l.length = 0 then 1 else if 64 < l.length then 3 else if ∀ x ∈ l, withinB x 0 (parts - 1) = true then 0 else 2
theorem tab_many {l : List Int} {parts : Int} (h : manyE l.length 64 ≠ 0) : tabE l parts = manyE l.length 64 := by
  unfold tabE manyE
  by_cases h0 : l.length = 0
  · rw [if_pos h0, if_pos (by omega)]
  · by_cases h1 : 64 < l.length
    · rw [if_neg h0, if_pos h1, if_neg (by omega), if_pos (by omega)]
    · exact absurd (show manyE l.length 64 = 0 by unfold manyE; rw [if_neg (by omega), if_neg (by omega)]) h
theorem bad_within {parts : Int} (x : Int) : Slots.bad parts x = !withinB x 0 (parts - 1) := by
  unfold Slots.bad withinB
  rw [Bool.eq_iff_iff]
  simp
  omega
theorem tab_new {l : List Int} {parts : Int} (h : manyE l.length 64 = 0) (h1 : 1 ≤ parts) (h8 : parts ≤ 8) : tabE l parts = (Slots.newE l parts).1 := by
  have hm : l.length ≠ 0 ∧ l.length ≤ 64 := by
    unfold manyE at h
    split at h
    · exact absurd h (by decide)
    · split at h
      · exact absurd h (by decide)
      · omega
  unfold tabE Slots.newE
  rw [if_neg hm.1, if_neg (show ¬ 64 < l.length by omega), if_neg (show ¬ (parts < 1 ∨ 8 < parts ∨ l.length = 0) by omega), if_neg (show ¬ 64 < l.length by omega)]
  by_cases hf : l.findIdx (Slots.bad parts) < l.length
  · have h3 : ¬ ∀ x ∈ l, withinB x 0 (parts - 1) = true := fun hh => by
      have := List.findIdx_getElem (w := hf)
      rw [bad_within, hh _ (List.getElem_mem hf)] at this
      cases this
    rw [if_pos hf, if_neg h3]
  · have h3 : ∀ x ∈ l, withinB x 0 (parts - 1) = true := fun x hx => by
      have h2 := List.findIdx_eq_length.1 (show l.findIdx (Slots.bad parts) = l.length by have := List.findIdx_le_length (p := Slots.bad parts) (xs := l); omega) x hx
      rw [bad_within] at h2
      cases hw : withinB x 0 (parts - 1) with
      | true => rfl
      | false => rw [hw] at h2; cases h2
    rw [if_neg hf, if_pos h3]
section
variable {w : World} {B n c : Nat} {A : Option Addr} {l : List Int}
set_option maxHeartbeats 1000000 in
theorem rtables_any (parts : Int) (h0 : 0 ≤ parts) (h1 : parts ≤ 4611686018427387904) (hl : SliceOf (Rep.int .i64) w B A n c l) (hB : B ≤ w.heap.size) : Calls Try.prog 53 #[.slice A n c, .int .i64 parts] w fun e w' => e = .returned (.int .i64 (tabE l parts)) ∧ New w w' := by
  have hn := hl.len
  have hb := hl.bound
  have HWI := Lib.hid (fun x W => rwithin_any x 0 (parts - 1) W)
  have hsub : IntKind.i64.wrap (parts - 1) = parts - 1 := IntWalk.i64_in _ (by omega)
  by_cases a0 : n = 0
  · have E := Lib.hid (show tabE l parts = 1 by unfold tabE; rw [if_pos (by omega)])
    subst a0
    clear hn
    go_enter Try.func53, Try.ntmps53
    go_wp2_with fail
    go_ret
    rw [E.out]
    exact ⟨by simp [Array.getD], Kept.refl _ _⟩
  · by_cases a1 : 64 < n
    · have E := Lib.hid (show tabE l parts = 3 by unfold tabE; rw [if_neg (by omega), if_pos (by omega)])
      have a1' : (64 : Int) < (n : Int) := by omega
      clear hn
      go_enter Try.func53, Try.ntmps53
      go_wp2_with fail
      go_ret
      rw [E.out]
      exact ⟨by simp [Array.getD], Kept.refl _ _⟩
    · obtain ⟨g, o, rfl, -, -⟩ := hl.ints (by omega)
      have HLK := Lib.hid (fun W (hW : New w W) => hl.kept hW hB fun _ _ h => h)
      have HN := Lib.hid hn
      clear hl hn
      have a0' : ¬ (n : Int) = 0 := by omega
      have a1' : (n : Int) ≤ 64 := by omega
      have z1 : ((n : Int) == 0) = false := by simpa using a0'
      have z2 : decide ((64 : Int) < (n : Int)) = false := decide_eq_false (by omega)
      have HA := Lib.hid (And.intro a0 a1)
      clear a0 a1
      go_enter Try.func53, Try.ntmps53
      go_wp2_with fail
      go_loopw [5] (fun s wr => ∃ k : Nat, k ≤ n ∧ s = .int .i64 k ∧ New w wr ∧ Hid (∀ j (hj : j < l.length), j < k → withinB l[j] 0 (parts - 1) = true)) (fun s _ => (n - intOf s).toNat)
      case atStart => exact ⟨0, Nat.zero_le _, rfl, Kept.refl _ _, Lib.hid fun j _ h => absurd h (Nat.not_lt_zero _)⟩
      case round =>
        obtain ⟨k, hk, rfl, hnr, hno⟩ := hrel
        have HNR := Lib.hid hnr
        by_cases hlt : k < n
        · have hkl : k < l.length := by have := HN.out; omega
          obtain ⟨b1, o1, eA, -, hc⟩ := (HLK.out wr hnr).ints (by omega)
          injection eA with eA
          injection eA with e1 e2
          subst e1; subst e2
          have xk := hc k hkl
          have hwi := HWI.out l[k] wr
          clear hc hnr
          cases hw : withinB l[k] 0 (parts - 1) with
          | true =>
            have HNX := Lib.hid (show ∀ j (hj : j < l.length), j < k + 1 → withinB l[j] 0 (parts - 1) = true from fun j hj hji => by
              by_cases e : j = k
              · subst e; exact hw
              · exact hno.out j hj (by omega))
            rw [hw] at hwi
            clear hw hno
            generalize l[k] = x at *
            have HWJ := Lib.hid hwi
            clear hwi
            go_wp2_with (go_at_call 54; refine HWJ.out.mono ?_; rintro e w' ⟨rfl, rfl⟩)
            go_roundw
            case rel => exact ⟨k + 1, by omega, by go_num, HNR.out, HNX⟩
            case measure => simp [intOf]; omega
          | false =>
            rw [hw] at hwi
            have E := Lib.hid (show tabE l parts = 2 by
              unfold tabE
              rw [if_neg (by omega), if_neg (by have := HN.out; have := HA.out; omega), if_neg (fun h => ?_)]
              rw [h _ (List.getElem_mem hkl)] at hw
              cases hw)
            clear hw hno
            generalize l[k] = x at *
            have HWJ := Lib.hid hwi
            clear hwi
            go_wp2_with (go_at_call 54; refine HWJ.out.mono ?_; rintro e w' ⟨rfl, rfl⟩)
            go_ret
            rw [E.out]
            exact ⟨by simp [Array.getD], HNR.out⟩
        · obtain rfl : k = n := by omega
          have E := Lib.hid (show tabE l parts = 0 by
            unfold tabE
            rw [if_neg (by have := HN.out; have := HA.out; omega), if_neg (by have := HN.out; have := HA.out; omega), if_pos (fun x hx => ?_)]
            obtain ⟨j, hj, rfl⟩ := List.mem_iff_getElem.1 hx
            exact hno.out j hj (by have := HN.out; omega))
          clear hno hnr
          go_wp2_with fail
          go_ret
          rw [E.out]
          exact ⟨by simp [Array.getD], HNR.out⟩
end
end Go.Proofs.Ytaefgljpdpigeaa.Conf

/- The walk of the reference's May, whole (layer 14). -/
namespace Go.Proofs.Ytaefgljpdpigeaa.Conf
open Go.RowKit Go.Fb Go.CodeP
set_option linter.unusedVariables false
/-- Is a number of a config as it may be? -/
def okN (c : Cf) (k : Nat) : Bool := decide (numE c k = 0)
theorem ok2 (c : Cf) : withinB c.fuel 1 256 = okN c 2 := by
  unfold okN numE nums rangedE
  cases h : withinB c.fuel 1 256 <;> simp [h]
theorem ok3 (c : Cf) : withinB c.lane 1 64 = okN c 3 := by
  unfold okN numE nums rangedE
  cases h : withinB c.lane 1 64 <;> simp [h]
theorem ok4 (c : Cf) : withinB c.locks 0 8 = okN c 4 := by
  unfold okN numE nums rangedE
  cases h : withinB c.locks 0 8 <;> simp [h]
theorem ok5 (c : Cf) : withinB c.log 0 4096 = okN c 5 := by
  unfold okN numE nums rangedE
  cases h : withinB c.log 0 4096 <;> simp [h]
theorem num_two {c : Cf} {k : Nat} (h : numE c k ≠ 0) : numE c k = 2 := by
  unfold numE rangedE at h ⊢
  generalize (if (k : Int) = 2 then withinB ((nums c).getD k 0) 1 256 else if (k : Int) = 3 then withinB ((nums c).getD k 0) 1 64 else if (k : Int) = 4 then withinB ((nums c).getD k 0) 0 8 else if (k : Int) = 5 then withinB ((nums c).getD k 0) 0 4096 else true) = b at *
  cases b
  · rfl
  · exact absurd rfl h
theorem num_low (c : Cf) {k : Nat} (h : k < 2) : numE c k = 0 := by
  rcases (by omega : k = 0 ∨ k = 1) with rfl | rfl <;> rfl
section
variable {w : World} {B : Nat} {c : Cf} {Al At Ap : Option Addr} {cl ct cp : Nat}
set_option maxRecDepth 100000 in
set_option maxHeartbeats 4000000 in
theorem rmay_any (hl : SliceOf (Rep.int .u64) w B Al c.labels.length cl c.labels) (ht : SliceOf (Rep.int .i64) w B At c.table.length ct c.table) (hp : SliceOf repProc w B Ap c.procs.length cp c.procs) (hB : B ≤ w.heap.size) :
    Calls Try.prog 23 #[.agg (confC c Al cl At ct Ap cp).toArray] w fun e w' => e = .returned (.tuple #[.int .i64 (mayC c).1, .int .i64 (mayC c).2]) ∧ New w w' := by
  have hbl := hl.bound
  have hbt := ht.bound
  have hbp := hp.bound
  have k1 : New w (w.alloc (.cells (confC c Al cl At ct Ap cp).toArray 26)) := (Kept.refl _ _).alloc _
  have hb1 := Blk.made w 26 (confC c Al cl At ct Ap cp).toArray
  have HTB := Lib.hid (fun W (hW : New w W) => rtable_any (hl.kept hW hB fun _ _ h => h) (Nat.le_trans hB hW.size))
  have HTT := Lib.hid (fun W (hW : New w W) p h0 h1 => rtables_any p h0 h1 (ht.kept hW hB fun _ _ h => h) (Nat.le_trans hB hW.size))
  have HPK := Lib.hid (fun W (hW : New w W) => (hp.kept hW hB fun _ _ h => h).more (Nat.le_trans hB hW.size))
  have HWX := Lib.hid (fun n a b W => rwithin_any n a b W)
  unfold confC at k1 hb1 ⊢
  have K1 := Lib.hid k1
  have HB1 := Lib.hid hb1
  clear k1 hb1
  clear hl ht hp
  go_enter Try.func23, Try.ntmps23
  go_upto_region 1 with (fail)
  generalize w.alloc (.cells #[.slice Al c.labels.length cl, .slice At c.table.length ct, .int .i64 c.fuel, .int .i64 c.lane, .int .i64 c.locks, .int .i64 c.log, .slice Ap c.procs.length cp] 26) = w1 at *
  have z0 := HB1.out.cell 0
  have z1 := HB1.out.cell 1
  simp only [List.getElem?_toArray, List.getElem?_cons_zero, List.getElem?_cons_succ] at z0 z1
  go_upto_region 2 with (go_at_call 52; refine (HTB.out _ K1.out).mono ?_; rintro e w2 ⟨rfl, hn2⟩)
  have HN2 := Lib.hid (K1.out.trans hn2)
  have hb2 := HB1.out.kept hn2 id
  clear z0 z1
  have z0 := hb2.cell 0
  have z1 := hb2.cell 1
  simp only [List.getElem?_toArray, List.getElem?_cons_zero, List.getElem?_cons_succ] at z0 z1
  have HB2 := Lib.hid hb2
  clear hb2
  clear hn2
  by_cases h1 : (labE c.labels).1 = 0
  · rw [h1]
    have hll := lab_len h1
    have hmt := HTT.out w2 HN2.out c.labels.length (by omega) (by omega)
    by_cases h2 : tabE c.table c.labels.length = 0
    · have hG0 : Good0 c := by
        by_cases h3 : manyE c.table.length 64 = 0
        · exact ⟨h1, h3, by rw [← tab_new h3 (by omega) (by omega)]; exact h2⟩
        · rw [tab_many h3] at h2; exact absurd h2 h3
      have HG0 := Lib.hid hG0
      rw [h2] at hmt
      clear hG0 h2
      have HMT := Lib.hid hmt
      clear hmt
      go_upto_region 7 with (go_at_call 53; refine HMT.out.mono ?_; rintro e w3 ⟨rfl, hn3⟩)
      have HN3 := Lib.hid (HN2.out.trans hn3)
      have hb3 := HB2.out.kept hn3 id
      clear z0 z1 hn3
      have z2 := hb3.cell 2
      have z3 := hb3.cell 3
      have z4 := hb3.cell 4
      have z5 := hb3.cell 5
      simp only [List.getElem?_toArray, List.getElem?_cons_zero, List.getElem?_cons_succ] at z2 z3 z4 z5
      have HB3 := Lib.hid hb3
      clear hb3
      have HALL := Lib.hid (fun W (hW : New w3 W) => show New w3 W ∧ W.cell? ⟨w.heap.size, 2, none⟩ = some (.int .i64 c.fuel) ∧ W.cell? ⟨w.heap.size, 3, none⟩ = some (.int .i64 c.lane) ∧ W.cell? ⟨w.heap.size, 4, none⟩ = some (.int .i64 c.locks) ∧ W.cell? ⟨w.heap.size, 5, none⟩ = some (.int .i64 c.log) from ⟨hW, (HB3.out.kept hW id).cell 2, (HB3.out.kept hW id).cell 3, (HB3.out.kept hW id).cell 4, (HB3.out.kept hW id).cell 5⟩)
      have HTOT := Lib.hid (And.intro (ok2 c) (And.intro (ok3 c) (And.intro (ok4 c) (ok5 c))))
      clear z2 z3 z4 z5
      go_cut [7] (fun z wx => z = .pointer (some ⟨w3.heap.size, 0, none⟩) ∧ Blk wx w3.heap.size 79 #[.bool (okN c 2), .bool (okN c 3), .bool (okN c 4), .bool (okN c 5)] ∧ New w3 wx)
      case first =>
        go_region_held3 (fun W => New w3 W ∧ W.cell? ⟨w.heap.size, 2, none⟩ = some (.int .i64 c.fuel) ∧ W.cell? ⟨w.heap.size, 3, none⟩ = some (.int .i64 c.lane) ∧ W.cell? ⟨w.heap.size, 4, none⟩ = some (.int .i64 c.locks) ∧ W.cell? ⟨w.heap.size, 5, none⟩ = some (.int .i64 c.log)) (first | exact HALL.out _ (by assumption) | exact HALL.out _ (Kept.refl _ _) | exact HALL.out _ (Kept.refl _ _).drew | exact HALL.out _ ((Kept.refl _ _).alloc _) | exact HALL.out _ ((Kept.refl _ _).drew.alloc _)) (first
          | (go_at_call 54; refine (HWX.out _ _ _ _).mono ?_; rintro e w' ⟨rfl, rfl⟩))
        all_goals
          go_wp2_with fail
          go_meet
          case rel => exact ⟨rfl, by rw [← ok2 c, ← ok3 c, ← ok4 c, ← ok5 c]; exact (Blk.made w3 79 #[.bool (withinB c.fuel 1 256), .bool (withinB c.lane 1 64), .bool (withinB c.locks 0 8), .bool (withinB c.log 0 4096)]).kept (Kept.refl (fun _ => False) _).drew id, ((Kept.refl _ _).alloc _).drew⟩
      case rest =>
        obtain ⟨rfl, hc4, hn4⟩ := hcut
        have hb4 := HB3.out.kept hn4 id
        have hn4' := HN3.out.trans hn4
        have hgd : ∀ k, k < 4 → (#[.bool (okN c 2), .bool (okN c 3), .bool (okN c 4), .bool (okN c 5)] : Array Value)[k]? = some (.bool (okN c (k + 2))) := fun k hk => by
          rcases (by omega : k = 0 ∨ k = 1 ∨ k = 2 ∨ k = 3) with rfl | rfl | rfl | rfl <;> rfl
        have hlt3 : w3.heap.size < wc.heap.size := hc4.lt
        clear hn4
        generalize w3.heap.size = ab at *
        have HB4 := Lib.hid hb4
        have HN4' := Lib.hid hn4'
        have HC4 := Lib.hid hc4
        clear hb4 hn4' hc4
        clear HALL HTOT HB3 HN3
        go_wp2_with fail
        go_loopw [8] (fun s wr => ∃ k : Nat, k ≤ 4 ∧ s = .int .i64 k ∧ New w wr ∧ Blk wr w.heap.size 26 (confC c Al cl At ct Ap cp).toArray ∧ Blk wr ab 79 #[.bool (okN c 2), .bool (okN c 3), .bool (okN c 4), .bool (okN c 5)] ∧ Hid (∀ j, j < k + 2 → numE c j = 0)) (fun s _ => (4 - intOf s).toNat)
        case atStart => exact ⟨0, by omega, rfl, HN4'.out, HB4.out, HC4.out, Lib.hid fun j h => num_low c (by omega)⟩
        case round =>
          obtain ⟨k, hk, rfl, hnr, hbr, hcr, hno⟩ := hrel
          have HNR := Lib.hid hnr
          have HBR := Lib.hid hbr
          clear hnr hbr
          clear HN4' HB4 HC4
          by_cases hlt : k < 4
          · have zk := (hcr.cell k).trans (hgd k hlt)
            by_cases hq : numE c (k + 2) = 0
            · have HNX := Lib.hid (show ∀ j, j < k + 1 + 2 → numE c j = 0 from fun j hj => by
                by_cases e : j = k + 2
                · subst e; exact hq
                · exact hno.out j (by omega))
              rw [show okN c (k + 2) = true from decide_eq_true hq] at zk
              have HCR := Lib.hid hcr
              clear hcr
              clear hq hgd
              go_wp2_with fail
              go_roundw
              case rel => exact ⟨k + 1, by omega, by go_num, HNR.out, HBR.out, HCR.out, HNX⟩
              case measure => simp [intOf]; omega
            · have E := Lib.hid ((mayC_num HG0.out (k := k + 2) (by omega) hno.out hq).trans (by rw [num_two hq]))
              have hadd : IntKind.i64.wrap (2 + (k : Int)) = 2 + (k : Int) := IntWalk.i64_in _ (by omega)
              rw [show okN c (k + 2) = false from decide_eq_false hq] at zk
              clear hq hcr hgd
              go_wp2_with fail
              go_ret2
              rw [E.out]
              exact ⟨by simp [Array.getD]; omega, HNR.out⟩
          · obtain rfl : k = 4 := by omega
            rw [show ((4 : Nat) : Int) = 4 from rfl]
            have HNO := Lib.hid (show ∀ j, j < 6 → numE c j = 0 from hno.out)
            clear hcr hgd hno
            have z6 := HBR.out.cell 6
            unfold confC at z6
            simp only [List.getElem?_toArray, List.getElem?_cons_zero, List.getElem?_cons_succ] at z6
            by_cases q0 : c.procs.length = 0
            · have E := Lib.hid (show mayC c = (1, 6) by rw [mayC_many HG0.out HNO.out (by unfold manyE; rw [if_pos (by omega)]; decide)]; unfold manyE; rw [if_pos (by omega)])
              rw [q0] at z6
              go_wp2_with fail
              go_ret2
              rw [E.out]
              exact ⟨by simp [Array.getD], HNR.out⟩
            · by_cases q1 : 32 < c.procs.length
              · have hm3 : manyE c.procs.length 32 = 3 := by unfold manyE; rw [if_neg (by omega), if_pos (by omega)]
                have E := Lib.hid (show mayC c = (3, 6) by rw [mayC_many HG0.out HNO.out (by rw [hm3]; decide), hm3])
                have q1' : (32 : Int) < (c.procs.length : Int) := by omega
                have q0' : ((c.procs.length : Int) == 0) = false := by simpa using q0
                clear q0 q1
                go_wp2_with fail
                go_ret2
                rw [E.out]
                exact ⟨by simp [Array.getD], HNR.out⟩
              · have h4 : manyE c.procs.length 32 = 0 := by unfold manyE; rw [if_neg (by omega), if_neg (by omega)]
                have q1' : decide ((32 : Int) < (c.procs.length : Int)) = false := decide_eq_false (by omega)
                have q0' : ((c.procs.length : Int) == 0) = false := by simpa using q0
                have hpl : c.procs.length ≤ 32 := by omega
                clear q0 q1
                go_wp2_with fail
                clear z6
                go_loopw [9] (fun s wr => ∃ i : Nat, i ≤ c.procs.length ∧ s = .int .i64 i ∧ New w wr ∧ Blk wr w.heap.size 26 (confC c Al cl At ct Ap cp).toArray ∧ Hid (∀ j (hj : j < c.procs.length), j < i → procE c.labels.length c.locks c.procs[j] = 0)) (fun s _ => (c.procs.length - intOf s).toNat)
                case atStart => exact ⟨0, Nat.zero_le _, rfl, HNR.out, HBR.out, Lib.hid fun j hj h => absurd h (Nat.not_lt_zero _)⟩
                case round =>
                  obtain ⟨i, hi, rfl, hnr, hbr, hpn⟩ := hrel
                  clear HNR HBR
                  have z0 := hbr.cell 0
                  have z4 := hbr.cell 4
                  have z6 := hbr.cell 6
                  unfold confC at z0 z4 z6
                  simp only [List.getElem?_toArray, List.getElem?_cons_zero, List.getElem?_cons_succ] at z0 z4 z6
                  by_cases hlt : i < c.procs.length
                  · obtain ⟨b, o, eA, hbb, hpc⟩ := proc_at (HPK.out wr hnr) (by omega)
                    subst eA
                    obtain ⟨A', c', ⟨x0, x1⟩, x2, -⟩ := hpc i hlt
                    have hsub : IntKind.i64.wrap ((c.labels.length : Int) - 1) = (c.labels.length : Int) - 1 := IntWalk.i64_in _ (by omega)
                    have hadd : IntKind.i64.wrap (7 + (i : Int)) = 7 + (i : Int) := IntWalk.i64_in _ (by omega)
                    have HWI : Hid (∀ W, Calls Try.prog 54 #[.int .i64 c.procs[i].1, .int .i64 0, .int .i64 ((c.labels.length : Int) - 1)] W fun e w' => e = .returned (.bool (withinB c.procs[i].1 0 ((c.labels.length : Int) - 1))) ∧ w' = W) := Lib.hid (fun W => (HWX.out c.procs[i].1 0 ((c.labels.length : Int) - 1) W).mono fun e w' h => ⟨h.1, h.2.symm⟩)
                    have HCM := Lib.hid (fun W (hW : New wr W) => Code.ref_may A' c.procs[i].2.length c' c.procs[i].2 c.locks W ((x2.kept hW (Nat.le_refl _) fun _ _ h => h).more hW.size))
                    have hpe : procE c.labels.length c.locks c.procs[i] = if withinB c.procs[i].1 0 ((c.labels.length : Int) - 1) then (may c.procs[i].2 c.locks).1 else 2 := rfl
                    have HNR := Lib.hid hnr
                    have HBR := Lib.hid hbr
                    have HPE := Lib.hid hpe
                    have X2 := Lib.hid x2
                    clear hnr hbr hpe x2
                    clear hpc
                    have E1 := Lib.hid (fun h => mayC_proc HG0.out HNO.out h4 hlt hpn.out h)
                    have E2 := Lib.hid (fun (h : procE c.labels.length c.locks c.procs[i] = 0) => show ∀ j (hj : j < c.procs.length), j < i + 1 → procE c.labels.length c.locks c.procs[j] = 0 from fun j hj hji => by
                      by_cases e : j = i
                      · subst e; exact h
                      · exact hpn.out j hj (by omega))
                    clear h4
                    generalize procE c.labels.length c.locks c.procs[i] = pe at *
                    generalize c.procs[i] = pr at *
                    obtain ⟨pp, pl⟩ := pr
                    simp only at x0 x1 hsub HWI HCM
                    cases hw : withinB pp 0 ((c.labels.length : Int) - 1) with
                    | false =>
                      have E := Lib.hid (E1.out (by rw [HPE.out]; simp only; rw [hw, if_neg (by decide)]; decide))
                      have HPF := Lib.hid (show pe = 2 by rw [HPE.out]; simp only; rw [hw]; rfl)
                      rw [hw] at HWI
                      go_wp2_with fail
                      go_quiet (exact Calls.quiet_of_same (HWI.out _))
                      go_wp2_with fail
                      go_ret2
                      rw [E.out, HPF.out]
                      exact ⟨by simp [Array.getD], HNR.out.drewN _⟩
                    | true =>
                      rw [hw] at HWI
                      have hpf : pe = (may pl c.locks).1 := by rw [HPE.out]; simp only; rw [hw]; rfl
                      go_wp2_with fail
                      go_quiet (exact Calls.quiet_of_same (HWI.out _))
                      go_wp2_with fail
                      have hdq : New wr (wr.drewN nq) := (Kept.refl _ _).drewN _
                      have q1 := (hdq.cell (p := ⟨b, o + i * 2 + 1, none⟩) hbb id).trans x1
                      have hbq := HBR.out.kept hdq id
                      have q4 := hbq.cell 4
                      have q6 := hbq.cell 6
                      unfold confC at q4 q6
                      simp only [List.getElem?_toArray, List.getElem?_cons_zero, List.getElem?_cons_succ] at q4 q6
                      have HNQ := Lib.hid (HNR.out.trans hdq)
                      have HDQ := Lib.hid hdq
                      have HBQ := Lib.hid hbq
                      clear hdq hbq x0 x1 z0 z4 z6 HNR HBR
                      generalize wr.drewN nq = wq at *
                      have HS := Lib.hid (fun W (hW : New wq W) => show W.cell? ⟨b, o + i * 2 + 1, none⟩ = some (.slice A' pl.length c') ∧ W.cell? ⟨w.heap.size, 4, none⟩ = some (.int .i64 c.locks) ∧ W.cell? ⟨w.heap.size, 6, none⟩ = some (.slice (some ⟨b, o, none⟩) c.procs.length cp) from ⟨(hW.cell (p := ⟨b, o + i * 2 + 1, none⟩) (by have := HDQ.out.size; show b < _; omega) id).trans q1, ((HBQ.out.kept hW id).cell 4).trans (by unfold confC; rfl), ((HBQ.out.kept hW id).cell 6).trans (by unfold confC; rfl)⟩)
                      by_cases hm : (may pl c.locks).1 = 0
                      · have E3 := Lib.hid (E2.out (hpf.trans hm))
                        rw [hm] at HCM
                        clear hm hpf
                        go_region_held3 (fun W => W.cell? ⟨b, o + i * 2 + 1, none⟩ = some (.slice A' pl.length c') ∧ W.cell? ⟨w.heap.size, 4, none⟩ = some (.int .i64 c.locks) ∧ W.cell? ⟨w.heap.size, 6, none⟩ = some (.slice (some ⟨b, o, none⟩) c.procs.length cp)) (first | exact HS.out _ (by assumption) | exact HS.out _ (Kept.refl _ _) | exact HS.out _ (Kept.refl _ _).drew | exact HS.out _ ((by assumption : New wq _).drew)) (first
                          | (go_at_call 55; refine (HCM.out _ (by first | exact HDQ.out | exact HDQ.out.drew)).mono ?_; rintro e w9 ⟨rfl, hn9⟩; have HN9 := Lib.hid (show New wq w9 from by first | exact hn9 | exact (Kept.refl _ _).drew.trans hn9); have hn9' := HN9.out; clear hn9))
                        all_goals
                          go_wp2_with fail
                          go_roundw
                          case rel => exact ⟨i + 1, by omega, by go_num, by first | exact HNQ.out.trans HN9.out | exact (HNQ.out.trans HN9.out).drew, by first | exact HBQ.out.kept HN9.out id | exact HBQ.out.kept HN9.out.drew id, E3⟩
                          case measure => simp [intOf]; omega
                      · have E := Lib.hid (E1.out (by rw [hpf]; exact hm))
                        have HPF := Lib.hid hpf
                        clear hpf
                        generalize (may pl c.locks).1 = me at *
                        have hm' : (me != 0) = true := by simpa using hm
                        clear hm
                        go_region_held3 (fun W => W.cell? ⟨b, o + i * 2 + 1, none⟩ = some (.slice A' pl.length c') ∧ W.cell? ⟨w.heap.size, 4, none⟩ = some (.int .i64 c.locks) ∧ W.cell? ⟨w.heap.size, 6, none⟩ = some (.slice (some ⟨b, o, none⟩) c.procs.length cp)) (first | exact HS.out _ (by assumption) | exact HS.out _ (Kept.refl _ _) | exact HS.out _ (Kept.refl _ _).drew | exact HS.out _ ((by assumption : New wq _).drew)) (first
                          | (go_at_call 55; refine (HCM.out _ (by first | exact HDQ.out | exact HDQ.out.drew)).mono ?_; rintro e w9 ⟨rfl, hn9⟩; have HN9 := Lib.hid (show New wq w9 from by first | exact hn9 | exact (Kept.refl _ _).drew.trans hn9); have hn9' := HN9.out; clear hn9))
                        all_goals
                          go_wp2_with fail
                          go_ret2
                          rw [E.out, HPF.out]
                          exact ⟨by simp [Array.getD], by first | exact HNQ.out.trans HN9.out | exact (HNQ.out.trans HN9.out).drew⟩
                  · obtain rfl : i = c.procs.length := by omega
                    have E := Lib.hid (mayC_ok HG0.out HNO.out h4 (fun j hj => hpn.out j hj hj))
                    have HNR := Lib.hid hnr
                    clear hnr hbr h4
                    go_wp2_with fail
                    go_ret2
                    rw [E.out]
                    exact ⟨by simp [Array.getD], HNR.out⟩
    · have E := Lib.hid (show mayC c = (tabE c.table c.labels.length, 1) by
        unfold mayC
        rw [if_neg (fun h => h h1)]
        by_cases h3 : manyE c.table.length 64 = 0
        · have h4 := tab_new h3 (show 1 ≤ (c.labels.length : Int) by omega) (by omega)
          rw [if_neg (fun h => h h3), if_pos (by rw [← h4]; exact h2), h4]
        · rw [if_pos h3, tab_many h3])
      generalize tabE c.table c.labels.length = te at *
      have h2' : (te != 0) = true := by simpa using h2
      have HMT := Lib.hid hmt
      clear hmt
      go_wp2_with (go_at_call 53; refine HMT.out.mono ?_; rintro e w3 ⟨rfl, hn3⟩)
      go_ret2
      rw [E.out]
      exact ⟨by simp [Array.getD], HN2.out.trans hn3⟩
  · have E := Lib.hid (show mayC c = ((labE c.labels).1, 0) by unfold mayC; rw [if_pos h1])
    generalize (labE c.labels).1 = e1 at *
    go_wp2_with fail
    go_ret2
    rw [E.out]
    exact ⟨by simp [Array.getD], HN2.out⟩
end
end Go.Proofs.Ytaefgljpdpigeaa.Conf

/- The walk of the reference's Encode (layer 14). -/
namespace Go.Proofs.Ytaefgljpdpigeaa.Conf
open Go.RowKit Go.Fb Go.CodeP Go.BytesP
open Go.Proofs.Ytaefgljpdpigeaa.Code (RowB tyBytes byte_bv u64_bd)
set_option linter.unusedVariables false
theorem start_lit {w w2 : World} {cb : Nat} {T E : TypeId} {cs : Array Value} {n : Int} (hn : New w w2) (hb : Blk w2 cb T cs) (h0 : 0 ≤ n) (h1 : n ≤ 255) :
    EncSt w (w2.alloc (.cells #[.int .u8 70, .int .u8 66, .int .u8 67, .int .u8 70, .int .u8 1, .int .u8 n] E)) cb T cs (some w2.heap.size) (some ⟨w2.heap.size, 0, none⟩) 6 6 (markB ++ le n 1) where
  row := by
    have := Row.of_made (T := E) (size := 1) w2 [.int .u8 70, .int .u8 66, .int .u8 67, .int .u8 70, .int .u8 1, .int .u8 n] (c := 6) rfl (by unfold maxLen; omega) (by decide)
    unfold RowB
    rw [List.map_append, ← byte1 h0 h1]
    exact this
  own g hg := by injection hg with hg; subst hg; have := hb.lt; exact ⟨hn.size, by omega⟩
  new := hn.alloc _
  blk := hb.alloc _
section
variable {w : World} {B : Nat} {c : Cf} {Al At Ap : Option Addr} {cl ct cp : Nat}
set_option maxRecDepth 100000 in
set_option maxHeartbeats 4000000 in
theorem rencode_any (hl : SliceOf (Rep.int .u64) w B Al c.labels.length cl c.labels) (ht : SliceOf (Rep.int .i64) w B At c.table.length ct c.table) (hp : SliceOf repProc w B Ap c.procs.length cp c.procs) (hB : B ≤ w.heap.size) :
    Calls Try.prog 18 #[.agg (confC c Al cl At ct Ap cp).toArray] w fun e w' => Encoded w w' e c := by
  unfold Encoded
  have hbl := hl.bound
  have hbt := ht.bound
  have hbp := hp.bound
  have k1 : New w (w.alloc (.cells (confC c Al cl At ct Ap cp).toArray 26)) := (Kept.refl _ _).alloc _
  have hb1 := Blk.made w 26 (confC c Al cl At ct Ap cp).toArray
  have HMAY := Lib.hid (rmay_any (hl.kept k1 hB fun _ _ h => h) (ht.kept k1 hB fun _ _ h => h) (hp.kept k1 hB fun _ _ h => h) (Nat.le_trans hB k1.size))
  have HLK := Lib.hid (fun W (hW : New w W) => (hl.kept hW hB fun _ _ h => h))
  have HTK := Lib.hid (fun W (hW : New w W) => (ht.kept hW hB fun _ _ h => h))
  have HPW := Lib.hid hp
  have HPK := Lib.hid (fun W (hW : New w W) => (hp.kept hW hB fun _ _ h => h).more (Nat.le_trans hB hW.size))
  unfold confC at k1 hb1 HMAY ⊢
  have K1 := Lib.hid k1
  have HB1 := Lib.hid hb1
  clear k1 hb1
  clear hl ht hp
  by_cases hm : (mayC c).1 = 0
  · have hs := sane_of (may_zeroC hm)
    have E := Lib.hid (show encC c = encB c by unfold encC; rw [if_pos (may_zeroC hm)])
    have hm0 : mayC c = (0, 0) := may_zeroC hm
    rw [hm0] at HMAY ⊢
    clear hm hm0
    obtain ⟨s1, s2, s3, s4, s5, s6, s7, s8, s9, s10, -⟩ := hs
    have S3 := Lib.hid s3
    have S9 := Lib.hid s9
    have S10 := Lib.hid s10
    clear s3 s9 s10
    have z0 := HB1.out.cell 0
    have z1 := HB1.out.cell 1
    have z2 := HB1.out.cell 2
    have z3 := HB1.out.cell 3
    have z4 := HB1.out.cell 4
    have z5 := HB1.out.cell 5
    have z6 := HB1.out.cell 6
    simp only [List.getElem?_toArray, List.getElem?_cons_zero, List.getElem?_cons_succ] at z0 z1 z2 z3 z4 z5 z6
    go_enter Try.func18, Try.ntmps18
    go_upto_region 4 with (go_at_call 23; refine HMAY.out.mono ?_; rintro e w2 ⟨rfl, hn2⟩)
    have HN2 := Lib.hid (K1.out.trans hn2)
    have hb2 := HB1.out.kept hn2 id
    have y0 := hb2.cell 0
    simp only [List.getElem?_toArray, List.getElem?_cons_zero] at y0
    have HB2 := Lib.hid hb2
    clear hb2
    go_upto_region 5 with fail
    have HS4 := Lib.hid (start_lit (E := 5) (n := (c.labels.length : Int)) HN2.out HB2.out (by omega) (by omega))
    clear y0
    have y0 := HS4.out.blk.cell 0
    simp only [List.getElem?_toArray, List.getElem?_cons_zero] at y0
    go_wp2_with fail
    go_loopw [6, 7] (fun v i wr => ∃ (k : Nat) (rr : Option Nat) (AA : Option Addr) (cc : Nat), k ≤ c.labels.length ∧ i = .int .i64 k ∧ v = .slice AA (6 + 8 * k) cc ∧ EncSt w wr w.heap.size 26 #[.slice Al c.labels.length cl, .slice At c.table.length ct, .int .i64 c.fuel, .int .i64 c.lane, .int .i64 c.locks, .int .i64 c.log, .slice Ap c.procs.length cp] rr AA (6 + 8 * k) cc (markB ++ le c.labels.length 1 ++ encL (c.labels.take k))) (fun _ i _ => (c.labels.length - intOf i).toNat)
    case atStart => exact ⟨0, _, _, _, Nat.zero_le _, rfl, rfl, HS4.out.cast rfl (by simp [encL])⟩
    case round =>
      obtain ⟨k, rr, AA, cc, hk, rfl, rfl, hes⟩ := hrel
      clear HS4 HN2 HB2
      have y0 := hes.blk.cell 0
      simp only [List.getElem?_toArray, List.getElem?_cons_zero] at y0
      by_cases hlt : k < c.labels.length
      · obtain ⟨g, o, rfl, -, hc⟩ := (HLK.out wr hes.new).ints (by omega)
        have xk := hc k hlt
        have hwf := bounds_u64 ((HLK.out wr hes.new).wf _ (List.getElem_mem hlt))
        have hlay := rnum_any (v := c.labels[k]) (m := 8) hes.row (by omega) (by omega) (Nat.le_refl _) (by omega)
        have het := encL_take c.labels k hlt
        generalize c.labels[k] = lv at *
        have HES := Lib.hid hes
        have HLAY := Lib.hid hlay
        have HET := Lib.hid het
        clear hes hlay het
        clear hc hwf
        go_wp2_with (go_at_call 48; refine HLAY.out.mono ?_; rintro e w5 ⟨r5, A5, c5, rfl, hr5, hk5, hn5⟩)
        have HS5 := Lib.hid (HES.out.step hr5 hk5 hn5)
        clear hr5 hk5 hn5
        go_wp2_with fail
        go_roundw
        case rel => exact ⟨k + 1, r5, A5, c5, by omega, by go_num, by go_num, HS5.out.cast (by omega) (by rw [HET.out, ← List.append_assoc])⟩
        case measure => simp [intOf]; omega
      · obtain rfl : k = c.labels.length := by omega
        have HS5 := Lib.hid (hes.cast (l' := stage2 c) rfl (by rw [List.take_length]; rfl))
        clear hes
        have q1 := HS5.out.blk.cell 1
        simp only [List.getElem?_toArray, List.getElem?_cons_zero, List.getElem?_cons_succ] at q1
        go_upto_region 10 with (at_builtin; refine wpList_append_one (cs := [.int .u8 (c.table.length : Int)]) tyBytes rfl _ _ rfl rfl HS5.out.row rfl rfl rfl (by simp [Value.oneCell']) (by unfold maxLen; omega) (by omega) ?_; intro r5 A5 c5 w6 hr5 hk5 hn5)
        rw [byte1 (by omega) (by omega), ← List.map_append] at hr5
        have HS6 := Lib.hid (HS5.out.step hr5 hk5 hn5)
        clear hr5 hk5 hn5 q1 y0 HS5
        have q1 := HS6.out.blk.cell 1
        simp only [List.getElem?_toArray, List.getElem?_cons_zero, List.getElem?_cons_succ] at q1
        go_wp2_with fail
        clear q1
        go_loopw [6, 8] (fun v i wr => ∃ (k : Nat) (rr : Option Nat) (AA : Option Addr) (cc : Nat), k ≤ c.table.length ∧ i = .int .i64 k ∧ v = .slice AA (6 + 8 * c.labels.length + 1 + k) cc ∧ EncSt w wr w.heap.size 26 #[.slice Al c.labels.length cl, .slice At c.table.length ct, .int .i64 c.fuel, .int .i64 c.lane, .int .i64 c.locks, .int .i64 c.log, .slice Ap c.procs.length cp] rr AA (6 + 8 * c.labels.length + 1 + k) cc (stage2 c ++ le c.table.length 1 ++ encT (c.table.take k))) (fun _ i _ => (c.table.length - intOf i).toNat)
        case atStart => exact ⟨0, _, _, _, Nat.zero_le _, rfl, rfl, HS6.out.cast rfl (by simp [encT])⟩
        case round =>
          obtain ⟨k, rr, AA, cc, hk, rfl, rfl, hes⟩ := hrel
          clear HS6
          have y1 := hes.blk.cell 1
          simp only [List.getElem?_toArray, List.getElem?_cons_zero, List.getElem?_cons_succ] at y1
          by_cases hlt : k < c.table.length
          · obtain ⟨g, o, rfl, -, hc⟩ := (HTK.out wr hes.new).ints (by omega)
            have xk := hc k hlt
            have hwf := S3.out _ (List.getElem_mem hlt)
            have het := encT_take c.table k hlt
            generalize c.table[k] = lv at *
            have HES := Lib.hid hes
            have HET := Lib.hid het
            clear hes het
            clear hc
            have hu8 : IntKind.u8.wrap lv = lv := by rw [IntKind.wrap_u8]; omega
            go_wp2_with (at_builtin; refine wpList_append_one (cs := [.int .u8 lv]) tyBytes rfl _ _ rfl rfl HES.out.row rfl rfl rfl (by simp [Value.oneCell']) (by unfold maxLen; omega) (by omega) ?_; intro r5 A5 c5 w5 hr5 hk5 hn5)
            rw [byte1 (by omega) (by omega), ← List.map_append] at hr5
            have HS7 := Lib.hid (HES.out.step hr5 hk5 hn5)
            clear hr5 hk5 hn5
            refine ⟨⟨k + 1, r5, A5, c5, by omega, by go_num, by go_num, HS7.out.cast (by omega) (by rw [HET.out, ← List.append_assoc])⟩, by simp [intOf]; omega⟩
          · obtain rfl : k = c.table.length := by omega
            have HS7 := Lib.hid (hes.cast (l' := stage4 c) rfl (by rw [List.take_length]; rfl))
            clear hes
            have hf : IntKind.u64.wrap c.fuel = c.fuel := by rw [IntKind.wrap_u64]; omega
            have hla : IntKind.u8.wrap c.lane = c.lane := by rw [IntKind.wrap_u8]; omega
            have hlo : IntKind.u8.wrap c.locks = c.locks := by rw [IntKind.wrap_u8]; omega
            have hlg : IntKind.u64.wrap c.log = c.log := by rw [IntKind.wrap_u64]; omega
            have q2 := HS7.out.blk.cell 2
            simp only [List.getElem?_toArray, List.getElem?_cons_zero, List.getElem?_cons_succ] at q2
            have hlay := rnum_any (v := c.fuel) (m := 2) HS7.out.row (by omega) (by omega) (by decide) (by omega)
            have HLAY := Lib.hid hlay
            clear hlay
            go_upto_region 15 with (go_at_call 48; refine HLAY.out.mono ?_; rintro e w8 ⟨r5, A5, c5, rfl, hr5, hk5, hn5⟩)
            have HS8 := Lib.hid (HS7.out.step hr5 hk5 hn5)
            clear hr5 hk5 hn5 q2 y1 HLAY HS7
            have q3 := HS8.out.blk.cell 3
            have q4 := HS8.out.blk.cell 4
            simp only [List.getElem?_toArray, List.getElem?_cons_zero, List.getElem?_cons_succ] at q3 q4
            go_upto_region 16 with (at_builtin; refine wpList_append_many (cs := [.int .u8 c.lane, .int .u8 c.locks]) tyBytes rfl _ _ rfl rfl HS8.out.row rfl rfl rfl (by simp [Value.oneCell']) (by unfold maxLen; omega) (by omega) ?_; intro r5 A5 c5 w9 hr5 hk5 hn5)
            rw [bytes2 (by omega) (by omega) (by omega) (by omega), ← List.map_append] at hr5
            have HS9 := Lib.hid (HS8.out.step hr5 hk5 hn5)
            clear hr5 hk5 hn5 q3 q4 HS8
            have q5 := HS9.out.blk.cell 5
            simp only [List.getElem?_toArray, List.getElem?_cons_zero, List.getElem?_cons_succ] at q5
            have hlay := rnum_any (v := c.log) (m := 2) HS9.out.row (by omega) (by omega) (by decide) (by omega)
            have HLAY := Lib.hid hlay
            clear hlay
            go_upto_region 17 with (go_at_call 48; refine HLAY.out.mono ?_; rintro e w10 ⟨r5, A5, c5, rfl, hr5, hk5, hn5⟩)
            have HS10 := Lib.hid (HS9.out.step hr5 hk5 hn5)
            clear hr5 hk5 hn5 q5 HLAY HS9
            have q6 := HS10.out.blk.cell 6
            simp only [List.getElem?_toArray, List.getElem?_cons_zero, List.getElem?_cons_succ] at q6
            go_upto_region 18 with (at_builtin; refine wpList_append_one (cs := [.int .u8 (c.procs.length : Int)]) tyBytes rfl _ _ rfl rfl HS10.out.row rfl rfl rfl (by simp [Value.oneCell']) (by unfold maxLen; omega) (by omega) ?_; intro r5 A5 c5 w11 hr5 hk5 hn5)
            rw [byte1 (by omega) (by omega), ← List.map_append] at hr5
            have HS11 := Lib.hid (HS10.out.step hr5 hk5 hn5)
            clear hr5 hk5 hn5 q6 HS10
            have HS12 := Lib.hid (HS11.out.cast (l' := stage8 c) rfl rfl)
            clear HS11
            have q6 := HS12.out.blk.cell 6
            simp only [List.getElem?_toArray, List.getElem?_cons_zero, List.getElem?_cons_succ] at q6
            go_wp2_with fail
            clear q6 hf hla hlo hlg
            go_loopw [6, 9] (fun v i wr => ∃ (k n : Nat) (rr : Option Nat) (AA : Option Addr) (cc : Nat), k ≤ c.procs.length ∧ i = .int .i64 k ∧ v = .slice AA n cc ∧ n = (stage8 c ++ encPs (c.procs.take k)).length ∧ EncSt w wr w.heap.size 26 #[.slice Al c.labels.length cl, .slice At c.table.length ct, .int .i64 c.fuel, .int .i64 c.lane, .int .i64 c.locks, .int .i64 c.log, .slice Ap c.procs.length cp] rr AA n cc (stage8 c ++ encPs (c.procs.take k))) (fun _ i _ => (c.procs.length - intOf i).toNat)
            case atStart => exact ⟨0, _, _, _, _, Nat.zero_le _, rfl, rfl, by rw [List.take_zero, show encPs [] = [] from rfl, List.append_nil, length_stage8]; omega, HS12.out.cast rfl (by simp [encPs])⟩
            case round =>
              obtain ⟨k, n, rr, AA, cc, hk, rfl, rfl, hn, hes⟩ := hrel
              clear HS12
              have y6 := hes.blk.cell 6
              simp only [List.getElem?_toArray, List.getElem?_cons_zero, List.getElem?_cons_succ] at y6
              by_cases hlt : k < c.procs.length
              · obtain ⟨b, o, rfl, hbb, hpc⟩ := proc_at HPW.out (by omega)
                obtain ⟨A', c', ⟨x0w, x1w⟩, x2, -⟩ := hpc k hlt
                have x0 := (hes.new.cell (p := ⟨b, o + k * 2, none⟩) (Nat.lt_of_lt_of_le hbb hB) id).trans x0w
                have x1 := (hes.new.cell (p := ⟨b, o + k * 2 + 1, none⟩) (Nat.lt_of_lt_of_le hbb hB) id).trans x1w
                have hpart := S9.out _ (List.getElem_mem hlt)
                have hcode := S10.out _ (List.getElem_mem hlt)
                obtain ⟨-, -, hlen, hck⟩ := may_ok hcode
                have hbc := x2.bound
                have hsz : n ≤ 2000000 := by
                  rw [hn, List.length_append, length_stage8]
                  have h1 := length_encPs (c.procs.take k) (fun p hp => (may_ok (S10.out p (List.mem_of_mem_take hp))).2.2.1)
                  rw [List.length_take] at h1
                  have : min k c.procs.length ≤ 32 := by omega
                  have : 3075 * min k c.procs.length ≤ 3075 * 32 := Nat.mul_le_mul_left _ this
                  omega
                have hsz2 : n ≤ 200000 := by
                  rw [hn, List.length_append, length_stage8]
                  have h1 := length_encPs (c.procs.take k) (fun p hp => (may_ok (S10.out p (List.mem_of_mem_take hp))).2.2.1)
                  rw [List.length_take] at h1
                  have : min k c.procs.length ≤ 32 := by omega
                  have : 3075 * min k c.procs.length ≤ 3075 * 32 := Nat.mul_le_mul_left _ this
                  omega
                have HPT := Lib.hid (show stage8 c ++ encPs (c.procs.take (k + 1)) = stage8 c ++ encPs (c.procs.take k) ++ le c.procs[k].1 1 ++ le c.procs[k].2.length 2 ++ encode c.procs[k].2 by rw [encPs_take _ _ hlt]; unfold encP; simp only [List.append_assoc])
                have hk5 : New wr (wr.alloc (.cells #[.int .i64 c.procs[k].1, .slice A' c.procs[k].2.length c'] 37)) := (Kept.refl _ _).alloc _
                have hpb := Blk.made wr 37 #[.int .i64 c.procs[k].1, .slice A' c.procs[k].2.length c']
                have HXK := Lib.hid (fun W (hW : New w W) => x2.kept hW hB fun _ _ h => h)
                have HCK := Lib.hid hck
                clear hpc hcode x2 x0w x1w hck
                generalize c.procs[k] = pr at *
                obtain ⟨pp, pl⟩ := pr
                simp only at *
                have y0 := hpb.cell 0
                have y1 := hpb.cell 1
                simp only [List.getElem?_toArray, List.getElem?_cons_zero, List.getElem?_cons_succ] at y0 y1
                have hu8 : IntKind.u8.wrap pp = pp := by rw [IntKind.wrap_u8]; omega
                have hu64 : IntKind.u64.wrap (pl.length : Int) = (pl.length : Int) := by rw [IntKind.wrap_u64]; omega
                have HES5 := Lib.hid (hes.kept hk5)
                have hrl := hes.row.lt (by decide)
                have HN := Lib.hid hn
                have HPB := Lib.hid hpb
                have HRL := Lib.hid hrl
                clear hn hpb hrl
                clear hes hk5
                go_upto_region 23 with (at_builtin; refine wpList_append_one (cs := [.int .u8 pp]) tyBytes rfl _ _ rfl rfl HES5.out.row (size1 _ _) rfl rfl (by simp [Value.oneCell']) (by unfold maxLen; omega) (by omega) ?_; intro r7 A7 c7 w7 hr7 hk7 hn7)
                rw [byte1 (by omega) (by omega), ← List.map_append] at hr7
                have HE7 := Lib.hid (HES5.out.step hr7 hk7 hn7)
                have HPB7 := Lib.hid (HPB.out.kept hk7 (fun e => by have := HRL.out _ e; omega))
                have hp7 : ¬ r7 = some wr.heap.size := fun e => by
                  rcases hn7 _ e with h | h
                  · have := HRL.out _ h; omega
                  · have := size1 wr (.cells #[.int .i64 pp, .slice A' pl.length c'] 37); omega
                have hs7 := HPB7.out.lt
                have HP7 := Lib.hid hp7
                clear hp7
                clear hr7 hk7 hn7 y0 y1 HES5 HPB HRL
                have y1 := HPB7.out.cell 1
                simp only [List.getElem?_toArray, List.getElem?_cons_zero, List.getElem?_cons_succ] at y1
                have hlay := rnum_any (v := (pl.length : Int)) (m := 2) HE7.out.row (by omega) (by omega) (by decide) (by omega)
                have HLAY := Lib.hid hlay
                clear hlay
                go_upto_region 24 with (go_at_call 48; refine HLAY.out.mono ?_; rintro e w8 ⟨r8, A8, c8, rfl, hr8, hk8, hn8⟩)
                have HE8 := Lib.hid (HE7.out.step hr8 hk8 hn8)
                have HPB8 := Lib.hid (HPB7.out.kept hk8 (fun e => HP7.out e))
                have hp8 : ¬ r8 = some wr.heap.size := fun e => by
                  rcases hn8 _ e with h | h
                  · exact HP7.out h
                  · omega
                have HP8 := Lib.hid hp8
                clear hp8
                clear hr8 hk8 hn8 y1 HE7 HPB7 HP7 HLAY
                go_wp2_with fail
                have hins := HXK.out
                generalize wr.heap.size = pb at *
                go_loopw [6, 11] (fun v i wx => ∃ (j : Nat) (rj : Option Nat) (Aj : Option Addr) (cj : Nat), j ≤ pl.length ∧ i = .int .i64 j ∧ v = .slice Aj (n + 1 + 2 + 12 * j) cj ∧ rj ≠ some pb ∧ Blk wx pb 37 #[.int .i64 pp, .slice A' pl.length c'] ∧ EncSt w wx w.heap.size 26 #[.slice Al c.labels.length cl, .slice At c.table.length ct, .int .i64 c.fuel, .int .i64 c.lane, .int .i64 c.locks, .int .i64 c.log, .slice (some ⟨b, o, none⟩) c.procs.length cp] rj Aj (n + 1 + 2 + 12 * j) cj (stage8 c ++ encPs (c.procs.take k) ++ le pp 1 ++ le pl.length 2 ++ encode (pl.take j))) (fun _ i _ => (pl.length - intOf i).toNat)
                case atStart => exact ⟨0, _, _, _, Nat.zero_le _, rfl, rfl, HP8.out, HPB8.out, HE8.out.cast rfl (by simp [encode])⟩
                case round =>
                  obtain ⟨j, rj, Aj, cj, hj, rfl, rfl, hne, hpbj, hej⟩ := hrel
                  clear HP8 HPB8 HE8
                  have y1 := hpbj.cell 1
                  simp only [List.getElem?_toArray, List.getElem?_cons_zero, List.getElem?_cons_succ] at y1
                  by_cases hlj : j < pl.length
                  · obtain ⟨g2, o2, rfl, -, hic⟩ := Code.ins_at (hins wr hej.new) (by omega)
                    obtain ⟨i0, i1, i2, i3, i4⟩ := hic j hlj
                    have hput := Code.ref_put (x := pl[j]) (m := pl.length) (locks := c.locks) rj Aj (n + 1 + 2 + 12 * j) cj _ wr hej.row (HCK.out _ (List.getElem_mem hlj)) (by omega)
                    have het := Code.encode_take pl j hlj
                    have HPJ := Lib.hid hpbj
                    have HEJ := Lib.hid hej
                    clear hpbj hej hic
                    generalize pl[j] = x at *
                    obtain ⟨xo, xa, xb, xc, xi⟩ := x
                    simp only at i0 i1 i2 i3 i4
                    unfold Code.agg at hput
                    simp only at hput
                    have HNE := Lib.hid hne
                    have HPUT := Lib.hid hput
                    have HET := Lib.hid het
                    clear hput het
                    clear hne
                    go_wp2_with (go_at_call 49; refine HPUT.out.mono ?_; rintro e w9 ⟨r9, A9, c9, rfl, hr9, hk9, hn9⟩)
                    have HE9 := Lib.hid (HEJ.out.step hr9 hk9 hn9)
                    have HPB9 := Lib.hid (HPJ.out.kept hk9 (fun e => HNE.out e))
                    have hp9 : r9 ≠ some pb := fun e => by
                      rcases hn9 _ e with h | h
                      · exact HNE.out h
                      · have := HPJ.out.lt; omega
                    clear hr9 hk9 hn9
                    go_wp2_with fail
                    go_roundw
                    case rel => exact ⟨j + 1, r9, A9, c9, by omega, by go_num, by go_num, hp9, HPB9.out, HE9.out.cast (by omega) (by rw [HET.out, ← List.append_assoc])⟩
                    case measure => simp [intOf]; omega
                  · obtain rfl : j = pl.length := by omega
                    have HEJ := Lib.hid (hej.cast (l' := stage8 c ++ encPs (c.procs.take k) ++ le pp 1 ++ le pl.length 2 ++ encode pl) rfl (by rw [List.take_length]))
                    clear hej hpbj hne
                    go_wp2_with fail
                    refine ⟨⟨k + 1, n + 1 + 2 + 12 * pl.length, rj, Aj, cj, by omega, by go_num, rfl, ?_, HEJ.out.cast rfl HPT.out.symm⟩, by simp [intOf]; omega⟩
                    rw [HPT.out]
                    simp only [List.length_append, length_le, length_encode]
                    have := HN.out
                    simp only [List.length_append] at this
                    omega
              · obtain rfl : k = c.procs.length := by omega
                rw [List.take_length] at hn hes
                have HES := Lib.hid hes
                clear HPW
                have HN := Lib.hid hn
                clear hn
                clear hes
                go_wp2_with fail
                go_ret2
                rw [E.out]
                have e : n = (encB c).length := HN.out
                subst e
                exact ⟨rr, AA, cc, rfl, HES.out.row, fun g hg => (HES.out.own g hg).1, HES.out.new⟩
  · have hm' : ((mayC c).1 != 0) = true := by simpa using hm
    have E := Lib.hid (show encC c = [] by unfold encC; rw [if_neg (fun e => hm (congrArg Prod.fst e))])
    generalize mayC c = m at *
    clear hm
    have z0 := HB1.out.cell 0
    have z1 := HB1.out.cell 1
    have z2 := HB1.out.cell 2
    have z3 := HB1.out.cell 3
    have z4 := HB1.out.cell 4
    have z5 := HB1.out.cell 5
    have z6 := HB1.out.cell 6
    simp only [List.getElem?_toArray, List.getElem?_cons_zero, List.getElem?_cons_succ] at z0 z1 z2 z3 z4 z5 z6
    go_enter Try.func18, Try.ntmps18
    go_wp2_with (go_at_call 23; refine HMAY.out.mono ?_; rintro e w2 ⟨rfl, hn2⟩)
    go_ret2
    refine ⟨none, none, 0, ?_, ?_, (by intro k hk; cases hk), K1.out.trans hn2⟩
    · rw [E.out]; rfl
    · rw [E.out]; exact Row.nil _ _
end
end Go.Proofs.Ytaefgljpdpigeaa.Conf

/- The walk of the law ConfReturns (layer 14). -/
namespace Go.Proofs.Ytaefgljpdpigeaa.Conf
open Go.RowKit Go.Fb Go.CodeP Go.BytesP Go.ReaderP Go.Proofs.Ytaefgljpdpigeaa.Code
set_option linter.unusedVariables false
theorem opens_proc : Opens Try.prog repProc 37 := by
  have h : Opens Try.prog ((Rep.int .i64).pair (Code.repIns.slice.pair Rep.unit)) 37 := opens_struct Try.underlying37 (by kernel_rfl)
    (opensAt_cons rfl (by kernel_rfl) (opens_int Try.underlying3) (opensAt_cons rfl (by kernel_rfl) (opens_slice Try.underlying28 (by kernel_rfl) (by decide) Code.opens_ins) opensAt_nil))
  intro H enc w fuel cs y hy
  obtain ⟨x, hx⟩ := h H enc w fuel cs y hy
  obtain ⟨_, _, rfl, ⟨rfl, h1⟩, _, _, rfl, ⟨A, n, c, rfl, h2⟩, rfl⟩ := hx
  exact ⟨⟨x.1, x.2.1⟩, A, c, by rw [h2.len]; rfl, by rw [← h2.len]; exact h2, h1⟩
theorem opens_conf : Opens Try.prog repConf 26 := by
  have h : Opens Try.prog ((Rep.int .u64).slice.pair ((Rep.int .i64).slice.pair ((Rep.int .i64).pair ((Rep.int .i64).pair ((Rep.int .i64).pair ((Rep.int .i64).pair (repProc.slice.pair Rep.unit))))))) 26 := opens_struct Try.underlying26 (by kernel_rfl)
    (opensAt_cons rfl (by kernel_rfl) (opens_slice Try.underlying22 (by kernel_rfl) (by decide) (opens_int Try.underlying49)) (opensAt_cons rfl (by kernel_rfl) (opens_slice Try.underlying23 (by kernel_rfl) (by decide) (opens_int Try.underlying3))
      (opensAt_cons rfl (by kernel_rfl) (opens_int Try.underlying3) (opensAt_cons rfl (by kernel_rfl) (opens_int Try.underlying3) (opensAt_cons rfl (by kernel_rfl) (opens_int Try.underlying3) (opensAt_cons rfl (by kernel_rfl) (opens_int Try.underlying3) (opensAt_cons rfl (by kernel_rfl) (opens_slice Try.underlying24 (by kernel_rfl) (by decide) opens_proc) opensAt_nil)))))))
  intro H enc w fuel cs y hy
  obtain ⟨x, hx⟩ := h H enc w fuel cs y hy
  obtain ⟨_, _, rfl, ⟨Al, nl, cl, rfl, hl⟩, _, _, rfl, ⟨At, nt, ct, rfl, ht⟩, _, _, rfl, ⟨rfl, h1⟩, _, _, rfl, ⟨rfl, h2⟩, _, _, rfl, ⟨rfl, h3⟩, _, _, rfl, ⟨rfl, h4⟩, _, _, rfl, ⟨Ap, np, cp, rfl, hp⟩, rfl⟩ := hx
  exact ⟨⟨x.1, x.2.1, x.2.2.1, x.2.2.2.1, x.2.2.2.2.1, x.2.2.2.2.2.1, x.2.2.2.2.2.2.1⟩, Al, cl, At, ct, Ap, cp, by unfold confC; rw [hl.len, ht.len, hp.len]; rfl, by rw [← hl.len]; exact hl, by rw [← ht.len]; exact ht, by rw [← hp.len]; exact hp, h1, h2, h3, h4⟩
/-- Bytes, as a string. -/
theorem str_of {P : Program} {w : World} {B : Nat} {A : Option Addr} {n c : Nat} {l : List UInt8} (h : SliceOf Rep.byte w B A n c l) (src dst e : TypeId) (hs : P.underlying src = some (.slice e)) (he : P.underlying e = some (.int .u8)) (hd : P.underlying dst = some .string) :
    (convert src dst (.slice A n c)).run P w = .ok (.string ⟨l.toArray⟩) w := by
  have hn := h.len
  by_cases h0 : 0 < n
  · obtain ⟨b, o, rfl, _, hc⟩ := h.bytes h0
    subst hn
    exact run_convert_bytes_back w src dst e _ c l hs he hd fun j hj => by rw [add_eq]; exact hc j hj
  · obtain rfl : l = [] := List.eq_nil_of_length_eq_zero (by omega)
    obtain rfl : n = 0 := by omega
    cases A with
    | none => exact Lib.run_convert_nil_bytes w src dst e c hs he hd
    | some a => exact run_convert_bytes_back w src dst e a c [] hs he hd fun j hj => absurd hj (by simp)
end Go.Proofs.Ytaefgljpdpigeaa.Conf
