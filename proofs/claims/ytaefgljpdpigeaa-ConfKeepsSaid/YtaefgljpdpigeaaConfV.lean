/- The walk of conf.Decode (layer 14). -/
import Derived.Test.YtaefgljpdpigeaaConfU
import Derived.WalkMore
import Derived.ScopeJumps
namespace Go.Proofs.Ytaefgljpdpigeaa.Conf
open Go.RowKit Go.Fb Go.CodeP Go.BytesP Go.ReaderP
set_option linter.unusedVariables false
def decL (b : List UInt8) : Cf := match decD b with | .ok c => c | .error _ => cfZ
def decE (b : List UInt8) : Int × Int := match decD b with | .ok _ => (0, 0) | .error e => e
/-- What Decode leaves. -/
def Decoded (w w' : World) (e : Ending) (b : List UInt8) : Prop := ∃ (cs : Array Value) (F : Nat → Prop), e = .returned (.tuple #[.agg cs, .int .i64 (decE b).1, .int .i64 (decE b).2]) ∧ confO.own w' F (decL b) cs.toList ∧ (∀ k, F k → w.heap.size ≤ k) ∧ New w w'
/-- Seven cells are written. -/
def set7 (w : World) (b : Nat) (v0 v1 v2 v3 v4 v5 v6 : Value) : World := ((((((w.setCell ⟨b, 0, none⟩ v0).setCell ⟨b, 1, none⟩ v1).setCell ⟨b, 2, none⟩ v2).setCell ⟨b, 3, none⟩ v3).setCell ⟨b, 4, none⟩ v4).setCell ⟨b, 5, none⟩ v5).setCell ⟨b, 6, none⟩ v6
theorem set7_blk {w : World} {b : Nat} {T : TypeId} {a0 a1 a2 a3 a4 a5 a6 : Value} (h : Blk w b T #[a0, a1, a2, a3, a4, a5, a6]) (v0 v1 v2 v3 v4 v5 v6 : Value) : Blk (set7 w b v0 v1 v2 v3 v4 v5 v6) b T #[v0, v1, v2, v3, v4, v5, v6] := by
  have := ((((((h.set (i := 0) v0).set (i := 1) v1).set (i := 2) v2).set (i := 3) v3).set (i := 4) v4).set (i := 5) v5).set (i := 6) v6
  unfold set7
  simpa using this
theorem set7_kept (w : World) (b : Nat) (v0 v1 v2 v3 v4 v5 v6 : Value) : Kept (fun k => k = b) w (set7 w b v0 v1 v2 v3 v4 v5 v6) :=
  (((((((Kept.refl (fun k => k = b) w).setCell (p := ⟨b, 0, none⟩) (.inr rfl) v0).setCell (p := ⟨b, 1, none⟩) (.inr rfl) v1).setCell (p := ⟨b, 2, none⟩) (.inr rfl) v2).setCell (p := ⟨b, 3, none⟩) (.inr rfl) v3).setCell (p := ⟨b, 4, none⟩) (.inr rfl) v4).setCell (p := ⟨b, 5, none⟩) (.inr rfl) v5).setCell (p := ⟨b, 6, none⟩) (.inr rfl) v6
theorem Blk.drew {w : World} {b : Nat} {T : TypeId} {cs : Array Value} (h : Blk w b T cs) : Blk w.drew b T cs := h
theorem frame_of (T : Array Value) (h : T.size = 78) : ∃ f : Nat → Value, T = #[f 0, f 1, f 2, f 3, f 4, f 5, f 6, f 7, f 8, f 9, f 10, f 11, f 12, f 13, f 14, f 15, f 16, f 17, f 18, f 19, f 20, f 21, f 22, f 23, f 24, f 25, f 26, f 27, f 28, f 29, f 30, f 31, f 32, f 33, f 34, f 35, f 36, f 37, f 38, f 39, f 40, f 41, f 42, f 43, f 44, f 45, f 46, f 47, f 48, f 49, f 50, f 51, f 52, f 53, f 54, f 55, f 56, f 57, f 58, f 59, f 60, f 61, f 62, f 63, f 64, f 65, f 66, f 67, f 68, f 69, f 70, f 71, f 72, f 73, f 74, f 75, f 76, f 77] ∧ ∀ i, f i = T.getD i undef := by
  refine ⟨fun i => T.getD i undef, ?_, fun _ => rfl⟩
  have : T.toList = (List.range 78).map (fun i => T.getD i undef) := by
    refine List.ext_getElem (by simp [h]) fun i h1 h2 => ?_
    simp only [List.getElem_map, List.getElem_range]
    have h3 : i < T.size := by simpa using h1
    simp [Array.getD, h3]
  exact Array.ext' this
theorem Run.four {bs : List UInt8} {s s2 s3 s4 s5 : St} {v2 v3 v4 v5 : Nat} (h2 : Run (numD bs 2 (rangeF 2)) s s2 v2) (h3 : Run (numD bs 1 (rangeF 3)) s2 s3 v3) (h4 : Run (numD bs 1 (rangeF 4)) s3 s4 v4) (h5 : Run (numD bs 2 (rangeF 5)) s4 s5 v5) : Run (fourD bs) s s5 (v2, v3, v4, v5) := by
  refine Run.bind (D1 := numD bs 2 (rangeF 2)) (D2 := fun n1 p => match numD bs 1 (rangeF 3) p with
    | .error e => .error e
    | .ok (n2, p) => match numD bs 1 (rangeF 4) p with
      | .error e => .error e
      | .ok (n3, p) => match numD bs 2 (rangeF 5) p with
        | .error e => .error e
        | .ok (n4, p) => .ok ((n1, n2, n3, n4), p)) h2 ?_ (fun p e h => by unfold fourD; rw [h]) (fun p a p' h => by unfold fourD; rw [h]; rfl)
  refine Run.bind (D1 := numD bs 1 (rangeF 3)) (D2 := fun n2 p => match numD bs 1 (rangeF 4) p with
      | .error e => .error e
      | .ok (n3, p) => match numD bs 2 (rangeF 5) p with
        | .error e => .error e
        | .ok (n4, p) => .ok ((v2, n2, n3, n4), p)) h3 ?_ (fun p e h => by simp only [h]) (fun p a p' h => by simp only [h])
  refine Run.bind (D1 := numD bs 1 (rangeF 4)) (D2 := fun n3 p => match numD bs 2 (rangeF 5) p with
        | .error e => .error e
        | .ok (n4, p) => .ok ((v2, v3, n3, n4), p)) h4 ?_ (fun p e h => by simp only [h]) (fun p a p' h => by simp only [h])
  exact Run.bind (D1 := numD bs 2 (rangeF 5)) (D2 := fun n4 p => .ok ((v2, v3, v4, n4), p)) h5 Run.pure (fun p e h => by simp only [h]) (fun p a p' h => by simp only [h])
theorem Run.body {bs : List UInt8} {p4 p5 p6 : Nat} {ls tb : List Int} {s5 s' : St} {v2 v3 v4 v5 : Nat} {l : List (Int × List Ins)} (h1 : labD bs p4 = .ok (ls, p5)) (h2 : tabD bs ls.length p5 = .ok (tb, p6)) (h3 : Run (fourD bs) (.ok p6) s5 (v2, v3, v4, v5)) (h4 : Run (prsD bs ls.length v4) s5 s' l) :
    Run (bodyD bs) (.ok p4) s' ⟨ls, tb, v2, v3, v4, v5, l⟩ := by
  have h : Run (fun p => match fourD bs p with
    | .error e => .error e
    | .ok ((n1, n2, n3, n4), p) => match prsD bs ls.length n3 p with
      | .error e => .error e
      | .ok (ps, p) => .ok ((⟨ls, tb, n1, n2, n3, n4, ps⟩ : Cf), p)) (.ok p6) s' ⟨ls, tb, v2, v3, v4, v5, l⟩ := by
    refine Run.bind (D1 := fourD bs) (D2 := fun (q : Nat × Nat × Nat × Nat) p => match prsD bs ls.length q.2.2.1 p with
      | .error e => .error e
      | .ok (ps, p) => .ok ((⟨ls, tb, q.1, q.2.1, q.2.2.1, q.2.2.2, ps⟩ : Cf), p)) h3 ?_ (fun p e h => by simp only [h]) (fun p a p' h => by simp only [h])
    exact Run.bind (D1 := prsD bs ls.length v4) (D2 := fun ps p => .ok ((⟨ls, tb, v2, v3, v4, v5, ps⟩ : Cf), p)) h4 Run.pure (fun p e h => by simp only [h]) (fun p a p' h => by simp only [h])
  unfold Run at h ⊢
  simp only at h ⊢
  unfold bodyD
  rw [h1]
  simp only
  rw [h2]
  exact h
theorem wf_small {v : Nat} (h : v < 65536) : (Lit.int .i64 (v : Int)).wf = true := by simp [Lit.wf, IntKind.min, IntKind.max, IntKind.signed, IntKind.bits]; omega
/-- How it stands at the end, where something is wrong. -/
def AtEnd (w : World) (A : Option Addr) (n c : Nat) (bs : List UInt8) (a' : Act) (w' : World) : Prop :=
  ∃ T : Array Value, a' = ⟨T, []⟩ ∧ T.size = 78 ∧ T.getD 2 undef = .pointer (some ⟨w.heap.size, 0, none⟩) ∧ T.getD 7 undef = .pointer (some ⟨w.heap.size + 1 + 1, 0, none⟩) ∧
    ∃ x : Int × Int, decD bs = .error x ∧ RAt w' (w.heap.size + 1 + 1) A n c (.error x) ∧ Blk w' w.heap.size 26 zeroC ∧ New w w'
section
variable {w : World} {A : Option Addr} {n c : Nat} {bs : List UInt8}
set_option maxRecDepth 100000 in
set_option maxHeartbeats 4000000 in
theorem decode_any (hb : SliceOf Rep.byte w w.heap.size A n c bs) : Calls Try.prog 11 #[.slice A n c] w fun e w' => Decoded w w' e bs := by
  unfold Decoded
  have hn := hb.len
  have hbd := hb.bound
  have k1 : New w (w.alloc (.cells zeroC 26)) := (Kept.refl _ _).alloc _
  have b1 := Blk.made w 26 zeroC
  have k2 := k1.alloc (.cells zeroC 26)
  have b2 := Blk.made (w.alloc (.cells zeroC 26)) 26 zeroC
  have b12 := b1.alloc (.cells zeroC 26)
  have k3 := k2.alloc (.cells #[.slice A n c, .int .i64 0, .int .i64 0, .int .i64 0] 55)
  have b3 := Blk.made ((w.alloc (.cells zeroC 26)).alloc (.cells zeroC 26)) 55 #[.slice A n c, .int .i64 0, .int .i64 0, .int .i64 0]
  have b13 := b12.alloc (.cells #[.slice A n c, .int .i64 0, .int .i64 0, .int .i64 0] 55)
  have b23 := b2.alloc (.cells #[.slice A n c, .int .i64 0, .int .i64 0, .int .i64 0] 55)
  rw [← size1] at b2 b23
  rw [← size1, ← size1] at b3
  unfold zeroC at k3 b3 b13 b23
  have HN := Lib.hid hn
  have K3 := Lib.hid k3
  have B3 := Lib.hid b3
  have B13 := Lib.hid b13
  have B23 := Lib.hid b23
  clear hn k3 b3 b13 b23
  clear k1 b1 k2 b2 b12
  go_enter Try.func11, Try.ntmps11
  go_wp2_with fail
  refine wp_scope_jumps 0 (AtEnd w A n c bs) (fun _ _ => 0) rfl ?_ ?_
  rotate_left
  · clear K3 B3 B13 B23
    rintro a' w' ⟨T, rfl, hT, t2, t7, x, hD, hr4, hres4, hn4⟩
    obtain ⟨f, rfl, hf⟩ := frame_of T hT
    have e2 : f 2 = .pointer (some ⟨w.heap.size, 0, none⟩) := (hf 2).trans t2
    have e7 : f 7 = .pointer (some ⟨w.heap.size + 1 + 1, 0, none⟩) := (hf 7).trans t7
    rw [e2, e7]
    clear hT t2 t7 hf e2 e7
    have hbad := bad_any hr4
    rw [show isErr (.error x) = true from rfl] at hbad
    obtain ⟨a4, hr4', hx0, ha4⟩ := hr4
    have hne : w.heap.size ≠ w.heap.size + 1 + 1 := by omega
    have r2 := Blk.cell hr4' 2
    have r3 := Blk.cell hr4' 3
    simp only [List.getElem?_toArray, List.getElem?_cons_zero, List.getElem?_cons_succ] at r2 r3
    unfold zeroC at hres4
    have y0 := hres4.cell 0
    have y1 := hres4.cell 1
    have y2 := hres4.cell 2
    have y3 := hres4.cell 3
    have y4 := hres4.cell 4
    have y5 := hres4.cell 5
    have y6 := hres4.cell 6
    simp only [List.getElem?_toArray, List.getElem?_cons_zero, List.getElem?_cons_succ] at y0 y1 y2 y3 y4 y5 y6
    have g0 := hres4.free 0
    have g1 := hres4.free 1
    have g2 := hres4.free 2
    have g3 := hres4.free 3
    have g4 := hres4.free 4
    have g5 := hres4.free 5
    have g6 := hres4.free 6
    have HBAD := Lib.hid hbad
    have HR4' := Lib.hid hr4'
    have HRES4 := Lib.hid hres4
    have HN4 := Lib.hid hn4
    have HD := Lib.hid hD
    have HX0 := Lib.hid hx0
    clear hbad hr4' hres4 hn4 hD hx0
    go_wp2_with (go_at_call 30; refine HBAD.out.mono ?_; rintro e' w' ⟨rfl, rfl⟩)
    have hb10 := Blk.drew (set7_blk HRES4.out (.slice none 0 0) (.slice none 0 0) (.int .i64 0) (.int .i64 0) (.int .i64 0) (.int .i64 0) (.slice none 0 0))
    have hk10 := (set7_kept w' w.heap.size (.slice none 0 0) (.slice none 0 0) (.int .i64 0) (.int .i64 0) (.int .i64 0) (.int .i64 0) (.slice none 0 0)).drew
    unfold set7 at hb10 hk10
    have HB10 := Lib.hid hb10
    have HK10 := Lib.hid hk10
    clear hb10 hk10
    go_region
    have hb10 := HB10.out
    have hk10 := HK10.out
    clear y0 y1 y2 y3 y4 y5 y6 g0 g1 g2 g3 g4 g5 g6 r2 r3 HB10 HK10
    generalize World.drew _ = W at *
    have y0 := hb10.cell 0
    have y1 := hb10.cell 1
    have y2 := hb10.cell 2
    have y3 := hb10.cell 3
    have y4 := hb10.cell 4
    have y5 := hb10.cell 5
    have y6 := hb10.cell 6
    simp only [List.getElem?_toArray, List.getElem?_cons_zero, List.getElem?_cons_succ] at y0 y1 y2 y3 y4 y5 y6
    go_wp2_with fail
    simp only [Exit.jump]
    refine bodyPost_ret (v := .tuple #[.agg #[.slice none 0 0, .slice none 0 0, .int .i64 0, .int .i64 0, .int .i64 0, .int .i64 0, .slice none 0 0], .int .i64 x.1, .int .i64 x.2]) (by simp [results, Try.results11, go_sem, y0, y1, y2, y3, y4, y5, y6]) rfl ?_
    refine ⟨zeroC, fun _ => False, ?_, ?_, fun _ h => h.elim, ?_⟩
    · unfold decE; rw [HD.out]; rfl
    · unfold decL; rw [HD.out]; exact own_zero _
    · exact HN4.out.step hk10 fun i hi e => by omega
  · go_upto_region 4 with (fail)
    have hrs : w.heap.size ≠ w.heap.size + 1 + 1 ∧ w.heap.size + 1 ≠ w.heap.size + 1 + 1 ∧ w.heap.size ≠ w.heap.size + 1 ∧ w.heap.size ≤ w.heap.size + 1 + 1 ∧ w.heap.size ≤ w.heap.size + 1 := by omega
    obtain ⟨hrr, hcr, hrc, hrw, hcw⟩ := hrs
    generalize ((w.alloc (.cells #[.slice none 0 0, .slice none 0 0, .int .i64 0, .int .i64 0, .int .i64 0, .int .i64 0, .slice none 0 0] 26)).alloc (.cells #[.slice none 0 0, .slice none 0 0, .int .i64 0, .int .i64 0, .int .i64 0, .int .i64 0, .slice none 0 0] 26)).alloc (.cells #[.slice A n c, .int .i64 0, .int .i64 0, .int .i64 0] 55) = w3 at *
    generalize hq1 : w.heap.size + 1 + 1 = r at *
    generalize hq2 : w.heap.size + 1 = cb at *
    have HQ := Lib.hid (And.intro hq1 hq2)
    clear hq1 hq2
    have hr3 : RAt w3 r A n c (.ok 0) := ⟨B3.out, Nat.zero_le _⟩
    have HBY := Lib.hid (fun W (hW : New w W) => (hb.kept hW (Nat.le_refl _) fun _ _ h => h))
    clear hb B3
    by_cases hbig : 1048576 < n
    · have hg := give_any (e := 22) (q := 1048576) hr3
      rw [show giveS (.ok 0) 22 1048576 = .error (22, 1048576) from rfl] at hg
      have hD : decD bs = .error (22, 1048576) := by unfold decD; rw [if_pos (by have := HN.out; omega)]
      have HG := Lib.hid hg
      have HR3 := Lib.hid hr3
      have HD := Lib.hid hD
      clear hg hr3 hD
      go_wp2_with (go_at_call 28; refine HG.out.mono ?_; rintro e w4 ⟨rfl, hr4, hk4⟩)
      go_step3
      have hn4 := K3.out.step hk4 fun i hi e => by omega
      have hres4 := B13.out.kept hk4 hrr
      obtain ⟨q1, q2⟩ := HQ.out
      subst q1
      subst q2
      exact ⟨rfl, _, rfl, rfl, rfl, rfl, (22, 1048576), HD.out, hr4, hres4, hn4⟩
    · have hbig' : n ≤ 1048576 := by omega
      have hdec : decD bs = (match markD bs markB 0 with | .error e => .error e | .ok p => match bodyD bs p with | .error e => .error e | .ok (c, p) => if p < bs.length then .error (6, p) else .ok c) := by unfold decD; rw [if_neg (by have := HN.out; omega)]; rfl
      have hmk := marked_any hr3 (HBY.out w3 K3.out) hrw
      have HMK := Lib.hid hmk
      have HDEC := Lib.hid hdec
      clear hmk hdec
      clear hbig hr3
      go_upto_region 7 with (go_at_call 29; refine HMK.out.mono ?_; rintro e w4 ⟨rfl, s4, hr4, hm4, hk4⟩)
      have hn4 := K3.out.step hk4 fun i hi e => by omega
      have hres4 := B13.out.kept hk4 hrr
      have hcb4 := B23.out.kept hk4 hcr
      have hbad := bad_any hr4
      cases s4 with
      | error x =>
        rw [show isErr (.error x) = true from rfl] at hbad
        have hD : decD bs = .error x := by
          rw [HDEC.out]
          unfold MarkRun at hm4
          simp only at hm4
          cases hc : markD bs markB 0 with
          | ok p => rw [hc] at hm4; cases hm4
          | error e => rw [hc] at hm4; cases hm4; rfl
        have HBAD := Lib.hid hbad
        have HN4 := Lib.hid hn4
        have HRES4 := Lib.hid hres4
        have HR4 := Lib.hid hr4
        have HD := Lib.hid hD
        clear hbad hn4 hres4 hr4 hD
        clear hm4 hcb4 hk4
        go_wp2_with (go_at_call 30; refine HBAD.out.mono ?_; rintro e' w' ⟨rfl, rfl⟩)
        go_step3
        obtain ⟨q1, q2⟩ := HQ.out
        subst q1
        subst q2
        exact ⟨rfl, _, rfl, rfl, rfl, rfl, x, HD.out, HR4.out, HRES4.out, HN4.out⟩
      | ok p4 =>
        rw [show isErr (.ok p4) = false from rfl] at hbad
        have hmd : markD bs markB 0 = .ok p4 := by
          unfold MarkRun at hm4
          simp only at hm4
          cases hc : markD bs markB 0 with
          | ok p => rw [hc] at hm4; cases hm4; rfl
          | error e => rw [hc] at hm4; cases hm4
        have hlab := labels_any hr4 (HBY.out w4 hn4) hrw hcw hcr hcb4
        have hdec2 := HDEC.out
        rw [hmd] at hdec2
        simp only at hdec2
        have HBAD := Lib.hid hbad
        have HN4 := Lib.hid hn4
        have HRES4 := Lib.hid hres4
        have HR4 := Lib.hid hr4
        have HLAB := Lib.hid hlab
        have HDEC2 := Lib.hid hdec2
        clear hbad hn4 hres4 hr4 hlab hdec2
        clear hm4 hcb4 hk4 hmd HDEC HMK
        go_upto_region 9 with (first | (go_at_call 30; refine HBAD.out.mono ?_; rintro e' w' ⟨rfl, rfl⟩) | (go_at_call 31; refine HLAB.out.mono ?_; rintro e w5 ⟨rfl, s5, rl, Al, cl, ls, hl5, hrun5⟩))
        have hd5 := DecSt.of_lab hl5 HN4.out HRES4.out hrw hcw hrr hrc
        have hbad := bad_any hd5.at_
        clear HBAD
        cases s5 with
        | error x =>
          rw [show isErr (.error x) = true from rfl] at hbad
          have hD : decD bs = .error x := by
            rw [HDEC2.out]
            unfold Run Agr at hrun5
            simp only at hrun5
            unfold bodyD
            cases hc : labD bs p4 with
            | ok q => rw [hc] at hrun5; obtain ⟨a, b⟩ := q; cases hrun5.1
            | error e => rw [hc] at hrun5; cases hrun5; rfl
          have HBAD := Lib.hid hbad
          have HD5 := Lib.hid hd5
          have HD := Lib.hid hD
          clear hbad hd5 hD
          clear hl5 hrun5
          go_wp2_with (go_at_call 30; refine HBAD.out.mono ?_; rintro e' w' ⟨rfl, rfl⟩)
          go_step3
          obtain ⟨q1, q2⟩ := HQ.out
          subst q1
          subst q2
          exact ⟨rfl, _, rfl, rfl, rfl, rfl, x, HD.out, HD5.out.at_, HD5.out.resB, HD5.out.new⟩
        | ok p5 =>
          rw [show isErr (.ok p5) = false from rfl] at hbad
          have hld : labD bs p4 = .ok (ls, p5) := by
            unfold Run Agr at hrun5
            simp only at hrun5
            cases hc : labD bs p4 with
            | ok q => rw [hc] at hrun5; obtain ⟨a, b⟩ := q; obtain ⟨h1, h2⟩ := hrun5; cases h1; subst h2; rfl
            | error e => rw [hc] at hrun5; cases hrun5
          have htab := table_read hd5.at_ (HBY.out w5 hd5.new) hrw hcw hcr hd5.blk
          have HBAD := Lib.hid hbad
          have HD5 := Lib.hid hd5
          have HTAB := Lib.hid htab
          have HLD := Lib.hid hld
          clear hbad hd5 htab hld
          clear hl5 hrun5 HLAB HN4 HRES4 HR4
          go_upto_region 11 with (first | (go_at_call 30; refine HBAD.out.mono ?_; rintro e' w' ⟨rfl, rfl⟩) | (go_at_call 32; refine HTAB.out.mono ?_; rintro e w6 ⟨rfl, s6, rt, At, ct, tb, ht6, hrun6⟩))
          have hd6 := DecSt.of_tab (s1 := s6) HD5.out ht6 hrw hcw hrr hrc
          have hbad := bad_any hd6.at_
          clear HBAD
          cases s6 with
          | error x =>
            rw [show isErr (.error x) = true from rfl] at hbad
            have hD : decD bs = .error x := by
              rw [HDEC2.out]
              unfold Run Agr at hrun6
              simp only at hrun6
              unfold bodyD
              rw [HLD.out]
              simp only
              cases hc : tabD bs ls.length p5 with
              | ok q => rw [hc] at hrun6; obtain ⟨a, b⟩ := q; cases hrun6.1
              | error e => rw [hc] at hrun6; cases hrun6; rfl
            have HBAD := Lib.hid hbad
            have HD6 := Lib.hid hd6
            have HD := Lib.hid hD
            clear hbad hd6 hD
            clear ht6 hrun6
            go_wp2_with (go_at_call 30; refine HBAD.out.mono ?_; rintro e' w' ⟨rfl, rfl⟩)
            go_step3
            obtain ⟨q1, q2⟩ := HQ.out
            subst q1
            subst q2
            exact ⟨rfl, _, rfl, rfl, rfl, rfl, x, HD.out, HD6.out.at_, HD6.out.resB, HD6.out.new⟩
          | ok p6 =>
            rw [show isErr (.ok p6) = false from rfl] at hbad
            have htd : tabD bs ls.length p5 = .ok (tb, p6) := by
              unfold Run Agr at hrun6
              simp only at hrun6
              cases hc : tabD bs ls.length p5 with
              | ok q => rw [hc] at hrun6; obtain ⟨a, b⟩ := q; obtain ⟨h1, h2⟩ := hrun6; cases h1; subst h2; rfl
              | error e => rw [hc] at hrun6; cases hrun6
            have HBAD := Lib.hid hbad
            have HD6 := Lib.hid hd6
            have HTD := Lib.hid htd
            clear hbad hd6 htd
            clear ht6 hrun6 HTAB HD5
            have hnum := ranged_num (part := 2) (m := 2) (by decide) (by decide) HD6.out.at_ (HBY.out _ HD6.out.new) (by have := HD6.out.new.size; omega)
            have HNUM := Lib.hid hnum
            clear hnum
            go_upto_region 13 with (first | (go_at_call 30; refine HBAD.out.mono ?_; rintro e' w' ⟨rfl, rfl⟩) | (go_at_call 33; refine HNUM.out.mono ?_; rintro e v2w ⟨v2, s2, rfl, hv2, hr, hrun, hk⟩; have HE := Lib.hid (HD6.out.went hr hk hrw hcr hrr); have HRUN2 := Lib.hid hrun; have yj := HE.out.blk.cell 2; have fj := HE.out.blk.free 2; simp only [List.getElem?_toArray, List.getElem?_cons_zero, List.getElem?_cons_succ] at yj; clear hr hrun hk))
            have hd := HE.out.set2 hcw hcr hrc (v2 : Int)
            have HD7 := Lib.hid hd
            clear hd HE yj fj HNUM HD6 HBAD
            generalize World.setCell _ ⟨cb, 2, none⟩ _ = w7 at *
            have hnum := ranged_num (part := 3) (m := 1) (by decide) (by decide) HD7.out.at_ (HBY.out _ HD7.out.new) (by have := HD7.out.new.size; omega)
            have HNUM := Lib.hid hnum
            clear hnum
            go_upto_region 14 with ((go_at_call 33; refine HNUM.out.mono ?_; rintro e v3w ⟨v3, s3, rfl, hv3, hr, hrun, hk⟩; have HE := Lib.hid (HD7.out.went hr hk hrw hcr hrr); have HRUN3 := Lib.hid hrun; have yj := HE.out.blk.cell 3; have fj := HE.out.blk.free 3; simp only [List.getElem?_toArray, List.getElem?_cons_zero, List.getElem?_cons_succ] at yj; clear hr hrun hk))
            have hd := HE.out.set3 hcw hcr hrc (v3 : Int)
            have HD8 := Lib.hid hd
            clear hd HE yj fj HNUM HD7
            generalize World.setCell _ ⟨cb, 3, none⟩ _ = w8 at *
            have hnum := ranged_num (part := 4) (m := 1) (by decide) (by decide) HD8.out.at_ (HBY.out _ HD8.out.new) (by have := HD8.out.new.size; omega)
            have HNUM := Lib.hid hnum
            clear hnum
            go_upto_region 15 with ((go_at_call 33; refine HNUM.out.mono ?_; rintro e v4w ⟨v4, s4, rfl, hv4, hr, hrun, hk⟩; have HE := Lib.hid (HD8.out.went hr hk hrw hcr hrr); have HRUN4 := Lib.hid hrun; have yj := HE.out.blk.cell 4; have fj := HE.out.blk.free 4; simp only [List.getElem?_toArray, List.getElem?_cons_zero, List.getElem?_cons_succ] at yj; clear hr hrun hk))
            have hd := HE.out.set4 hcw hcr hrc (v4 : Int)
            have HD9 := Lib.hid hd
            clear hd HE yj fj HNUM HD8
            generalize World.setCell _ ⟨cb, 4, none⟩ _ = w9 at *
            have hnum := ranged_num (part := 5) (m := 2) (by decide) (by decide) HD9.out.at_ (HBY.out _ HD9.out.new) (by have := HD9.out.new.size; omega)
            have HNUM := Lib.hid hnum
            clear hnum
            go_upto_region 16 with ((go_at_call 33; refine HNUM.out.mono ?_; rintro e v5w ⟨v5, s5, rfl, hv5, hr, hrun, hk⟩; have HE := Lib.hid (HD9.out.went hr hk hrw hcr hrr); have HRUN5 := Lib.hid hrun; have yj := HE.out.blk.cell 5; have fj := HE.out.blk.free 5; simp only [List.getElem?_toArray, List.getElem?_cons_zero, List.getElem?_cons_succ] at yj; clear hr hrun hk))
            have hd := HE.out.set5 hcw hcr hrc (v5 : Int)
            have HD10 := Lib.hid hd
            clear hd HE yj fj HNUM HD9
            generalize World.setCell _ ⟨cb, 5, none⟩ _ = w10 at *
            have hcnt := counted_any (most := 32) HD10.out.at_ (HBY.out _ HD10.out.new) (by have := HD10.out.new.size; omega)
            have HCNT := Lib.hid hcnt
            clear hcnt
            go_wp2_with (go_at_call 34; refine HCNT.out.mono ?_; rintro e w11 ⟨v6, s6, rfl, hv6, hr, hrun, hk⟩; have HD11 := Lib.hid (HD10.out.went hr hk hrw hcr hrr); have HRUN6 := Lib.hid hrun; clear hr hrun hk)
            clear HD10 HCNT
            go_loopw [6] (fun i wr => ∃ (k : Nat) (s1 : St) (Ap : Option Addr) (cp : Nat) (F : Nat → Prop) (acc : List (Int × List Ins)), i = .int .i64 k ∧ acc.length + k ≤ 255 ∧ DecSt w wr r cb w.heap.size A n c s1 (fun k => rl = some k) (fun k => rt = some k) F Al cl At ct Ap cp ls tb (v2 : Int) (v3 : Int) (v4 : Int) (v5 : Int) acc ∧ Hid (∀ s' l, Run (procsD bs ls.length v4 k acc) s1 s' l → Run (prsD bs ls.length v4) s5 s' l)) (fun i _ => (intOf i).toNat)
            case atStart =>
              exact ⟨v6, s6, none, 0, _, [], rfl, by simp only [List.length_nil]; omega, HD11.out, Lib.hid fun s' l h => Run.bind (D1 := numD bs 1 (countF 32)) (D2 := fun n => procsD bs ls.length v4 n []) HRUN6.out h (fun p e h => by unfold prsD; rw [h]) (fun p a p' h => by unfold prsD; rw [h])⟩
            case round =>
              obtain ⟨k, s1, Ap, cp, F, acc, rfl, hlen, hst, hrest⟩ := hrel
              clear HD11 HRUN6
              have hbad := bad_any hst.at_
              have hbody : ∀ s' l, Run (prsD bs ls.length v4) s5 s' l → Run (bodyD bs) (.ok p4) s' ⟨ls, tb, (v2 : Int), (v3 : Int), (v4 : Int), (v5 : Int), l⟩ := fun s' l h => Run.body HLD.out HTD.out (Run.four HRUN2.out HRUN3.out HRUN4.out HRUN5.out) h
              have HBODY := Lib.hid hbody
              clear hbody
              cases s1 with
              | error x =>
                rw [show isErr (.error x) = true from rfl] at hbad
                have hD : decD bs = .error x := by
                  have h := HBODY.out (.error x) acc (hrest.out (.error x) acc rfl)
                  rw [HDEC2.out]
                  unfold Run Agr at h
                  simp only at h
                  cases hc : bodyD bs p4 with
                  | ok q => rw [hc] at h; obtain ⟨a, b⟩ := q; cases h.1
                  | error e => rw [hc] at h; cases h; rfl
                obtain ⟨a9, hr9, hx9, ha9⟩ := hst.at_
                have t1 := Blk.cell hr9 1
                simp only [List.getElem?_toArray, List.getElem?_cons_zero, List.getElem?_cons_succ] at t1
                have hg := fun q => give_bad (e := 6) (q := q) hr9 (.inl hx9)
                have HR := Lib.hid hst.at_
                have HRS := Lib.hid hst.resB
                have HNW := Lib.hid hst.new
                have HBAD := Lib.hid hbad
                have HD := Lib.hid hD
                have HG := Lib.hid hg
                clear hbad hD hg
                clear hrest hst HBODY hr9 hx9
                rename World => W9
                have hcs : a9 < n ∨ n ≤ a9 := by omega
                cases k with
                | zero =>
                  rcases hcs with hcs | hcs
                  · go_wp2_with (first | (go_at_call 30; refine HBAD.out.mono ?_; rintro e' w' ⟨rfl, rfl⟩) | (go_at_call 28; refine (HG.out _).mono ?_; rintro e' w' ⟨rfl, rfl⟩))
                    clear t1
                    obtain ⟨a9, hr9, hx9, ha9⟩ := HR.out
                    have r2 := Blk.cell hr9 2
                    have r3 := Blk.cell hr9 3
                    simp only [List.getElem?_toArray, List.getElem?_cons_zero, List.getElem?_cons_succ] at r2 r3
                    have hres9 := HRS.out
                    unfold zeroC at hres9
                    have y0 := hres9.cell 0
                    have y1 := hres9.cell 1
                    have y2 := hres9.cell 2
                    have y3 := hres9.cell 3
                    have y4 := hres9.cell 4
                    have y5 := hres9.cell 5
                    have y6 := hres9.cell 6
                    simp only [List.getElem?_toArray, List.getElem?_cons_zero, List.getElem?_cons_succ] at y0 y1 y2 y3 y4 y5 y6
                    have g0 := hres9.free 0
                    have g1 := hres9.free 1
                    have g2 := hres9.free 2
                    have g3 := hres9.free 3
                    have g4 := hres9.free 4
                    have g5 := hres9.free 5
                    have g6 := hres9.free 6
                    have hb10 := Blk.drew (set7_blk hres9 (.slice none 0 0) (.slice none 0 0) (.int .i64 0) (.int .i64 0) (.int .i64 0) (.int .i64 0) (.slice none 0 0))
                    have hk10 := (set7_kept W9 w.heap.size (.slice none 0 0) (.slice none 0 0) (.int .i64 0) (.int .i64 0) (.int .i64 0) (.int .i64 0) (.slice none 0 0)).drew
                    unfold set7 at hb10 hk10
                    have HB10 := Lib.hid hb10
                    have HK10 := Lib.hid hk10
                    have HX9 := Lib.hid hx9
                    clear hb10 hk10 hx9
                    clear hr9 hres9
                    go_step3
                    go_wp2_with (go_at_call 30; refine HBAD.out.mono ?_; rintro e' w' ⟨rfl, rfl⟩)
                    go_region
                    have hb10 := HB10.out
                    have hk10 := HK10.out
                    clear y0 y1 y2 y3 y4 y5 y6 g0 g1 g2 g3 g4 g5 g6 r2 r3 HB10 HK10
                    generalize World.drew _ = W at *
                    have y0 := hb10.cell 0
                    have y1 := hb10.cell 1
                    have y2 := hb10.cell 2
                    have y3 := hb10.cell 3
                    have y4 := hb10.cell 4
                    have y5 := hb10.cell 5
                    have y6 := hb10.cell 6
                    simp only [List.getElem?_toArray, List.getElem?_cons_zero, List.getElem?_cons_succ] at y0 y1 y2 y3 y4 y5 y6
                    go_wp2_with fail
                    simp only [Exit.jump]
                    refine bodyPost_ret (v := .tuple #[.agg #[.slice none 0 0, .slice none 0 0, .int .i64 0, .int .i64 0, .int .i64 0, .int .i64 0, .slice none 0 0], .int .i64 x.1, .int .i64 x.2]) (by simp [results, Try.results11, go_sem, y0, y1, y2, y3, y4, y5, y6]) rfl ?_
                    refine ⟨zeroC, fun _ => False, ?_, ?_, fun _ h => h.elim, ?_⟩
                    · unfold decE; rw [HD.out]; rfl
                    · unfold decL; rw [HD.out]; exact own_zero _
                    · exact HNW.out.step hk10 fun i hi e => by omega
                  · go_wp2_with (first | (go_at_call 30; refine HBAD.out.mono ?_; rintro e' w' ⟨rfl, rfl⟩) | (go_at_call 28; refine (HG.out _).mono ?_; rintro e' w' ⟨rfl, rfl⟩))
                    clear t1
                    obtain ⟨a9, hr9, hx9, ha9⟩ := HR.out
                    have r2 := Blk.cell hr9 2
                    have r3 := Blk.cell hr9 3
                    simp only [List.getElem?_toArray, List.getElem?_cons_zero, List.getElem?_cons_succ] at r2 r3
                    have hres9 := HRS.out
                    unfold zeroC at hres9
                    have y0 := hres9.cell 0
                    have y1 := hres9.cell 1
                    have y2 := hres9.cell 2
                    have y3 := hres9.cell 3
                    have y4 := hres9.cell 4
                    have y5 := hres9.cell 5
                    have y6 := hres9.cell 6
                    simp only [List.getElem?_toArray, List.getElem?_cons_zero, List.getElem?_cons_succ] at y0 y1 y2 y3 y4 y5 y6
                    have g0 := hres9.free 0
                    have g1 := hres9.free 1
                    have g2 := hres9.free 2
                    have g3 := hres9.free 3
                    have g4 := hres9.free 4
                    have g5 := hres9.free 5
                    have g6 := hres9.free 6
                    have hb10 := Blk.drew (set7_blk hres9 (.slice none 0 0) (.slice none 0 0) (.int .i64 0) (.int .i64 0) (.int .i64 0) (.int .i64 0) (.slice none 0 0))
                    have hk10 := (set7_kept W9 w.heap.size (.slice none 0 0) (.slice none 0 0) (.int .i64 0) (.int .i64 0) (.int .i64 0) (.int .i64 0) (.slice none 0 0)).drew
                    unfold set7 at hb10 hk10
                    have HB10 := Lib.hid hb10
                    have HK10 := Lib.hid hk10
                    have HX9 := Lib.hid hx9
                    clear hb10 hk10 hx9
                    clear hr9 hres9
                    go_step3
                    go_wp2_with (go_at_call 30; refine HBAD.out.mono ?_; rintro e' w' ⟨rfl, rfl⟩)
                    go_region
                    have hb10 := HB10.out
                    have hk10 := HK10.out
                    clear y0 y1 y2 y3 y4 y5 y6 g0 g1 g2 g3 g4 g5 g6 r2 r3 HB10 HK10
                    generalize World.drew _ = W at *
                    have y0 := hb10.cell 0
                    have y1 := hb10.cell 1
                    have y2 := hb10.cell 2
                    have y3 := hb10.cell 3
                    have y4 := hb10.cell 4
                    have y5 := hb10.cell 5
                    have y6 := hb10.cell 6
                    simp only [List.getElem?_toArray, List.getElem?_cons_zero, List.getElem?_cons_succ] at y0 y1 y2 y3 y4 y5 y6
                    go_wp2_with fail
                    simp only [Exit.jump]
                    refine bodyPost_ret (v := .tuple #[.agg #[.slice none 0 0, .slice none 0 0, .int .i64 0, .int .i64 0, .int .i64 0, .int .i64 0, .slice none 0 0], .int .i64 x.1, .int .i64 x.2]) (by simp [results, Try.results11, go_sem, y0, y1, y2, y3, y4, y5, y6]) rfl ?_
                    refine ⟨zeroC, fun _ => False, ?_, ?_, fun _ h => h.elim, ?_⟩
                    · unfold decE; rw [HD.out]; rfl
                    · unfold decL; rw [HD.out]; exact own_zero _
                    · exact HNW.out.step hk10 fun i hi e => by omega
                | succ k =>
                  rcases hcs with hcs | hcs
                  · go_wp2_with (first | (go_at_call 30; refine HBAD.out.mono ?_; rintro e' w' ⟨rfl, rfl⟩) | (go_at_call 28; refine (HG.out _).mono ?_; rintro e' w' ⟨rfl, rfl⟩))
                    clear t1
                    obtain ⟨a9, hr9, hx9, ha9⟩ := HR.out
                    have r2 := Blk.cell hr9 2
                    have r3 := Blk.cell hr9 3
                    simp only [List.getElem?_toArray, List.getElem?_cons_zero, List.getElem?_cons_succ] at r2 r3
                    have hres9 := HRS.out
                    unfold zeroC at hres9
                    have y0 := hres9.cell 0
                    have y1 := hres9.cell 1
                    have y2 := hres9.cell 2
                    have y3 := hres9.cell 3
                    have y4 := hres9.cell 4
                    have y5 := hres9.cell 5
                    have y6 := hres9.cell 6
                    simp only [List.getElem?_toArray, List.getElem?_cons_zero, List.getElem?_cons_succ] at y0 y1 y2 y3 y4 y5 y6
                    have g0 := hres9.free 0
                    have g1 := hres9.free 1
                    have g2 := hres9.free 2
                    have g3 := hres9.free 3
                    have g4 := hres9.free 4
                    have g5 := hres9.free 5
                    have g6 := hres9.free 6
                    have hb10 := Blk.drew (set7_blk hres9 (.slice none 0 0) (.slice none 0 0) (.int .i64 0) (.int .i64 0) (.int .i64 0) (.int .i64 0) (.slice none 0 0))
                    have hk10 := (set7_kept W9 w.heap.size (.slice none 0 0) (.slice none 0 0) (.int .i64 0) (.int .i64 0) (.int .i64 0) (.int .i64 0) (.slice none 0 0)).drew
                    unfold set7 at hb10 hk10
                    have HB10 := Lib.hid hb10
                    have HK10 := Lib.hid hk10
                    have HX9 := Lib.hid hx9
                    clear hb10 hk10 hx9
                    clear hr9 hres9
                    go_step3
                    go_wp2_with (go_at_call 30; refine HBAD.out.mono ?_; rintro e' w' ⟨rfl, rfl⟩)
                    go_region
                    have hb10 := HB10.out
                    have hk10 := HK10.out
                    clear y0 y1 y2 y3 y4 y5 y6 g0 g1 g2 g3 g4 g5 g6 r2 r3 HB10 HK10
                    generalize World.drew _ = W at *
                    have y0 := hb10.cell 0
                    have y1 := hb10.cell 1
                    have y2 := hb10.cell 2
                    have y3 := hb10.cell 3
                    have y4 := hb10.cell 4
                    have y5 := hb10.cell 5
                    have y6 := hb10.cell 6
                    simp only [List.getElem?_toArray, List.getElem?_cons_zero, List.getElem?_cons_succ] at y0 y1 y2 y3 y4 y5 y6
                    go_wp2_with fail
                    simp only [Exit.jump]
                    refine bodyPost_ret (v := .tuple #[.agg #[.slice none 0 0, .slice none 0 0, .int .i64 0, .int .i64 0, .int .i64 0, .int .i64 0, .slice none 0 0], .int .i64 x.1, .int .i64 x.2]) (by simp [results, Try.results11, go_sem, y0, y1, y2, y3, y4, y5, y6]) rfl ?_
                    refine ⟨zeroC, fun _ => False, ?_, ?_, fun _ h => h.elim, ?_⟩
                    · unfold decE; rw [HD.out]; rfl
                    · unfold decL; rw [HD.out]; exact own_zero _
                    · exact HNW.out.step hk10 fun i hi e => by omega
                  · go_wp2_with (first | (go_at_call 30; refine HBAD.out.mono ?_; rintro e' w' ⟨rfl, rfl⟩) | (go_at_call 28; refine (HG.out _).mono ?_; rintro e' w' ⟨rfl, rfl⟩))
                    clear t1
                    obtain ⟨a9, hr9, hx9, ha9⟩ := HR.out
                    have r2 := Blk.cell hr9 2
                    have r3 := Blk.cell hr9 3
                    simp only [List.getElem?_toArray, List.getElem?_cons_zero, List.getElem?_cons_succ] at r2 r3
                    have hres9 := HRS.out
                    unfold zeroC at hres9
                    have y0 := hres9.cell 0
                    have y1 := hres9.cell 1
                    have y2 := hres9.cell 2
                    have y3 := hres9.cell 3
                    have y4 := hres9.cell 4
                    have y5 := hres9.cell 5
                    have y6 := hres9.cell 6
                    simp only [List.getElem?_toArray, List.getElem?_cons_zero, List.getElem?_cons_succ] at y0 y1 y2 y3 y4 y5 y6
                    have g0 := hres9.free 0
                    have g1 := hres9.free 1
                    have g2 := hres9.free 2
                    have g3 := hres9.free 3
                    have g4 := hres9.free 4
                    have g5 := hres9.free 5
                    have g6 := hres9.free 6
                    have hb10 := Blk.drew (set7_blk hres9 (.slice none 0 0) (.slice none 0 0) (.int .i64 0) (.int .i64 0) (.int .i64 0) (.int .i64 0) (.slice none 0 0))
                    have hk10 := (set7_kept W9 w.heap.size (.slice none 0 0) (.slice none 0 0) (.int .i64 0) (.int .i64 0) (.int .i64 0) (.int .i64 0) (.slice none 0 0)).drew
                    unfold set7 at hb10 hk10
                    have HB10 := Lib.hid hb10
                    have HK10 := Lib.hid hk10
                    have HX9 := Lib.hid hx9
                    clear hb10 hk10 hx9
                    clear hr9 hres9
                    go_step3
                    go_wp2_with (go_at_call 30; refine HBAD.out.mono ?_; rintro e' w' ⟨rfl, rfl⟩)
                    go_region
                    have hb10 := HB10.out
                    have hk10 := HK10.out
                    clear y0 y1 y2 y3 y4 y5 y6 g0 g1 g2 g3 g4 g5 g6 r2 r3 HB10 HK10
                    generalize World.drew _ = W at *
                    have y0 := hb10.cell 0
                    have y1 := hb10.cell 1
                    have y2 := hb10.cell 2
                    have y3 := hb10.cell 3
                    have y4 := hb10.cell 4
                    have y5 := hb10.cell 5
                    have y6 := hb10.cell 6
                    simp only [List.getElem?_toArray, List.getElem?_cons_zero, List.getElem?_cons_succ] at y0 y1 y2 y3 y4 y5 y6
                    go_wp2_with fail
                    simp only [Exit.jump]
                    refine bodyPost_ret (v := .tuple #[.agg #[.slice none 0 0, .slice none 0 0, .int .i64 0, .int .i64 0, .int .i64 0, .int .i64 0, .slice none 0 0], .int .i64 x.1, .int .i64 x.2]) (by simp [results, Try.results11, go_sem, y0, y1, y2, y3, y4, y5, y6]) rfl ?_
                    refine ⟨zeroC, fun _ => False, ?_, ?_, fun _ h => h.elim, ?_⟩
                    · unfold decE; rw [HD.out]; rfl
                    · unfold decL; rw [HD.out]; exact own_zero _
                    · exact HNW.out.step hk10 fun i hi e => by omega
              | ok p12 =>
                rw [show isErr (.ok p12) = false from rfl] at hbad
                cases k with
                | zero =>
                  have hb := HBODY.out (.ok p12) acc (hrest.out (.ok p12) acc Run.pure)
                  have hbd2 : bodyD bs p4 = .ok (⟨ls, tb, (v2 : Int), (v3 : Int), (v4 : Int), (v5 : Int), acc⟩, p12) := by
                    unfold Run Agr at hb
                    simp only at hb
                    cases hc : bodyD bs p4 with
                    | ok q => rw [hc] at hb; obtain ⟨a, b⟩ := q; obtain ⟨h1, h2⟩ := hb; cases h1; subst h2; rfl
                    | error e => rw [hc] at hb; cases hb
                  have hdd := HDEC2.out
                  rw [hbd2] at hdd
                  simp only at hdd
                  have t1 := Blk.cell hst.at_.1 1
                  simp only [List.getElem?_toArray, List.getElem?_cons_zero, List.getElem?_cons_succ] at t1
                  by_cases hlt : p12 < n
                  · have hD : decD bs = .error (6, p12) := by rw [hdd, if_pos (by have := HN.out; omega)]
                    have hg := give_any (e := 6) (q := (p12 : Int)) hst.at_
                    rw [show giveS (.ok p12) 6 p12 = .error (6, (p12 : Int)) from rfl] at hg
                    generalize hx : ((6, (p12 : Int)) : Int × Int) = x at *
                    have HXX := Lib.hid hx
                    have HST := Lib.hid hst
                    have HD := Lib.hid hD
                    have HG := Lib.hid hg
                    clear hst hD hg
                    clear hrest hb hbd2 hdd hbad hx
                    go_wp2_with (go_at_call 28; refine HG.out.mono ?_; rintro e' W9 ⟨rfl, hr10, hk10⟩; have hb99 := bad_any hr10; rw [show isErr (.error x) = true from rfl] at hb99; have HBAD := Lib.hid hb99; clear hb99; have HR := Lib.hid hr10; have HRS := Lib.hid (HST.out.resB.kept hk10 hrr); have HNW := Lib.hid (HST.out.new.step hk10 fun i hi e => by omega); clear hr10 hk10)
                    clear t1
                    clear HG
                    obtain ⟨a9, hr9, hx9, ha9⟩ := HR.out
                    have r2 := Blk.cell hr9 2
                    have r3 := Blk.cell hr9 3
                    simp only [List.getElem?_toArray, List.getElem?_cons_zero, List.getElem?_cons_succ] at r2 r3
                    have hres9 := HRS.out
                    unfold zeroC at hres9
                    have y0 := hres9.cell 0
                    have y1 := hres9.cell 1
                    have y2 := hres9.cell 2
                    have y3 := hres9.cell 3
                    have y4 := hres9.cell 4
                    have y5 := hres9.cell 5
                    have y6 := hres9.cell 6
                    simp only [List.getElem?_toArray, List.getElem?_cons_zero, List.getElem?_cons_succ] at y0 y1 y2 y3 y4 y5 y6
                    have g0 := hres9.free 0
                    have g1 := hres9.free 1
                    have g2 := hres9.free 2
                    have g3 := hres9.free 3
                    have g4 := hres9.free 4
                    have g5 := hres9.free 5
                    have g6 := hres9.free 6
                    have hb10 := Blk.drew (set7_blk hres9 (.slice none 0 0) (.slice none 0 0) (.int .i64 0) (.int .i64 0) (.int .i64 0) (.int .i64 0) (.slice none 0 0))
                    have hk10 := (set7_kept W9 w.heap.size (.slice none 0 0) (.slice none 0 0) (.int .i64 0) (.int .i64 0) (.int .i64 0) (.int .i64 0) (.slice none 0 0)).drew
                    unfold set7 at hb10 hk10
                    have HB10 := Lib.hid hb10
                    have HK10 := Lib.hid hk10
                    have HX9 := Lib.hid hx9
                    clear hb10 hk10 hx9
                    clear hr9 hres9
                    go_step3
                    go_wp2_with (go_at_call 30; refine HBAD.out.mono ?_; rintro e' w' ⟨rfl, rfl⟩)
                    go_region
                    have hb10 := HB10.out
                    have hk10 := HK10.out
                    clear y0 y1 y2 y3 y4 y5 y6 g0 g1 g2 g3 g4 g5 g6 r2 r3 HB10 HK10
                    generalize World.drew _ = W at *
                    have y0 := hb10.cell 0
                    have y1 := hb10.cell 1
                    have y2 := hb10.cell 2
                    have y3 := hb10.cell 3
                    have y4 := hb10.cell 4
                    have y5 := hb10.cell 5
                    have y6 := hb10.cell 6
                    simp only [List.getElem?_toArray, List.getElem?_cons_zero, List.getElem?_cons_succ] at y0 y1 y2 y3 y4 y5 y6
                    go_wp2_with fail
                    simp only [Exit.jump]
                    refine bodyPost_ret (v := .tuple #[.agg #[.slice none 0 0, .slice none 0 0, .int .i64 0, .int .i64 0, .int .i64 0, .int .i64 0, .slice none 0 0], .int .i64 x.1, .int .i64 x.2]) (by simp [results, Try.results11, go_sem, y0, y1, y2, y3, y4, y5, y6]) rfl ?_
                    refine ⟨zeroC, fun _ => False, ?_, ?_, fun _ h => h.elim, ?_⟩
                    · unfold decE; rw [HD.out]; rfl
                    · unfold decL; rw [HD.out]; exact own_zero _
                    · exact HNW.out.step hk10 fun i hi e => by omega
                  · have hD : decD bs = .ok ⟨ls, tb, (v2 : Int), (v3 : Int), (v4 : Int), (v5 : Int), acc⟩ := by rw [hdd, if_neg (by have := HN.out; omega)]
                    have hge : n ≤ p12 := by omega
                    have HST := Lib.hid hst
                    have HD := Lib.hid hD
                    have HBAD := Lib.hid hbad
                    clear hst hD hbad
                    clear hrest hb hbd2 hdd hlt
                    go_wp2_with fail
                    go_step3
                    have hb10 := set7_blk (show Blk wr w.heap.size 26 #[.slice none 0 0, .slice none 0 0, .int .i64 0, .int .i64 0, .int .i64 0, .int .i64 0, .slice none 0 0] from HST.out.resB) (.slice Al ls.length cl) (.slice At tb.length ct) (.int .i64 (v2 : Int)) (.int .i64 (v3 : Int)) (.int .i64 (v4 : Int)) (.int .i64 (v5 : Int)) (.slice Ap acc.length cp)
                    have hk10 := set7_kept wr w.heap.size (.slice Al ls.length cl) (.slice At tb.length ct) (.int .i64 (v2 : Int)) (.int .i64 (v3 : Int)) (.int .i64 (v4 : Int)) (.int .i64 (v5 : Int)) (.slice Ap acc.length cp)
                    unfold set7 at hb10 hk10
                    have hres9 := HST.out.resB
                    have hcb9 := HST.out.blk
                    unfold zeroC at hres9
                    have u0 := hres9.cell 0
                    have u1 := hres9.cell 1
                    have u2 := hres9.cell 2
                    have u3 := hres9.cell 3
                    have u4 := hres9.cell 4
                    have u5 := hres9.cell 5
                    have u6 := hres9.cell 6
                    simp only [List.getElem?_toArray, List.getElem?_cons_zero, List.getElem?_cons_succ] at u0 u1 u2 u3 u4 u5 u6
                    have g0 := hres9.free 0
                    have g1 := hres9.free 1
                    have g2 := hres9.free 2
                    have g3 := hres9.free 3
                    have g4 := hres9.free 4
                    have g5 := hres9.free 5
                    have g6 := hres9.free 6
                    have y0 := hcb9.cell 0
                    have y1 := hcb9.cell 1
                    have y2 := hcb9.cell 2
                    have y3 := hcb9.cell 3
                    have y4 := hcb9.cell 4
                    have y5 := hcb9.cell 5
                    have y6 := hcb9.cell 6
                    simp only [List.getElem?_toArray, List.getElem?_cons_zero, List.getElem?_cons_succ] at y0 y1 y2 y3 y4 y5 y6
                    have HB10 := Lib.hid hb10
                    have HK10 := Lib.hid hk10
                    clear hb10 hk10
                    clear hres9 hcb9 t1
                    go_wp2_with (go_at_call 30; refine HBAD.out.mono ?_; rintro e' w' ⟨rfl, rfl⟩)
                    have hb10 := HB10.out
                    have hk10 := HK10.out
                    clear y0 y1 y2 y3 y4 y5 y6 g0 g1 g2 g3 g4 g5 g6 u0 u1 u2 u3 u4 u5 u6 HB10 HK10
                    generalize World.setCell _ ⟨w.heap.size, 6, none⟩ _ = W at *
                    have y0 := hb10.cell 0
                    have y1 := hb10.cell 1
                    have y2 := hb10.cell 2
                    have y3 := hb10.cell 3
                    have y4 := hb10.cell 4
                    have y5 := hb10.cell 5
                    have y6 := hb10.cell 6
                    simp only [List.getElem?_toArray, List.getElem?_cons_zero, List.getElem?_cons_succ] at y0 y1 y2 y3 y4 y5 y6
                    simp only [Exit.jump]
                    refine bodyPost_ret (v := .tuple #[.agg #[.slice Al ls.length cl, .slice At tb.length ct, .int .i64 (v2 : Int), .int .i64 (v3 : Int), .int .i64 (v4 : Int), .int .i64 (v5 : Int), .slice Ap acc.length cp], .int .i64 0, .int .i64 0]) (by simp [results, Try.results11, go_sem, y0, y1, y2, y3, y4, y5, y6]) rfl ?_
                    have ho := HST.out.own
                    refine ⟨#[.slice Al ls.length cl, .slice At tb.length ct, .int .i64 (v2 : Int), .int .i64 (v3 : Int), .int .i64 (v4 : Int), .int .i64 (v5 : Int), .slice Ap acc.length cp], fun k => rl = some k ∨ rt = some k ∨ F k, ?_, ?_, fun k e => (ho k e).1, HST.out.new.step hk10 fun i hi e => by omega⟩
                    · unfold decE; rw [HD.out]
                    · unfold decL; rw [HD.out]
                      exact ⟨Al, cl, At, ct, Ap, cp, fun k => rl = some k, fun k => rt = some k, F, rfl, HST.out.labs.kept hk10 (fun k e => (ho k (.inl e)).2.2.2.1), HST.out.tab.kept hk10 (fun k e => (ho k (.inr (.inl e))).2.2.2.1), HST.out.prs.kept hk10 (fun k e => (ho k (.inr (.inr e))).2.2.2.1), fun _ h => h, HST.out.dis, wf_small (by omega), wf_small (by omega), wf_small (by omega), wf_small (by omega)⟩
                | succ k =>
                  have ho := hst.own
                  have hpr := proc_any hst.at_ (HBY.out wr hst.new) hrw hcw hcr hst.blk hst.prs (fun k e => ⟨(ho k (.inr (.inr e))).1, (ho k (.inr (.inr e))).2.1, (ho k (.inr (.inr e))).2.2.1, (ho k (.inr (.inr e))).2.2.2.2⟩) (by omega)
                  have HREST := Lib.hid (fun (x : Int × List Ins) (s2 : St) (h : Run (procD bs ls.length v4) (.ok p12) s2 x) (s' : St) (l : List (Int × List Ins)) (h2 : Run (procsD bs ls.length v4 k (acc ++ [x])) s2 s' l) => hrest.out s' l (Run.bind (D1 := procD bs ls.length v4) (D2 := fun x => procsD bs ls.length v4 k (acc ++ [x])) h h2 (fun p e h => by rw [procsD, h]) (fun p a p' h => by rw [procsD, h])))
                  have HST := Lib.hid hst
                  have HPR := Lib.hid hpr
                  have HBAD := Lib.hid hbad
                  clear hst hpr hbad
                  clear hrest ho
                  go_wp2_with (first | (go_at_call 30; refine HBAD.out.mono ?_; rintro e' w' ⟨rfl, rfl⟩) | (go_at_call 35; refine HPR.out.mono ?_; rintro e w12 ⟨rfl, hp12⟩; obtain ⟨x, s7, Ap', cp', F', hd7, hrun7⟩ := HST.out.proc hrw hcw hrr hrc hp12; have HD7 := Lib.hid hd7; have HRUN7 := Lib.hid hrun7; clear hp12 hd7 hrun7))
                  exact ⟨⟨k, s7, Ap', cp', F', acc ++ [x], by go_num, by simp only [List.length_append, List.length_singleton]; omega, HD7.out, Lib.hid fun s' l h2 => HREST.out x s7 HRUN7.out s' l h2⟩, by simp [intOf]⟩
end
end Go.Proofs.Ytaefgljpdpigeaa.Conf
