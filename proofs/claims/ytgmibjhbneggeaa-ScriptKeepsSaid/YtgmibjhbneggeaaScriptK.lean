/- The walk of chapter 16's reference Decode, and of the law ScriptReads. -/
import Derived.Test.YtgmibjhbneggeaaScriptT
import Derived.Test.YtgmibjhbneggeaaScriptKP
import Derived.Test.YtgmibjhbneggeaaReader
import Derived.Test.YtgmibjhbneggeaaOwn
namespace Go.Proofs.Ytgmibjhbneggeaa.Script
open Go.RowKit Go.Fb Go.BytesP Go.ScriptP Go.ReaderP
set_option linter.unusedVariables false

/-- What the reference's Decode tells. -/
def RDec (w w' : World) (e : Ending) : Except (Int × Int) (List Step) → Prop
  | .error x => e = .returned (.tuple #[.slice none 0 0, .int .i64 x.1, .int .i64 x.2]) ∧ New w w'
  | .ok l => ∃ r A c, e = .returned (.tuple #[.slice A l.length c, .int .i64 0, .int .i64 0]) ∧ Row w' 3 r A l.length c (l.flatMap cellsS) ∧ (∀ k, r = some k → w.heap.size ≤ k) ∧ (∀ s ∈ l, Wf s) ∧ New w w'
theorem ref_decode_long (A : Option Addr) (n c : Nat) (bs : List UInt8) (w : World) (hb : SliceOf Rep.byte w w.heap.size A n c bs) (hl : 1048576 < bs.length) :
    Calls Try.prog 14 #[.slice A n c] w fun e w' => RDec w w' e (dec bs) := by
  have e : dec bs = .error (22, 1048576) := by unfold dec; rw [if_pos hl]
  rw [e]
  have hn := hb.len
  have hbd := hb.bound
  have h : 1048576 < n := by omega
  clear hb hn e hl
  go_enter Try.func14, Try.ntmps14
  go_wp2_with fail
  refine bodyPost_ret (results_tmp3 rfl _ _ _) rfl ?_
  exact ⟨rfl, Kept.refl _ _⟩
/-- How the loop stands behind k rounds. -/
def LoopAt (bs : List UInt8) (m k : Nat) (acc : List Step) : St → Prop
  | .error x => dec bs = .error x
  | .ok p => m ≤ 1024 ∧ k ≤ m ∧ acc.length = k ∧ dec bs = fin bs acc p (m - k) ∧ ∀ s ∈ acc, Fine s
theorem fine_wf {s : Step} (h : Fine s) : Wf s := by
  obtain ⟨f1, f2, f3, f4, _⟩ := h.bd
  obtain ⟨_, f5, f6⟩ := h
  refine ⟨?_, ?_, ?_⟩ <;> simp [Lit.wf, IntKind.min, IntKind.max, IntKind.signed, IntKind.bits] <;> omega
theorem loop_next {bs : List UInt8} {m k p f : Nat} {acc : List Step} {S : Step} {s3 : St} (hd : dec bs = fin bs acc p (m - k)) (hf : m - k = f + 1) (hm : m ≤ 1024) (hac : acc.length = k) (hfine : ∀ s ∈ acc, Fine s)
    (hst : rStep bs (.ok p) = (S, s3)) : LoopAt bs m (k + 1) (acc ++ [S]) s3 := by
  rw [hf] at hd
  cases hp : pStep bs p with
  | error e =>
    have := rStep_err hp
    rw [hst] at this
    simp only at this
    subst this
    exact hd.trans (fin_err hp)
  | ok x =>
    obtain ⟨s, q⟩ := x
    have := rStep_ok hp
    rw [hst] at this
    simp only [Prod.mk.injEq] at this
    obtain ⟨rfl, rfl⟩ := this
    refine ⟨hm, by omega, by simp [hac], ?_, ?_⟩
    · rw [hd, fin_ok hp, show m - (k + 1) = f by omega]
    · intro s' hs'
      rcases List.mem_append.1 hs' with h | h
      · exact hfine s' h
      · rw [List.mem_singleton.1 h]; exact (pStep_some hp).1
set_option maxHeartbeats 1000000 in
theorem ref_decode_walk (A : Option Addr) (n c : Nat) (bs : List UInt8) (w : World) (hb : SliceOf Rep.byte w w.heap.size A n c bs) (hl : bs.length ≤ 1048576) :
    Calls Try.prog 14 #[.slice A n c] w fun e w' => RDec w w' e (dec bs) := by
  have hn := hb.len
  have hbd := hb.bound
  have h : n ≤ 1048576 := by omega
  have hhd := rHead_dec hl
  have HB := Lib.hid hb
  have HN := Lib.hid hn
  have HHD := Lib.hid hhd
  clear hb hn hhd
  clear hl
  go_enter Try.func14, Try.ntmps14
  go_wp2_with fail
  have hb0 : SliceOf Rep.byte (w.alloc (.cells #[.slice A n c, .int .i64 0, .int .i64 0, .int .i64 0] 53)) w.heap.size A n c bs := HB.out.alloc (Nat.le_refl _) _
  refine (Reader.mark_any w.heap.size w.heap.size A n c bs (.ok 0) _ _ (by decide) ⟨Blk.made w _ _, Nat.zero_le _⟩ hb0 (Nat.le_refl _)).mono ?_
  rintro e w1 ⟨rfl, hr1, hk1⟩
  have hb1 : SliceOf Rep.byte w1 w.heap.size A n c bs := hb0.on hk1 (Nat.le_refl _) (by simp)
  have hw1 : New w w1 := ((Kept.refl (fun _ => False) _).alloc _).step hk1 fun i hi e => by omega
  have HR1 := Lib.hid hr1
  have HB1 := Lib.hid hb1
  have HW1 := Lib.hid hw1
  clear hr1 hb1 hw1
  clear hk1 hb0
  go_wp2_with fail
  refine (Reader.int_any w.heap.size 2 w.heap.size A n c bs _ _ 0 1024 3 3 HR1.out HB1.out (Nat.le_refl _) (by decide) (by decide) (by decide) (by decide) (by decide)).mono ?_
  rintro e w2 ⟨rfl, hr2, hk2⟩
  have hh : rInt bs (rMark bs (.ok 0) (ByteArray.mk #[70, 66, 83, 67, 1]).data.toList) 2 0 1024 3 3 = rHead bs := rfl
  rw [hh] at hr2 ⊢
  clear hh
  have hb2 : SliceOf Rep.byte w2 w.heap.size A n c bs := HB1.out.on hk2 (Nat.le_refl _) HR1.out.lt
  have hw2 : New w w2 := HW1.out.step hk2 fun i hi e => by omega
  obtain ⟨g1, g2, g3⟩ := HHD.out
  have G3 := Lib.hid g3
  clear g3
  generalize (rHead bs).1 = mv at *
  generalize (rHead bs).2 = s2 at *
  have HR2 := Lib.hid hr2
  have HB2 := Lib.hid hb2
  have HW2 := Lib.hid hw2
  clear hr2 hb2 hw2
  clear hk2
  go_wp2_with fail
  go_loopw [7, 8] (fun v i wr => ∃ (k : Nat) (acc : List Step) (s' : St) (rr : Option Nat) (AA : Option Addr) (cc : Nat), (k : Int) ≤ mv ∧ i = .int .i64 k ∧ v = .slice AA acc.length cc ∧ Row wr 3 rr AA acc.length cc (acc.flatMap cellsS) ∧ (∀ g, rr = some g → w.heap.size < g) ∧ Reader.At wr w.heap.size A n c s' ∧ LoopAt bs mv.toNat k acc s' ∧ New w wr) (fun _ i _ => (mv - intOf i).toNat)
  case atStart =>
    refine ⟨0, [], s2, none, _, 0, by omega, rfl, rfl, ⟨rfl, .inl ⟨rfl, rfl, rfl⟩⟩, (by intro g hg; cases hg), HR2.out.kept ((Kept.refl (fun _ => False) _).alloc _) id, ?_, HW2.out.alloc _⟩
    have := G3.out
    cases s2 with
    | error x => exact this.1
    | ok p => obtain ⟨rfl, _, h3, h4⟩ := this; exact ⟨by omega, Nat.zero_le _, rfl, h4, by simp⟩
  case round =>
    obtain ⟨k, acc, s', rr, AA, cc, hk, rfl, rfl, hrow, hrr, ha, hL, hw⟩ := hrel
    have hb3 := (HB.out.below hw.below)
    cases s' with
    | error x =>
      obtain ⟨a, hr, he⟩ := ha
      have c2 : wr.cell? ⟨w.heap.size, 2, none⟩ = some (.int .i64 x.1) := Blk.cell hr 2
      have c3 : wr.cell? ⟨w.heap.size, 3, none⟩ = some (.int .i64 x.2) := Blk.cell hr 3
      have h2 : (x.1 == 0) = false := by simpa using he
      have h3 : (x.1 != 0) = true := by simpa using he
      have HD := Lib.hid (show dec bs = .error x from hL)
      have HW := Lib.hid hw
      clear hw
      clear hb3 hr hrow hrr he hL
      by_cases hlt : (k : Int) < mv
      · go_wp2_with fail
        go_quiet (fail)
        go_wp2_with fail
        refine bodyPost_ret (results_tmp3 rfl _ _ _) rfl ?_
        rw [HD.out]
        exact ⟨rfl, HW.out.drewN _⟩
      · have hlt' : decide ((k : Int) < mv) = false := by simpa using hlt
        go_wp2_with fail
        go_quiet (fail)
        go_wp2_with fail
        refine bodyPost_ret (results_tmp3 rfl _ _ _) rfl ?_
        rw [HD.out]
        exact ⟨rfl, HW.out.drewN _⟩
    | ok p =>
      obtain ⟨hr, hp⟩ := ha
      obtain ⟨hm1024, hkm, hac, hd, hfine⟩ := hL
      have c1 : wr.cell? ⟨w.heap.size, 1, none⟩ = some (.int .i64 p) := Blk.cell hr 1
      have c2 : wr.cell? ⟨w.heap.size, 2, none⟩ = some (.int .i64 0) := Blk.cell hr 2
      by_cases hlt : (k : Int) < mv
      · have hm' : (k : Nat) < mv.toNat := by omega
        obtain ⟨f, hf⟩ : ∃ f, mv.toNat - k = f + 1 := ⟨mv.toNat - k - 1, by omega⟩
        have hkb := rStep_bd bs (.ok p)
        have hst : rStep bs (.ok p) = rStepK bs (rInt bs (.ok p) 1 1 3 1 1) := rfl
        have hint := Reader.int_any w.heap.size 1 w.heap.size A n c bs (.ok p) wr 1 3 1 1 ⟨hr, hp⟩ hb3 (Nat.le_refl _) (by decide) (by decide) (by decide) (by decide) (by decide)
        generalize rInt bs (.ok p) 1 1 3 1 1 = K at *
        obtain ⟨kv, s1⟩ := K
        simp only at hint hkb
        have hnb := rNum_bd bs s1 4
        unfold rStepK at hst
        simp only at hst
        generalize hN : rNum bs s1 4 = N at *
        obtain ⟨nv, s3⟩ := N
        unfold rStepN at hst
        simp only at hst hnb
        have HST := Lib.hid hst
        have HN_ := Lib.hid hN
        have HINT := Lib.hid hint
        have HD := Lib.hid hd
        have HFINE := Lib.hid hfine
        have HW := Lib.hid hw
        have HROW := Lib.hid hrow
        have HB3 := Lib.hid hb3
        have HR := Lib.hid hr
        have HAC := Lib.hid hac
        have HF := Lib.hid hf
        clear hst hN hint hd hfine hw hrow hb3 hr hac hf
        go_wp2_with fail
        refine HINT.out.mono ?_
        rintro e w3 ⟨rfl, hr3, hk3⟩
        have hrow3 : Row w3 3 rr AA acc.length cc (acc.flatMap cellsS) := HROW.out.of_kept (by decide) hk3 fun g h1 h2 => by have := hrr g h1; omega
        have hb4 : SliceOf Rep.byte w3 w.heap.size A n c bs := HB3.out.on hk3 (Nat.le_refl _) HR.out.lt
        have hw3 : New w w3 := HW.out.step hk3 fun i hi e => by omega
        have hl3 := hr3.lt
        have hn3 := Reader.number_any w.heap.size 4 w.heap.size A n c bs s1 (w3.alloc (.cells #[.int .i64 kv, .int .i64 0, .int .i64 0] 38)) (hr3.kept ((Kept.refl (fun _ => False) _).alloc _) id) (hb4.alloc (by omega) _) (by decide) (by decide)
        rw [HN_.out] at hn3
        have HN3 := Lib.hid hn3
        have HROW3 := Lib.hid hrow3
        have HB4 := Lib.hid hb4
        have HW3 := Lib.hid hw3
        clear hn3 hrow3 hb4 hw3
        clear hr3 hk3
        go_wp2_with fail
        refine HN3.out.mono ?_
        rintro e w4 ⟨rfl, hr4, hk4⟩
        have hs4 : Blk w4 w3.heap.size 38 #[.int .i64 kv, .int .i64 0, .int .i64 0] := (Blk.made w3 _ _).kept hk4 (by omega)
        have q0 : w4.cell? ⟨w3.heap.size, 0, none⟩ = some (.int .i64 kv) := hs4.cell 0
        have q1 : w4.cell? ⟨w3.heap.size, 1, none⟩ = some (.int .i64 0) := hs4.cell 1
        have q2 : w4.cell? ⟨w3.heap.size, 2, none⟩ = some (.int .i64 0) := hs4.cell 2
        have z1 : w4.frozen? ⟨w3.heap.size, 1, none⟩ = false := hs4.free 1
        have z2 : w4.frozen? ⟨w3.heap.size, 2, none⟩ = false := hs4.free 2
        have hw4 : New w w4 := (HW3.out.alloc _).step hk4 fun i hi e => by omega
        have hrow4 : Row w4 3 rr AA acc.length cc (acc.flatMap cellsS) := (HROW3.out.new (by decide) ((Kept.refl _ _).alloc _)).of_kept (by decide) hk4 fun g h1 h2 => by have := hrr g h1; omega
        have hb5 : SliceOf Rep.byte w4 w.heap.size A n c bs := (HB4.out.alloc (by omega) _).on hk4 (Nat.le_refl _) (by simp; omega)
        have hl4 := hr4.lt
        have hs4l := hs4.lt
        by_cases h2 : kv = 2
        · have h2' : (kv == 2) = true := by simpa using h2
          have hst2 := HST.out
          rw [if_pos h2] at hst2
          have hvb := rNum_bd bs s3 8
          generalize hV : rNum bs s3 8 = V at *
          obtain ⟨vv, s4⟩ := V
          simp only at hst2 hvb
          have HST2 := Lib.hid hst2
          have HV_ := Lib.hid hV
          have HR4 := Lib.hid hr4
          have HK4 := Lib.hid hk4
          have HS4 := Lib.hid hs4
          have HW4 := Lib.hid hw4
          have HROW4 := Lib.hid hrow4
          have HB5 := Lib.hid hb5
          clear hst2 hV hr4 hk4 hs4 hw4 hrow4 hb5
          clear h2
          go_wp2_with fail
          have hr4' := HR4.out.kept (Kept.set1 w4 w3.heap.size 1 (.int .i64 nv)) (by omega)
          have hb5' := HB5.out.on (Kept.set1 w4 w3.heap.size 1 (.int .i64 nv)) (by omega) hs4l
          have hn5 := Reader.number_any w.heap.size 8 w.heap.size A n c bs s3 _ hr4' hb5' (by decide) (by decide)
          rw [HV_.out] at hn5
          refine hn5.mono ?_
          rintro e w5 ⟨rfl, hr5, hk5⟩
          have hs5 : Blk w5 w3.heap.size 38 #[.int .i64 kv, .int .i64 nv, .int .i64 0] := (Blk.set HS4.out (i := 1) (.int .i64 nv)).kept hk5 (by omega)
          have e0 : w5.cell? ⟨w3.heap.size, 0, none⟩ = some (.int .i64 kv) := hs5.cell 0
          have e1 : w5.cell? ⟨w3.heap.size, 1, none⟩ = some (.int .i64 nv) := hs5.cell 1
          have e2 : w5.cell? ⟨w3.heap.size, 2, none⟩ = some (.int .i64 0) := hs5.cell 2
          have y2 : w5.frozen? ⟨w3.heap.size, 2, none⟩ = false := hs5.free 2
          have hkall : Kept (fun k => k = w3.heap.size ∨ k = w.heap.size) w4 w5 := ((Kept.set1 w4 w3.heap.size 1 (.int .i64 nv)).mono fun _ _ h => .inl h).trans (hk5.mono fun _ _ h => .inr h)
          have hrow5 : Row w5 3 rr AA acc.length cc (acc.flatMap cellsS) := HROW4.out.of_kept (by decide) hkall fun g h1 h2 => by have := HROW3.out.lt (by decide) g h1; have := hrr g h1; omega
          have hw5 : New w w5 := HW4.out.step hkall fun i hi e => by omega
          have HR5 := Lib.hid hr5
          have HS5 := Lib.hid hs5
          have HROW5 := Lib.hid hrow5
          have HW5 := Lib.hid hw5
          clear hr5 hs5 hrow5 hw5
          clear hk5 hkall hn5 hr4' hb5'
          have hroww : Row (w5.setCell ⟨w3.heap.size, 2, none⟩ (.int .i64 (wrap64 vv))) 3 rr AA acc.length cc (acc.flatMap cellsS) := HROW5.out.of_kept (by decide) (Kept.set1 _ _ _ _) fun g h1 h2 => by have := HROW3.out.lt (by decide) g h1; omega
          have hww : New w (w5.setCell ⟨w3.heap.size, 2, none⟩ (.int .i64 (wrap64 vv))) := HW5.out.step (Kept.set1 _ _ _ _) fun i hi e => by omega
          have hatw : Reader.At (w5.setCell ⟨w3.heap.size, 2, none⟩ (.int .i64 (wrap64 vv))) w.heap.size A n c s4 := HR5.out.kept (Kept.set1 w5 w3.heap.size 2 (.int .i64 (wrap64 vv))) (by omega)
          have hzw : w.heap.size < (w5.setCell ⟨w3.heap.size, 2, none⟩ (.int .i64 (wrap64 vv))).heap.size := hatw.lt
          have HROWW := Lib.hid hroww
          have HWW := Lib.hid hww
          have HATW := Lib.hid hatw
          have HZW := Lib.hid hzw
          clear hroww hww hatw hzw
          have hacl : acc.length ≤ 1024 := by have := HAC.out; omega
          go_wp2_with (at_builtin; refine wpList_append_one (cs := cellsS ⟨kv, nv, wrap64 vv⟩) tySteps rfl _ _ rfl rfl HROWW.out (size_set _ _ _) rfl rfl (cellsS_one _) (by unfold maxLen; omega) (by omega) ?_; intro r6 A6 c6 w6 hrow6 hk6 hr6)
          refine ⟨⟨k + 1, acc ++ [⟨kv, nv, wrap64 vv⟩], s4, r6, A6, c6, by omega, by go_num, by simp, ?_, ?_, HATW.out.kept hk6 (fun h => by have := hrr _ h; omega), loop_next HD.out HF.out hm1024 HAC.out HFINE.out HST2.out, HWW.out.step hk6 fun i hi h => by have := hrr _ h; omega⟩, by simp [intOf]; omega⟩
          · rw [List.length_append, List.flatMap_append, List.flatMap_singleton]; exact hrow6
          · intro g hg
            rcases hr6 g hg with h | h
            · exact hrr g h
            · have := HZW.out; omega
        · have h2' : (kv == 2) = false := by simpa using h2
          have hst2 := HST.out
          rw [if_neg h2] at hst2
          have HST2 := Lib.hid hst2
          have HR4 := Lib.hid hr4
          have HK4 := Lib.hid hk4
          have HS4 := Lib.hid hs4
          have HW4 := Lib.hid hw4
          have HROW4 := Lib.hid hrow4
          have HB5 := Lib.hid hb5
          clear hst2 hr4 hk4 hs4 hw4 hrow4 hb5
          clear h2
          have hroww : Row (w4.setCell ⟨w3.heap.size, 1, none⟩ (.int .i64 nv)) 3 rr AA acc.length cc (acc.flatMap cellsS) := HROW4.out.of_kept (by decide) (Kept.set1 _ _ _ _) fun g h1 h2 => by have := HROW3.out.lt (by decide) g h1; omega
          have hww : New w (w4.setCell ⟨w3.heap.size, 1, none⟩ (.int .i64 nv)) := HW4.out.step (Kept.set1 _ _ _ _) fun i hi e => by omega
          have hatw : Reader.At (w4.setCell ⟨w3.heap.size, 1, none⟩ (.int .i64 nv)) w.heap.size A n c s3 := HR4.out.kept (Kept.set1 w4 w3.heap.size 1 (.int .i64 nv)) (by omega)
          have hzw : w.heap.size < (w4.setCell ⟨w3.heap.size, 1, none⟩ (.int .i64 nv)).heap.size := hatw.lt
          have HROWW := Lib.hid hroww
          have HWW := Lib.hid hww
          have HATW := Lib.hid hatw
          have HZW := Lib.hid hzw
          clear hroww hww hatw hzw
          have hacl : acc.length ≤ 1024 := by have := HAC.out; omega
          go_wp2_with (at_builtin; refine wpList_append_one (cs := cellsS ⟨kv, nv, 0⟩) tySteps rfl _ _ rfl rfl HROWW.out (size_set _ _ _) rfl rfl (cellsS_one _) (by unfold maxLen; omega) (by omega) ?_; intro r6 A6 c6 w6 hrow6 hk6 hr6)
          refine ⟨⟨k + 1, acc ++ [⟨kv, nv, 0⟩], s3, r6, A6, c6, by omega, by go_num, by simp, ?_, ?_, HATW.out.kept hk6 (fun h => by have := hrr _ h; omega), loop_next HD.out HF.out hm1024 HAC.out HFINE.out HST2.out, HWW.out.step hk6 fun i hi h => by have := hrr _ h; omega⟩, by simp [intOf]; omega⟩
          · rw [List.length_append, List.flatMap_append, List.flatMap_singleton]; exact hrow6
          · intro g hg
            rcases hr6 g hg with h | h
            · exact hrr g h
            · have := HZW.out; omega
      · have hlt' : decide ((k : Int) < mv) = false := by simpa using hlt
        have hkm2 : mv.toNat - k = 0 := by omega
        rw [hkm2] at hd
        have HW := Lib.hid hw
        have HROW := Lib.hid hrow
        have HFINE := Lib.hid hfine
        have HR := Lib.hid hr
        have HAC := Lib.hid hac
        clear hw hrow hfine hr hac
        by_cases hpn : p < n
        · have hdd : dec bs = .error (6, p) := by rw [hd, fin_rest (by have := HN.out; omega)]
          have hpn' : decide ((p : Int) < (n : Int)) = true := by simpa using hpn
          have HDD := Lib.hid hdd
          clear hdd
          clear hd hkm2
          go_wp2_with fail
          refine (Reader.fail_ok w.heap.size A n c _ 6 p _ HR.out (by decide)).mono ?_
          rintro e w5 ⟨rfl, hr5, hk5⟩
          have d2 : w5.cell? ⟨w.heap.size, 2, none⟩ = some (.int .i64 6) := Blk.cell hr5 2
          have d3 : w5.cell? ⟨w.heap.size, 3, none⟩ = some (.int .i64 p) := Blk.cell hr5 3
          have hw5 : New w w5 := HW.out.step hk5 fun i hi e => by omega
          have HR5 := Lib.hid hr5
          have HK5 := Lib.hid hk5
          have HW5 := Lib.hid hw5
          clear hr5 hk5 hw5
          go_wp2_with fail
          go_quiet (fail)
          go_wp2_with fail
          refine bodyPost_ret (results_tmp3 rfl _ _ _) rfl ?_
          rw [HDD.out]
          exact ⟨rfl, HW5.out.drewN _⟩
        · have hdd : dec bs = .ok acc := by rw [hd, fin_done (by have := HN.out; omega)]
          have hpn' : decide ((p : Int) < (n : Int)) = false := by simpa using hpn
          have HDD := Lib.hid hdd
          clear hdd
          clear hd hkm2
          go_wp2_with fail
          refine bodyPost_ret (results_tmp3 rfl _ _ _) rfl ?_
          rw [HDD.out]
          exact ⟨_, _, _, rfl, HROW.out, fun k hk => Nat.le_of_lt (hrr k hk), fun s hs => fine_wf (HFINE.out s hs), HW.out⟩
end Go.Proofs.Ytgmibjhbneggeaa.Script
