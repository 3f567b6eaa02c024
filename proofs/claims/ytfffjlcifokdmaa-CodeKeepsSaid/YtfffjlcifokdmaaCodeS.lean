/- The walk of chapter 6's law CodeKeeps. -/
import Derived.Test.YtfffjlcifokdmaaCodeR
namespace Go.Proofs.Ytfffjlcifokdmaa.Code
open Go.RowKit Go.Fb Go.BytesP Go.CodeP Go.ReaderP
set_option linter.unusedVariables false

theorem rowB_head {w : World} {r : Option Nat} {A : Option Addr} {n m c : Nat} {l t : List UInt8} (h : RowB w r A m c (l ++ t)) (hn : n = l.length) (hm : n ≤ m) : SliceOf Rep.byte w w.heap.size A n c l := by
  have := (Row.bytes h).2.take hm (by have := h.le; omega) h.max
  rwa [List.take_append_of_le_length (by omega), List.take_of_length_le (by omega)] at this
theorem encB_len (l : List Ins) : (encB l).length ≤ 3072 := by
  unfold encB
  split
  · rename_i h; have := (may_ok h).2.2.1; rw [length_encode]; omega
  · simp
theorem decL_len (b : List UInt8) : (decL b).length ≤ 256 := by
  unfold decL
  cases h : dec b with
  | error e => simp
  | ok l => exact (may_ok (encode_dec h).1).2.2.1
set_option maxRecDepth 100000 in
set_option maxHeartbeats 4000000 in
theorem keeps_walk (A A2 : Option Addr) (n c n2 c2 : Nat) (l : List Ins) (b : List UInt8) (w : World) (hl : SliceOf repIns w w.heap.size A n c l) (hb : SliceOf Rep.byte w w.heap.size A2 n2 c2 b) :
    Calls Try.prog 9 #[.slice A n c, .slice A2 n2 c2] w fun e w' => e = .returned (.bool true) ∧ New w w' := by
  have hs := short_of hl
  have hs2 := short_of hb
  have hbd := hl.bound
  have hbd2 := hb.bound
  clear hl hb
  have hwfl := ins_wf hs
  have HS := Lib.hid hs
  have HS2 := Lib.hid hs2
  have HWFL := Lib.hid hwfl
  clear hs hs2 hwfl
  go_enter Try.func9, Try.ntmps9
  go_wp2_with (first | (go_at_call 10; refine (awake_any _).mono ?_; rintro e w1 ⟨rfl, hw1⟩) | (go_at_call 15; refine (short_ins _ _ _ _ hbd.1 hbd.2).mono ?_; rintro e w' ⟨rfl, rfl⟩) | (go_at_call 23; refine (short_byte _ _ _ _ hbd2.1 hbd2.2).mono ?_; rintro e w' ⟨rfl, rfl⟩))
  have hm1 : min n 1048576 ≤ 1048576 := Nat.min_le_right _ _
  have hm2 : min n2 1048576 ≤ 1048576 := Nat.min_le_right _ _
  generalize min n 1048576 = m1 at *
  generalize min n2 1048576 = m2 at *
  generalize l.take m1 = L at *
  generalize b.take m2 = B at *
  have t1 := hw1.size
  have HW1 := Lib.hid hw1
  clear hw1
  refine (wide_any A m1 m1 L w1 (news HS.out HW1.out) hm1).mono ?_
  rintro e w2 ⟨rw, Aw, cw, rfl, hrw, hfw, hw2⟩
  have HW2 := Lib.hid (HW1.out.trans hw2)
  have t2 := hw2.size
  have IW : Hid (∀ k, rw = some k → w1.heap.size ≤ k ∧ k < w2.heap.size) := Lib.hid fun k h => ⟨hfw k h, hrw.lt (by decide) k h⟩
  have HRW := Lib.hid hrw
  clear hrw
  clear hw2 hfw
  go_wp2_with fail
  refine (wideBytes_any A2 m2 m2 B w2 (news HS2.out HW2.out) hm2).mono ?_
  rintro e w3 ⟨rv, Av, cv, rfl, hrv, hfv, hw3⟩
  have HW3 := Lib.hid (HW2.out.trans hw3)
  have t3 := hw3.size
  have IV : Hid (∀ k, rv = some k → w2.heap.size ≤ k ∧ k < w3.heap.size) := Lib.hid fun k h => ⟨hfv k h, hrv.lt (by decide) k h⟩
  have HRW3 := Lib.hid (HRW.out.new (by decide) hw3)
  have HRV := Lib.hid hrv
  clear hrv
  clear hw3 hfv
  have hLn := HS.out.len
  have hBn := HS2.out.len
  have HLN := Lib.hid hLn
  have HBN := Lib.hid hBn
  clear hLn hBn
  have hwL : ∀ W, New w3 W → SliceOf repIns W W.heap.size Aw m1 cw L := fun W h => rowI_head (HRW3.out.new (by decide) h) HLN.out (by omega) HWFL.out
  have hvB : ∀ W, New w3 W → SliceOf Rep.byte W W.heap.size Av m2 cv B := fun W h => rowB_head (HRV.out.new (by decide) h) HBN.out (by omega)
  have HWL := Lib.hid hwL
  have HVB := Lib.hid hvB
  clear hwL hvB
  go_wp2_with fail
  refine (may_any Aw m1 cw L 8 w3 (HWL.out w3 (Kept.refl _ _))).mono ?_
  rintro e w4 ⟨rfl, hw4⟩
  have t4 := hw4.size
  have HW4 := Lib.hid hw4
  clear hw4
  have hen := fun W h => encode_any Aw m1 cw L W (HWL.out W h)
  unfold Encd at hen
  have hren := fun W h => ref_encode A m1 m1 L W (news HS.out h)
  unfold Encd at hren
  have hdn := fun W h => decode_any Av m2 cv B W (HVB.out W h)
  unfold Decd at hdn
  have hrdn := fun W h => ref_decode A2 m2 m2 B W (news HS2.out h)
  unfold Decd at hrdn
  have lEB := encB_len L
  have lDL := decL_len B
  generalize may L 8 = mv at *
  generalize hEB : encB L = EB at *
  generalize decE B = dv at *
  generalize hDL : decL B = DL at *
  have HEN := Lib.hid hen
  have HREN := Lib.hid hren
  have HDN := Lib.hid hdn
  have HRDN := Lib.hid hrdn
  clear hen hren hdn hrdn
  clear hEB hDL
  go_wp2_with fail
  refine (HEN.out w4 HW4.out).mono ?_
  rintro e w5 ⟨rx, Ax, nx, cx, rfl, hrx, hfx, hw5⟩
  have t5 := hw5.size
  have HW5 := Lib.hid (HW4.out.trans hw5)
  have IX : Hid (∀ k, rx = some k → w4.heap.size ≤ k ∧ k < w5.heap.size) := Lib.hid fun k h => ⟨hfx k h, hrx.lt (by decide) k h⟩
  have HRX := Lib.hid hrx
  clear hrx
  clear hw5 hfx
  go_wp2_with fail
  refine (HEN.out w5 HW5.out).mono ?_
  rintro e w6 ⟨ry, Ay, ny, cy, rfl, hry, hfy, hw6⟩
  have t6 := hw6.size
  have HW6 := Lib.hid (HW5.out.trans hw6)
  have IY : Hid (∀ k, ry = some k → w5.heap.size ≤ k ∧ k < w6.heap.size) := Lib.hid fun k h => ⟨hfy k h, hry.lt (by decide) k h⟩
  have HRX6 := Lib.hid (HRX.out.new (by decide) hw6)
  have HRY := Lib.hid hry
  clear hry
  clear hw6 hfy
  go_wp2_with fail
  refine (HDN.out w6 HW6.out).mono ?_
  rintro e w7 ⟨rp, Ap, cp, rfl, hrp, hfp, hwfp, hw7⟩
  have t7 := hw7.size
  have HW7 := Lib.hid (HW6.out.trans hw7)
  have IP : Hid (∀ k, rp = some k → w6.heap.size ≤ k ∧ k < w7.heap.size) := Lib.hid fun k h => ⟨hfp k h, hrp.lt (by decide) k h⟩
  have HRX7 := Lib.hid (HRX6.out.new (by decide) hw7)
  have HRY7 := Lib.hid (HRY.out.new (by decide) hw7)
  have HRP := Lib.hid hrp
  have HWFP := Lib.hid hwfp
  clear hrp hwfp
  clear hw7 hfp
  go_wp2_with fail
  refine (HDN.out w7 HW7.out).mono ?_
  rintro e w8 ⟨rq, Aq, cq, rfl, hrq, hfq, _, hw8⟩
  have t8 := hw8.size
  have HW8 := Lib.hid (HW7.out.trans hw8)
  have IQ : Hid (∀ k, rq = some k → w7.heap.size ≤ k ∧ k < w8.heap.size) := Lib.hid fun k h => ⟨hfq k h, hrq.lt (by decide) k h⟩
  have HRX8 := Lib.hid (HRX7.out.new (by decide) hw8)
  have HRY8 := Lib.hid (HRY7.out.new (by decide) hw8)
  have HRP8 := Lib.hid (HRP.out.new (by decide) hw8)
  have HRQ := Lib.hid hrq
  clear hrq
  clear hw8 hfq
  have HRW8 := Lib.hid (HRW3.out.new (by decide) HW8.out)
  have HRV8 := Lib.hid (HRV.out.new (by decide) HW8.out)
  have hcv := HRV8.out.bound
  have hcw := HRW8.out.bound
  obtain ⟨gv, ov, erv, rfl, _⟩ := HRV8.out.at_pos (by omega)
  have hmk : ∀ W, New w8 W → SliceOf Rep.byte W W.heap.size (some ⟨gv, ov + m2, none⟩) 3 (cv - m2) marksB := by
    intro W h
    obtain ⟨_, h2⟩ := Row.bytes (HRV8.out.new (by decide) h)
    have h3 := h2.drop (k := m2) (by omega)
    rw [show m2 * Rep.byte.size = m2 from Nat.mul_one _, List.drop_left' HBN.out.symm, Nat.add_sub_cancel_left] at h3
    exact h3
  have hcvm : ¬ cv = m2 := by omega
  have hH3 := HW3.out
  have HMK := Lib.hid hmk
  have ERV := Lib.hid erv
  have HH3 := Lib.hid hH3
  clear hmk erv hH3
  go_wp2_with (go_at_call 26; refine (kept_any Aw A m1 cw m1 L rw w8 HRW8.out (news HS.out (HH3.out.trans HW8.out)) hm1).mono ?_; rintro e w9 ⟨rfl, hw9⟩; have s1 := str_of (P := Try.prog) (HVB.out w9 (HW8.out.trans hw9)) 35 9 5 rfl rfl rfl; have s2 := str_of (P := Try.prog) (news HS2.out ((HH3.out.trans HW8.out).trans hw9)) 35 9 5 rfl rfl rfl; have s3 := str_of (P := Try.prog) (HMK.out w9 hw9) 35 9 5 rfl rfl rfl; simp only [marksB] at s3; have t9 := hw9.size; have HW9 := Lib.hid hw9; clear hw9)
  clear s1 s2 s3
  have hxw : RowX w9 5 rw Aw m1 cw := (Row.x (HRW8.out.new (by decide) HW9.out)).head (by omega)
  have hzv : RowZ w9 .u8 rv (some ⟨gv, ov, none⟩) m2 cv := (rowZ_of (HRV8.out.new (by decide) HW9.out)).head (by omega)
  have hx9 := HRX8.out.new (by decide) HW9.out
  have hy9 := HRY8.out.new (by decide) HW9.out
  have hp9 := HRP8.out.new (by decide) HW9.out
  have hq9 := HRQ.out.new (by decide) HW9.out
  have hn9 : New w w9 := (HH3.out.trans HW8.out).trans HW9.out
  have HXW := Lib.hid hxw
  have HZV := Lib.hid hzv
  have HX9 := Lib.hid hx9
  have HY9 := Lib.hid hy9
  have HP9 := Lib.hid hp9
  have HQ9 := Lib.hid hq9
  have HN9 := Lib.hid hn9
  clear hxw hzv hx9 hy9 hp9 hq9 hn9
  go_loopw [90] (fun i wr => ∃ k : Nat, k ≤ m1 ∧ i = .int .i64 k ∧ RowX wr 5 rw Aw m1 cw ∧ Kept (fun j => rw = some j) w9 wr) (fun i _ => (m1 - intOf i).toNat)
  case atStart => exact ⟨0, by omega, rfl, HXW.out, Kept.refl _ _⟩
  case round =>
    obtain ⟨k, hk, rfl, hrow, hkp⟩ := hrel
    by_cases hlt : k < m1
    · have hrow' := hrow
      obtain ⟨xs, hrw⟩ := hrow'
      obtain ⟨g, o, e1, rfl, hc⟩ := hrw.at_index hlt
      obtain ⟨v0, _, z0, f0⟩ := hc 0 (by decide)
      obtain ⟨v1, _, z1, f1⟩ := hc 1 (by decide)
      obtain ⟨v2, _, z2, f2⟩ := hc 2 (by decide)
      obtain ⟨v3, _, z3, f3⟩ := hc 3 (by decide)
      obtain ⟨v4, _, z4, f4⟩ := hc 4 (by decide)
      rw [Nat.add_zero] at z0 f0
      have HROW := Lib.hid hrow
      have HKP := Lib.hid hkp
      have E1 := Lib.hid e1
      clear hrow hkp e1
      clear hrw hc
      go_wp2_with fail
      exact ⟨⟨k + 1, by omega, by go_num, ((((HROW.out.set0 rfl hlt (by decide) _).set rfl hlt (by decide) _).set rfl hlt (by decide) _).set rfl hlt (by decide) _).set rfl hlt (by decide) _, ((((HKP.out.setCell (.inr E1.out) _).setCell (.inr E1.out) _).setCell (.inr E1.out) _).setCell (.inr E1.out) _).setCell (.inr E1.out) _⟩, by simp [intOf]; omega⟩
    · obtain rfl : k = m1 := by omega
      have hzv2 := HZV.out.kept hkp fun j h1 h2 => by have := IW.out j h2; have := IV.out j h1; omega
      obtain ⟨w10, rfl⟩ : ∃ w10 : World, w10 = wr := ⟨_, rfl⟩
      have HROW := Lib.hid hrow
      have HKP := Lib.hid hkp
      have HZV2 := Lib.hid hzv2
      clear hrow hkp hzv2
      go_wp2_with fail
      go_loopw [100] (fun i wr => ∃ j : Nat, j ≤ m2 ∧ i = .int .i64 j ∧ RowZ wr .u8 rv (some ⟨gv, ov, none⟩) m2 cv ∧ Kept (fun j => rw = some j ∨ rv = some j) w9 wr) (fun i _ => (m2 - intOf i).toNat)
      case atStart => exact ⟨0, by omega, rfl, HZV2.out, HKP.out.mono fun _ _ h => .inl h⟩
      case round =>
        obtain ⟨j, hj, rfl, hrow, hkp⟩ := hrel
        by_cases hltj : j < m2
        · obtain ⟨g, o, z, e1, e2, z0, f0⟩ := hrow.at_index hltj
          injection e2 with e2
          injection e2 with e3 e4
          subst e3; subst e4
          have HROW_ := Lib.hid hrow
          have HKP_ := Lib.hid hkp
          have E1 := Lib.hid e1
          clear hrow hkp e1
          go_wp2_with fail
          exact ⟨⟨j + 1, by omega, by go_num, HROW_.out.set rfl hltj _, HKP_.out.setCell (.inr (.inr E1.out)) _⟩, by simp [intOf]; omega⟩
        · obtain rfl : j = m2 := by omega
          obtain ⟨w11, rfl⟩ : ∃ w11 : World, w11 = wr := ⟨_, rfl⟩
          have hn11 : New w w11 := HN9.out.step hkp fun i hi h => by
            rcases h with h | h
            · have := IW.out i h; omega
            · have := IV.out i h; omega
          have HKP_ := Lib.hid hkp
          have HN11 := Lib.hid hn11
          clear hkp hn11
          clear hrow
          go_wp2_with fail
          refine (HREN.out w11 HN11.out).mono ?_
          rintro e w12 ⟨rb, Ab, nb, cb, rfl, hrb, hfb, hw12⟩
          have t12 := hw12.size
          have IB : Hid (∀ k, rb = some k → w11.heap.size ≤ k) := Lib.hid hfb
          have t11 := HKP_.out.size
          have HW12 := Lib.hid hw12
          have HRB := Lib.hid hrb
          clear hw12 hrb
          clear hfb
          go_wp2_with fail
          refine (HRDN.out w12 (HN11.out.trans HW12.out)).mono ?_
          rintro e w13 ⟨rg, Ag, cg, rfl, hrg, hfg, _, hw13⟩
          have IG : Hid (∀ k, rg = some k → w12.heap.size ≤ k) := Lib.hid hfg
          clear hfg
          have t13 := hw13.size
          have h1113 : New w11 w13 := HW12.out.trans hw13
          have hx13 := (HX9.out.of_kept (by decide) HKP_.out (fun i h1 h2 => by have := IX.out i h1; rcases h2 with h2 | h2; (have := IW.out i h2; omega); (have := IV.out i h2; omega))).new (by decide) h1113
          have hy13 := (HY9.out.of_kept (by decide) HKP_.out (fun i h1 h2 => by have := IY.out i h1; rcases h2 with h2 | h2; (have := IW.out i h2; omega); (have := IV.out i h2; omega))).new (by decide) h1113
          have hp13 := (HP9.out.of_kept (by decide) HKP_.out (fun i h1 h2 => by have := IP.out i h1; rcases h2 with h2 | h2; (have := IW.out i h2; omega); (have := IV.out i h2; omega))).new (by decide) h1113
          have hq13 := (HQ9.out.of_kept (by decide) HKP_.out (fun i h1 h2 => by have := IQ.out i h1; rcases h2 with h2 | h2; (have := IW.out i h2; omega); (have := IV.out i h2; omega))).new (by decide) h1113
          have hb13 := HRB.out.new (by decide) hw13
          have hn13 : New w w13 := HN11.out.trans h1113
          have s1 := str_of (P := Try.prog) (rowB_read hx13) 35 9 5 rfl rfl rfl
          have s2 := str_of (P := Try.prog) (rowB_read hy13) 35 9 5 rfl rfl rfl
          have s3 := str_of (P := Try.prog) (rowB_read hb13) 35 9 5 rfl rfl rfl
          have lx := rowB_len hx13
          have lb := rowB_len hb13
          have HX13 := Lib.hid hx13
          have HY13 := Lib.hid hy13
          have HP13 := Lib.hid hp13
          have HQ13 := Lib.hid hq13
          have HB13 := Lib.hid hb13
          have HN13 := Lib.hid hn13
          have HRG := Lib.hid hrg
          have LX := Lib.hid lx
          have LB := Lib.hid lb
          clear hx13 hy13 hp13 hq13 hb13 hn13 hrg lx lb
          clear hw13 h1113
          go_wp2_with fail
          refine (same_true _ _ _ _ _ _ _ _ DL _ (rowI_read HP13.out HWFP.out) (rowI_read HRG.out HWFP.out)).mono ?_
          rintro e w14 ⟨rfl, hw14⟩
          have t14 := hw14.size
          have HW14 := Lib.hid hw14
          clear hw14
          clear s1 s2 s3
          go_wp2_with fail
          refine (same_true _ _ _ _ _ _ _ _ DL _ (rowI_read (HQ13.out.new (by decide) HW14.out) HWFP.out) (rowI_read (HRG.out.new (by decide) HW14.out) HWFP.out)).mono ?_
          rintro e w15 ⟨rfl, hw15⟩
          have t15 := hw15.size
          have h1315 : New w13 w15 := HW14.out.trans hw15
          have hx15 : RowX w15 1 rx Ax nx cx := (HX13.out.new (by decide) h1315).x
          have hp15 : RowX w15 5 rp Ap DL.length cp := (HP13.out.new (by decide) h1315).x
          have hy15 := HY13.out.new (by decide) h1315
          have hq15 := HQ13.out.new (by decide) h1315
          have hb15 := HB13.out.new (by decide) h1315
          have hg15 := HRG.out.new (by decide) h1315
          have hn15 := HN13.out.trans h1315
          have HX15 := Lib.hid hx15
          have HP15 := Lib.hid hp15
          have HY15 := Lib.hid hy15
          have HQ15 := Lib.hid hq15
          have HB15 := Lib.hid hb15
          have HG15 := Lib.hid hg15
          have HN15 := Lib.hid hn15
          clear hx15 hp15 hy15 hq15 hb15 hg15 hn15
          clear hw15 h1315
          go_wp2_with fail
          have hnx : nx ≤ 3072 := by have := LX.out; omega
          have hDl : DL.length ≤ 256 := lDL
          generalize hdl : DL.length = dl at *
          have HDLE := Lib.hid hdl
          clear hdl lEB lDL
          go_loopw [148] (fun i wr => ∃ a : Nat, a ≤ nx ∧ i = .int .i64 a ∧ RowX wr 1 rx Ax nx cx ∧ Kept (fun j => rx = some j) w15 wr) (fun i _ => (nx - intOf i).toNat)
          case atStart => exact ⟨0, by omega, rfl, HX15.out, Kept.refl _ _⟩
          case round =>
            obtain ⟨a, ha, rfl, hrow, hkp⟩ := hrel
            by_cases hlta : a < nx
            · have hrow' := hrow
              obtain ⟨xs, hrw⟩ := hrow'
              obtain ⟨g, o, e1, rfl, hc⟩ := hrw.at_index hlta
              obtain ⟨v0, _, z0, f0⟩ := hc 0 (by decide)
              rw [Nat.mul_one, Nat.add_zero] at z0 f0
              have hset := fun v => hrow.set0 rfl hlta (by decide) v
              rw [Nat.mul_one] at hset
              have HSET := Lib.hid hset
              have HKR := Lib.hid hkp
              have E1 := Lib.hid e1
              clear hset hkp e1
              clear hrw hc hrow
              go_wp2_with fail
              exact ⟨⟨a + 1, by omega, by go_num, HSET.out _, HKR.out.setCell (.inr E1.out) _⟩, by simp [intOf]; omega⟩
            · obtain rfl : a = nx := by omega
              have hp16 := HP15.out.kept (by decide) hkp fun j h1 h2 => by have := IP.out j h1; have := IX.out j h2; omega
              obtain ⟨w16, rfl⟩ : ∃ w16 : World, w16 = wr := ⟨_, rfl⟩
              have HROWX := Lib.hid hrow
              have HKR := Lib.hid hkp
              have HP16 := Lib.hid hp16
              clear hrow hkp hp16
              go_wp2_with fail
              go_loopw [157] (fun i wr => ∃ d : Nat, d ≤ dl ∧ i = .int .i64 d ∧ RowX wr 5 rp Ap dl cp ∧ RowX wr 1 rx Ax a cx ∧ Kept (fun j => rx = some j ∨ rp = some j) w15 wr) (fun i _ => (dl - intOf i).toNat)
              case atStart => exact ⟨0, by omega, rfl, HP16.out, HROWX.out, HKR.out.mono fun _ _ h => .inl h⟩
              case round =>
                obtain ⟨d, hd, rfl, hrow, hrx2, hkp⟩ := hrel
                by_cases hltd : d < dl
                · have hrow' := hrow
                  obtain ⟨xs, hrw⟩ := hrow'
                  obtain ⟨g, o, e1, rfl, hc⟩ := hrw.at_index hltd
                  obtain ⟨v0, _, z0, f0⟩ := hc 0 (by decide)
                  obtain ⟨v1, _, z1, f1⟩ := hc 1 (by decide)
                  obtain ⟨v2, _, z2, f2⟩ := hc 2 (by decide)
                  obtain ⟨v3, _, z3, f3⟩ := hc 3 (by decide)
                  obtain ⟨v4, _, z4, f4⟩ := hc 4 (by decide)
                  rw [Nat.add_zero] at z0 f0
                  have hapart : ∀ j, rx = some j → ¬ j = g := fun j h1 h2 => by have := IX.out j h1; have := IP.out g e1; omega
                  have HROWP := Lib.hid hrow
                  have HKS := Lib.hid hkp
                  have E1 := Lib.hid e1
                  have HRX2 := Lib.hid hrx2
                  have HAPART := Lib.hid hapart
                  clear hrow hkp e1 hrx2 hapart
                  clear hrw hc
                  go_wp2_with fail
                  exact ⟨⟨d + 1, by omega, by go_num, ((((HROWP.out.set0 rfl hltd (by decide) _).set rfl hltd (by decide) _).set rfl hltd (by decide) _).set rfl hltd (by decide) _).set rfl hltd (by decide) _,
                    ((((HRX2.out.kept (by decide) (Kept.set1 _ g _ _) HAPART.out).kept (by decide) (Kept.set1 _ g _ _) HAPART.out).kept (by decide) (Kept.set1 _ g _ _) HAPART.out).kept (by decide) (Kept.set1 _ g _ _) HAPART.out).kept (by decide) (Kept.set1 _ g _ _) HAPART.out,
                    ((((HKS.out.setCell (.inr (.inr E1.out)) _).setCell (.inr (.inr E1.out)) _).setCell (.inr (.inr E1.out)) _).setCell (.inr (.inr E1.out)) _).setCell (.inr (.inr E1.out)) _⟩, by simp [intOf]; omega⟩
                · obtain rfl : d = dl := by omega
                  obtain ⟨w17, rfl⟩ : ∃ w17 : World, w17 = wr := ⟨_, rfl⟩
                  have HROWP := Lib.hid hrow
                  have HKS := Lib.hid hkp
                  have HRX2 := Lib.hid hrx2
                  clear hrow hkp hrx2
                  go_wp2_with fail
                  go_loopw [7, 13, 165] (fun vx vp i wr => ∃ (q : Nat) (r1 : Option Nat) (A1 : Option Addr) (e1 : Nat) (r2 : Option Nat) (B1 : Option Addr) (e2 : Nat), q ≤ 40 ∧ i = .int .i64 q ∧ vx = .slice A1 (a + q) e1 ∧ vp = .slice B1 (d + q) e2 ∧ RowX wr 1 r1 A1 (a + q) e1 ∧ RowX wr 5 r2 B1 (d + q) e2 ∧ (∀ k, r1 = some k → rx = some k ∨ w15.heap.size ≤ k) ∧ (∀ k, r2 = some k → rp = some k ∨ w15.heap.size ≤ k) ∧ (∀ k, r1 = some k → r2 = some k → False) ∧ Kept (fun j => rx = some j ∨ rp = some j) w15 wr) (fun _ _ i _ => (40 - intOf i).toNat)
                  case atStart => exact ⟨0, rx, Ax, cx, rp, Ap, cp, by omega, rfl, rfl, rfl, HRX2.out, HROWP.out, fun _ h => .inl h, fun _ h => .inl h, fun k h1 h2 => by have := IX.out k h1; have := IP.out k h2; omega, HKS.out⟩
                  case round =>
                    obtain ⟨q, r1, A1, e1, r2, B1, e2, hq, rfl, rfl, rfl, hx1, hp1, hr1, hr2, hap, hkp⟩ := hrel
                    by_cases hltq : q < 40
                    · have hx1' := hx1
                      have hp1' := hp1
                      obtain ⟨xs, hx1'⟩ := hx1'
                      obtain ⟨ps, hp1'⟩ := hp1'
                      have hl2 := hp1.lt (by decide)
                      have hl1 := hx1.lt (by decide)
                      have HXR := Lib.hid hx1'
                      have HPR := Lib.hid hp1'
                      have HR1 := Lib.hid hr1
                      have HR2 := Lib.hid hr2
                      have HAP := Lib.hid hap
                      have HKT := Lib.hid hkp
                      have HL2 := Lib.hid hl2
                      have HL1 := Lib.hid hl1
                      clear hx1' hp1' hr1 hr2 hap hkp hl2 hl1
                      clear hx1 hp1
                      go_wp2_with (first | (at_builtin; refine wpList_append_many (cs := [.int .u8 8]) tyBytes rfl (.tmp 167) (.tmp 168) rfl rfl HXR.out rfl rfl rfl (by simp [Value.oneCell']) (by unfold maxLen; omega) (by omega) ?_; intro r3 A3 c3 w18 hr3 hk3 hn3; have HR3 := Lib.hid hr3; have HK3 := Lib.hid hk3; have HN3 := Lib.hid hn3; have HP3 := Lib.hid (HPR.out.of_kept (by decide) hk3 fun j h1 h2 => HAP.out j h2 h1); clear hr3 hk3 hn3) | (at_builtin; refine wpList_append_many (cs := cellsI ⟨98, 0, 0, 0, 0⟩) tyIns rfl (.tmp 170) (.tmp 172) rfl rfl HP3.out rfl rfl rfl (cellsI_one _) (by unfold maxLen; omega) (by omega) ?_; intro r4 A4 c4 w19 hr4 hk4 hn4; have HR4 := Lib.hid hr4; have HK4 := Lib.hid hk4; have HN4 := Lib.hid hn4; clear hr4 hk4 hn4))
                      have u3 := HK3.out.size
                      have u4 := HK4.out.size
                      have u5 := HKT.out.size
                      have hl3 := HR3.out.lt (by decide)
                      have h34 : ∀ k, r3 = some k → ¬ r2 = some k := fun k h1 h2 => by
                        have := HL2.out k h2
                        rcases HN3.out k h1 with h | h
                        · exact HAP.out k h h2
                        · omega
                      refine ⟨⟨q + 1, r3, A3, c3, r4, A4, c4, by omega, by go_num, rfl, rfl, (HR3.out.of_kept (by decide) HK4.out h34).x, HR4.out.x, ?_, ?_, ?_, ?_⟩, by simp [intOf]; omega⟩
                      · intro k h
                        rcases HN3.out k h with h | h
                        · exact HR1.out k h
                        · exact .inr (by omega)
                      · intro k h
                        rcases HN4.out k h with h | h
                        · exact HR2.out k h
                        · exact .inr (by omega)
                      · intro k h1 h2
                        rcases HN4.out k h2 with h | h
                        · exact h34 k h1 h
                        · have := hl3 k h1; omega
                      · refine (HKT.out.step HK3.out fun i hi h => ?_).step HK4.out fun i hi h => ?_
                        · rcases HR1.out i h with h | h
                          · exact .inl h
                          · omega
                        · rcases HR2.out i h with h | h
                          · exact .inr h
                          · omega
                    · obtain rfl : q = 40 := by omega
                      have hd1 : ∀ i, ry = some i → ¬ (rx = some i ∨ rp = some i) := fun i h1 h2 => by have := IY.out i h1; rcases h2 with h2 | h2; (have := IX.out i h2; omega); (have := IP.out i h2; omega)
                      have hd2 : ∀ i, rq = some i → ¬ (rx = some i ∨ rp = some i) := fun i h1 h2 => by have := IQ.out i h1; rcases h2 with h2 | h2; (have := IX.out i h2; omega); (have := IP.out i h2; omega)
                      have hdx : ∀ i, (rx = some i ∨ rp = some i) → w4.heap.size ≤ i ∧ i < w11.heap.size := fun i h2 => by rcases h2 with h2 | h2; (have := IX.out i h2; omega); (have := IP.out i h2; omega)
                      have hlb := HB15.out.lt (by decide)
                      have hyz := HY15.out.of_kept (by decide) hkp hd1
                      have hqz := HQ15.out.of_kept (by decide) hkp hd2
                      have hbz := HB15.out.of_kept (by decide) hkp fun i h1 h2 => by have := hdx i h2; have := IB.out i h1; omega
                      have hgz := HG15.out.of_kept (by decide) hkp fun i h1 h2 => by have := hdx i h2; have := IG.out i h1; omega
                      have hnz : New w wr := HN15.out.step hkp fun i hi h => by have := hdx i h; omega
                      have hlx := LX.out
                      have hlb2 := LB.out
                      obtain rfl : nb = a := by omega
                      have s1 := str_of (P := Try.prog) (rowB_read hyz) 35 9 5 rfl rfl rfl
                      have s2 := str_of (P := Try.prog) (rowB_read hbz) 35 9 5 rfl rfl rfl
                      have hsq : SliceOf repIns wr wr.heap.size Aq d cq DL := by have := rowI_read (by rw [HDLE.out]; exact hqz) HWFP.out; rwa [HDLE.out] at this
                      have hsg : SliceOf repIns wr wr.heap.size Ag d cg DL := by have := rowI_read (by rw [HDLE.out]; exact hgz) HWFP.out; rwa [HDLE.out] at this
                      have HNZ := Lib.hid hnz
                      have HSQ := Lib.hid hsq
                      have HSG := Lib.hid hsg
                      clear hnz hsq hsg
                      clear hyz hqz hbz hgz hkp hx1 hp1 hr1 hr2 hap hd1 hd2 hdx hlb hlx hlb2
                      go_wp2_with (go_at_call 22; refine (same_true _ _ _ _ _ _ _ _ DL _ HSQ.out HSG.out).mono ?_; rintro e w20 ⟨rfl, hw20⟩)
                      go_ret
                      exact ⟨rfl, HNZ.out.trans hw20⟩
end Go.Proofs.Ytfffjlcifokdmaa.Code
