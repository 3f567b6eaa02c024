/- The walk of the law ConfCut (layer 14). Printed by wip/tools/mkCu14.py. -/
import Derived.Test.YtaefgljpdpigeaaConfCp
import Derived.Test.YtaefgljpdpigeaaConfXb
import Derived.Test.YtaefgljpdpigeaaConfRo
import Derived.Deep.DeepCutAuto
namespace Go.Proofs.Ytaefgljpdpigeaa.Conf
open Go.RowKit Go.Fb Go.CodeP Go.BytesP Go.ReaderP
set_option linter.unusedVariables false
theorem rem_fits (x : Int) {n : Nat} (hn : 0 < n) : -(n : Int) < x.tmod n ∧ x.tmod n < n := by
  have h2 := Int.lt_tmod_of_pos x (show (0 : Int) < n by omega)
  have h3 := Int.tmod_lt_of_pos x (show (0 : Int) < n by omega)
  exact ⟨by omega, by omega⟩
theorem fits_read {B : Nat} {w : World} {c : Cf} {Al : Option Addr} {cl : Nat} {At : Option Addr} {ct : Nat} {Ap : Option Addr} {cp : Nat} (h : ReadC B w c Al cl At ct Ap cp) : Fits c where
  labels x hx := bounds_u64 (h.labs.wf x hx)
  code p hp := by
    obtain ⟨i, hi, rfl⟩ := List.mem_iff_getElem.1 hp
    obtain ⟨b, o, _, _, hc⟩ := proc_at h.prs (by omega)
    obtain ⟨A', c', -, g, -⟩ := hc i hi
    exact Code.ins_inV (Code.ins_wf g)
set_option maxRecDepth 100000 in
set_option maxHeartbeats 8000000 in
theorem cut_walk {w : World} {c : Cf} {cs : Array Value} {x : Int} {Am : Option Addr} {nm km : Nat} {ms : List UInt8} {Ai : Option Addr} {ni ki : Nat} {l : List Ins} (h : repConf.cells w w.heap.size c cs.toList) (hm : SliceOf Rep.byte w w.heap.size Am nm km ms) (hi : SliceOf Code.repIns w w.heap.size Ai ni ki l) :
    Calls Try.prog 3 #[.agg cs, .int .i64 x, .slice Am nm km, .slice Ai ni ki] w fun e w' => e = .returned (.bool true) ∧ New w w' := by
  obtain ⟨Al, cl, At, ct, Ap, cp, ecs, h1, h2, h3, h4⟩ := h
  obtain rfl : cs = (confC c Al cl At ct Ap cp).toArray := Array.ext' ecs
  clear ecs
  have hrc : ReadC w.heap.size w c Al cl At ct Ap cp := ⟨h1, h2, h3⟩
  have hfit := fits_read hrc
  have hwf := h4.1
  have ka : New w (w.alloc (.cells (confC c Al cl At ct Ap cp).toArray 26)) := (Kept.refl _ _).alloc _
  have hbk := Blk.made w 26 (confC c Al cl At ct Ap cp).toArray
  have hmb := hm.bound
  clear h1 h2 h3 h4
  unfold confC at ka hbk ⊢
  have HA := Lib.hid (fun W => awake_any W)
  have HRC := Lib.hid hrc
  have HFIT := Lib.hid hfit
  have KA := Lib.hid ka
  have HBK := Lib.hid hbk
  have HM := Lib.hid hm
  have HI := Lib.hid hi
  have HWF := Lib.hid hwf
  clear hrc hfit ka hbk hm hi hwf
  go_enter Try.func3, Try.ntmps3
  go_upto_region 3 with (go_at_call 9; refine (HA.out _).mono ?_; rintro e w1 ⟨rfl, hn1⟩)
  have hr1 := HRC.out.news (KA.out.trans hn1) (Nat.le_refl _)
  have hb1 := HBK.out.kept hn1 id
  have hn1' := KA.out.trans hn1
  have hlt1 := hn1'.size
  have HB1L := Lib.hid hb1.lt
  clear hn1 HBK HA KA
  have henc := encode_read hr1 hlt1
  unfold Encoded at henc
  have y0 := hb1.cell 0
  have y1 := hb1.cell 1
  have y2 := hb1.cell 2
  have y3 := hb1.cell 3
  have y4 := hb1.cell 4
  have y5 := hb1.cell 5
  have y6 := hb1.cell 6
  simp only [List.getElem?_toArray, List.getElem?_cons_zero, List.getElem?_cons_succ] at y0 y1 y2 y3 y4 y5 y6
  have HENC := Lib.hid henc
  have HR1 := Lib.hid hr1
  have HB1 := Lib.hid hb1
  have HN1' := Lib.hid hn1'
  clear henc hr1 hb1 hn1'
  go_upto_region 4 with (go_at_call 10; refine HENC.out.mono ?_; rintro e w2 ⟨r2, A2, k2, rfl, hrow2, hf2, hn2⟩)
  clear y0 y1 y2 y3 y4 y5 y6 HENC
  have hn2' := HN1'.out.trans hn2
  have hb2 := HB1.out.kept hn2 id
  clear hn2 HN1' HB1 HR1
  by_cases hmz : (mayC c).1 = 0
  · have hm0 := may_zeroC hmz
    have he : encC c = encB c := by unfold encC; rw [hm0, if_pos rfl]
    rw [he] at hrow2 ⊢
    rw [hmz]
    have hsane := sane_of hm0
    have hcut := fun (k : Nat) hk => dec_cut hm0 HFIT.out (k := k) hk
    have hmore := fun more hl => dec_more hm0 HFIT.out more hl
    have hlen := length_encB hm0
    generalize encB c = eb at *
    clear hmz hm0 he
    have hrl := hrow2.length
    rw [List.length_map, Nat.mul_one] at hrl
    generalize hel : eb.length = el at *
    have HEL := Lib.hid hel
    have hrow2b := hrow2.bound
    have hrem := rem_fits x (n := el) (by omega)
    have hne0 : ¬ (el : Int) = 0 := by omega
    have hne1 : el ≠ 0 := by omega
    obtain ⟨hl14, hl15⟩ := hlen
    have HROW2 := Lib.hid hrow2
    have HN2' := Lib.hid hn2'
    have HB2 := Lib.hid hb2
    have HSANE := Lib.hid hsane
    have HCUT := Lib.hid hcut
    have HMORE := Lib.hid hmore
    have HF2 := Lib.hid hf2
    clear hrow2 hn2' hb2 hsane hcut hmore hf2
    clear hrl hel
    go_upto_if 36 with (fail)
    generalize x.tmod el = t at *
    go_cut [11] (fun z wx => ∃ k : Nat, z = .int .i64 k ∧ k < el ∧ wx = w2)
    case first =>
      by_cases h0 : t < 0
      · obtain ⟨k, hk⟩ : ∃ k : Nat, t + el = k := ⟨(t + el).toNat, by omega⟩
        have hkw : IntKind.i64.wrap (t + el) = k := by rw [IntWalk.i64_in _ (by omega), hk]
        have hkl : k < el := by omega
        clear hk
        go_wp2_with fail
        go_meet
        case rel => exact ⟨k, rfl, hkl, rfl⟩
      · obtain ⟨k, rfl⟩ : ∃ k : Nat, t = k := ⟨t.toNat, by omega⟩
        have hkl : k < el := by omega
        go_wp2_with fail
        go_meet
        case rel => exact ⟨k, rfl, hkl, rfl⟩
    case rest =>
      obtain ⟨k, rfl, hk, rfl⟩ := hcut
      clear hrem
      have hs2 := (Row.bytes HROW2.out).2
      have hcutk := HCUT.out k hk
      have hdec := decode_any (hs2.take (k := k) (c' := k) (by omega) (Nat.le_refl _) (by unfold maxLen; omega))
      unfold Decoded at hdec
      rw [show decE (eb.take k) = (5, (k : Int)) by unfold decE; rw [hcutk]] at hdec
      generalize decL (eb.take k) = d3 at hdec
      obtain ⟨z1, z2, z3, z4, z5, z6, z7⟩ := d3
      have hbk : k ≤ k2 := by omega
      have HDEC := Lib.hid hdec
      clear hdec
      clear hs2 hcutk HCUT
      go_upto_region 10 with (go_at_call 11; refine HDEC.out.mono ?_; rintro e w3 ⟨cs3, F3, rfl, hown3, hF3, hn3⟩; obtain ⟨El, el3, Et, et3, Ep, ep3, ecs, -⟩ := own_open hown3; obtain rfl : cs3 = (confC ⟨z1, z2, z3, z4, z5, z6, z7⟩ El el3 Et et3 Ep ep3).toArray := Array.ext' ecs; unfold confC; simp only; have HN3 := Lib.hid hn3; clear hown3 hF3 hn3 ecs)
      clear HDEC
      have hn4 := HN3.out.alloc (.cells #[.slice El z1.length el3, .slice Et z2.length et3, .int .i64 z3, .int .i64 z4, .int .i64 z5, .int .i64 z6, .slice Ep z7.length ep3] 26)
      clear HN3
      generalize w3.alloc (.cells #[.slice El z1.length el3, .slice Et z2.length et3, .int .i64 z3, .int .i64 z4, .int .i64 z5, .int .i64 z6, .slice Ep z7.length ep3] 26) = w4 at *
      obtain ⟨m, hmin⟩ : ∃ m : Nat, min (nm : Int) 100 = m := ⟨(min (nm : Int) 100).toNat, by omega⟩
      have hm1 : m ≤ nm := by omega
      have hm2 : m ≤ 100 := by omega
      have hmk : m ≤ km := by omega
      have hn04 := HN2'.out.trans hn4
      have hmt := (HM.out.take hm1 hmk (by unfold maxLen; omega)).kept hn04 (Nat.le_refl _) (fun _ _ h => h)
      have hsrc := hmt.srcB Try.underlying27
      have hmtl := hmt.len
      have hmoreE := HMORE.out (ms.take m) (by omega)
      have hrow4 := HROW2.out.new (by decide) hn4
      have hcutr := hrow4.cut (lo := 0) (hi := el) (c' := el) (Nat.zero_le _) (Nat.le_refl _) (by omega) (by omega) (by omega)
      obtain ⟨g2, o2, rfl, rfl, hrc4⟩ := hcutr
      rw [Nat.zero_mul, Nat.add_zero, Nat.sub_zero, List.drop_zero, List.take_of_length_le (by rw [List.length_map, HEL.out, Nat.mul_one]; exact Nat.le_refl _)] at hrc4
      generalize ms.take m = mt at *
      have hg2 : w1.heap.size ≤ g2 := HF2.out g2 rfl
      have hb4 := HB2.out.kept hn4 id
      have HN04 := Lib.hid hn04
      have HSRC := Lib.hid hsrc
      have HMOREE := Lib.hid hmoreE
      have HRC4 := Lib.hid hrc4
      have HMTL := Lib.hid hmtl
      have HB4 := Lib.hid hb4
      clear hn04 hsrc hmoreE hrc4 hmtl hb4
      clear hmt hrow4 hn4 HROW2 HN2' HB2 HM HMORE HF2
      go_upto_region 14 with (first
        | (at_builtin
           refine wpList_append_row Code.tyBytes rfl (.tmp 68) (.tmp 69) rfl rfl HRC4.out rfl HSRC.out (by unfold maxLen; omega) (by omega) ?_
           intro r5 A5 c5 w5 hr5 hk5 hn5
           have hr5b : Code.RowB w5 r5 A5 (el + m) c5 (eb ++ mt) := by unfold Code.RowB; rw [List.map_append]; exact hr5
           have hdec := decode_any (Row.bytes hr5b).2
           unfold Decoded at hdec
           rw [show decE (eb ++ mt) = (if mt = [] then (0, 0) else (6, (el : Int))) by unfold decE; rw [HMOREE.out]; by_cases e : mt = []; (rw [if_pos e, if_pos e]); (rw [if_neg e, if_neg e])] at hdec
           generalize decL (eb ++ mt) = d5 at hdec
           obtain ⟨q1, q2, q3, q4, q5, q6, q7⟩ := d5
           have HE := Lib.hid (show (m = 0 ∧ (if mt = [] then ((0 : Int), (0 : Int)) else (6, (el : Int))) = (0, 0)) ∨ (0 < m ∧ (if mt = [] then ((0 : Int), (0 : Int)) else (6, (el : Int))) = (6, (el : Int))) from by
             have hl := HMTL.out
             by_cases e : mt = []
             · subst e; exact .inl ⟨hl, rfl⟩
             · rw [if_neg e]
               refine .inr ⟨?_, rfl⟩
               rw [hl]
               exact List.length_pos_iff.2 e)
           generalize (if mt = [] then ((0 : Int), (0 : Int)) else (6, (el : Int))) = ee at *
           obtain ⟨e1, e2⟩ := ee
           simp only at hdec
           have HDEC := Lib.hid hdec
           have HK5 := Lib.hid hk5
           clear hr5 hr5b hdec hn5 hk5)
        | (go_at_call 11
           refine HDEC.out.mono ?_
           rintro e w6 ⟨cs6, F6, rfl, hown6, hF6, hn6⟩
           obtain ⟨Gl, gl6, Gt, gt6, Gp, gp6, ecs, -⟩ := own_open hown6
           obtain rfl : cs6 = (confC ⟨q1, q2, q3, q4, q5, q6, q7⟩ Gl gl6 Gt gt6 Gp gp6).toArray := Array.ext' ecs
           unfold confC
           simp only
           have HN6 := Lib.hid hn6
           clear hown6 hF6 hn6 ecs))
      have hk6 := HK5.out.trans ((HN6.out.alloc (.cells #[.slice Gl q1.length gl6, .slice Gt q2.length gt6, .int .i64 q3, .int .i64 q4, .int .i64 q5, .int .i64 q6, .slice Gp q7.length gp6] 26)).mono fun _ _ h => h.elim)
      clear HDEC HK5 HN6 HSRC HRC4 HMOREE HMTL
      generalize w6.alloc (.cells #[.slice Gl q1.length gl6, .slice Gt q2.length gt6, .int .i64 q3, .int .i64 q4, .int .i64 q5, .int .i64 q6, .slice Gp q7.length gp6] 26) = w7 at *
      have hn7 := HN04.out.step hk6 fun i hi e => by
        injection e with e
        omega
      have hb7 := HB4.out.kept hk6 (fun e => by injection e with e; have := HB1L.out; omega)
      clear HN04 HB4 hk6
      have HN7 := Lib.hid hn7
      have HB7 := Lib.hid hb7
      clear hn7 hb7
      go_cut [87] (fun z wx => z = .bool false ∧ wx = w7)
      case first =>
        rcases HE.out with ⟨g0, g1⟩ | ⟨g0, g1⟩
        · cases g1
          subst g0
          go_wp2_with fail
          go_meet
          case rel => exact ⟨rfl, rfl⟩
        · cases g1
          have g2 : (0 : Int) < (m : Int) := by omega
          go_wp2_with fail
          go_meet
          case rel => exact ⟨rfl, rfl⟩
      case rest =>
        obtain ⟨rfl, rfl⟩ := hcut
        clear HE
        have hrc7 := HRC.out.news HN7.out (Nat.le_refl _)
        have hlt7 := HN7.out.size
        have hs := HSANE.out
        have hwide := wide_any hrc7 hlt7 (by have := hs.labels; omega) (by have := hs.table; omega) (by have := hs.procs; omega) (fun p hp => by have := (may_ok (hs.code p hp)).2.2.1; omega) HWF.out
        have hpn := hs.procs
        unfold Wided confC at hwide
        have y0 := HB7.out.cell 0
        have y1 := HB7.out.cell 1
        have y2 := HB7.out.cell 2
        have y3 := HB7.out.cell 3
        have y4 := HB7.out.cell 4
        have y5 := HB7.out.cell 5
        have y6 := HB7.out.cell 6
        simp only [List.getElem?_toArray, List.getElem?_cons_zero, List.getElem?_cons_succ] at y0 y1 y2 y3 y4 y5 y6
        have HWIDE := Lib.hid hwide
        have HRC7 := Lib.hid hrc7
        clear hwide hrc7
        clear hs HSANE
        go_upto_region 17 with (go_at_call 12; refine HWIDE.out.mono ?_; rintro e w8 ⟨Dl, dl, Dt, dt, Dp, dp, F8, rfl, hw8, hF8, hn8⟩; have HW8 := Lib.hid hw8; have HF8 := Lib.hid hF8; have HN8 := Lib.hid hn8; clear hw8 hF8 hn8)
        clear y0 y1 y2 y3 y4 y5 y6 HWIDE
        have k9 : New w8 (w8.alloc (.cells #[.slice Dl c.labels.length dl, .slice Dt c.table.length dt, .int .i64 c.fuel, .int .i64 c.lane, .int .i64 c.locks, .int .i64 c.log, .slice Dp c.procs.length dp] 26)) := (Kept.refl _ _).alloc _
        have hd9 := Blk.made w8 26 #[.slice Dl c.labels.length dl, .slice Dt c.table.length dt, .int .i64 c.fuel, .int .i64 c.lane, .int .i64 c.locks, .int .i64 c.log, .slice Dp c.procs.length dp]
        have h78 := HN8.out.size
        have hlt9 := k9.size
        generalize w8.alloc (.cells #[.slice Dl c.labels.length dl, .slice Dt c.table.length dt, .int .i64 c.fuel, .int .i64 c.lane, .int .i64 c.locks, .int .i64 c.log, .slice Dp c.procs.length dp] 26) = w9 at *
        have hdl9 := hd9.lt
        have hn9 := (HN7.out.trans HN8.out).trans k9
        have hb9 := HB7.out.kept (HN8.out.trans k9) id
        have hrc9 := HRC7.out.news (HN8.out.trans k9) hlt7
        obtain ⟨Fl, Ft, Fp, o1, o2', o3, hsub, hdis⟩ := HW8.out
        have hFw : ∀ g, F8 g → w.heap.size ≤ g ∧ wc.heap.size ≤ g ∧ g < w8.heap.size := fun g e => by have := HF8.out g e; omega
        have hmod : k % c.procs.length < c.procs.length := Nat.mod_lt _ (by omega)
        obtain ⟨g, o, v, rfl, hgF, hglt, hcell, hfree, hpr⟩ := procs_put (o3.new k9) (HI.out.kept hn9 (Nat.le_refl _) (fun _ _ h => h)) hn9.size (fun g e => (hFw g (hsub g (.inr (.inr e)))).1) hmod
        have hgb := hFw g (hsub g (.inr (.inr hgF)))
        have p1 := o1.new k9
        have p2 := o2'.new k9
        have hfl : ∀ j, Fl j → j ≠ g := fun j e e' => by subst e'; exact ((hdis j).1 e).2 hgF
        have hft : ∀ j, Ft j → j ≠ g := fun j e e' => by subst e'; exact (hdis j).2 e hgF
        have z6 := hd9.cell 6
        simp only [List.getElem?_toArray, List.getElem?_cons_zero, List.getElem?_cons_succ] at z6
        have hnp0 : c.procs.length ≠ 0 := by omega
        have hnp1 : ¬ (c.procs.length : Int) = 0 := by omega
        generalize w8.heap.size = db at *
        have HCB7 := Lib.hid (HB7.out.lt)
        have HN9 := Lib.hid hn9
        have HB9 := Lib.hid hb9
        have HRC9 := Lib.hid hrc9
        have HPR := Lib.hid hpr
        have P1 := Lib.hid p1
        have P2 := Lib.hid p2
        have HFL := Lib.hid hfl
        have HFT := Lib.hid hft
        have HD9 := Lib.hid hd9
        clear hn9 hb9 hrc9 hpr p1 p2 hfl hft hd9
        clear HW8 HF8 HN8 HN7 HB7 HRC7 o1 o2' o3 hsub hdis hFw k9 HI
        go_region
        have hk10 : Kept (fun k => k = g) w9 (w9.setCell ⟨g, o + k % c.procs.length * 2 + 1, none⟩ (.slice Ai ni ki)).drew := (Kept.set1 _ _ _ _).drew
        have hsz : (w9.setCell ⟨g, o + k % c.procs.length * 2 + 1, none⟩ (.slice Ai ni ki)).drew.heap.size = w9.heap.size := (size_set _ _ _).symm
        have hp10 := SliceOf.drewN HPR.out 1
        change SliceOf repProc (w9.setCell ⟨g, o + k % c.procs.length * 2 + 1, none⟩ (.slice Ai ni ki)).drew _ _ _ _ _ at hp10
        clear hcell hfree z6 HPR
        generalize (w9.setCell ⟨g, o + k % c.procs.length * 2 + 1, none⟩ (.slice Ai ni ki)).drew = w10 at *
        have hcb7 := HCB7.out
        have hb10 := HB9.out.kept hk10 (by omega)
        have hd10 := HD9.out.kept hk10 (by omega)
        have hr10 := (HRC9.out.kept hk10 HN9.out.size (fun j hj e => by omega)).more (show w.heap.size ≤ w10.heap.size by have := HN9.out.size; omega)
        rw [← hsz] at hp10
        have hpl : (c.procs.set (k % c.procs.length) (c.procs[k % c.procs.length].1, l)).length = c.procs.length := List.length_set
        have hrd : ReadC w10.heap.size w10 { c with procs := c.procs.set (k % c.procs.length) (c.procs[k % c.procs.length].1, l) } Dl dl Dt dt (some ⟨g, o, none⟩) dp :=
          ⟨((OSl.front P1.out rfl).kept hk10 (fun j e e' => HFL.out j e e')).read reads_u64, ((OSl.front P2.out rfl).kept hk10 (fun j e e' => HFT.out j e e')).read reads_i64, by simp only; rw [hpl]; exact hp10⟩
        have hskel := skel_read hr10 hrd (Nat.le_refl _)
        rw [skel_put, eqb_refl] at hskel
        unfold confC at hskel
        simp only [List.length_set] at hskel
        have hn10 := HN9.out.step hk10 (fun i hi e => by omega)
        have y0 := hb10.cell 0
        have y1 := hb10.cell 1
        have y2 := hb10.cell 2
        have y3 := hb10.cell 3
        have y4 := hb10.cell 4
        have y5 := hb10.cell 5
        have y6 := hb10.cell 6
        simp only [List.getElem?_toArray, List.getElem?_cons_zero, List.getElem?_cons_succ] at y0 y1 y2 y3 y4 y5 y6
        have u0 := hd10.cell 0
        have u1 := hd10.cell 1
        have u2 := hd10.cell 2
        have u3 := hd10.cell 3
        have u4 := hd10.cell 4
        have u5 := hd10.cell 5
        have u6 := hd10.cell 6
        simp only [List.getElem?_toArray, List.getElem?_cons_zero, List.getElem?_cons_succ] at u0 u1 u2 u3 u4 u5 u6
        have HSKEL := Lib.hid hskel
        have HN10 := Lib.hid hn10
        clear hskel hn10
        clear hb10 hd10 hr10 hrd HB9 HD9 HRC9 HN9 P1 P2 HFL HFT hp10 hk10 hpl hsz
        go_wp2_with (go_at_call 13; refine HSKEL.out.mono ?_; rintro e w11 ⟨rfl, hn11⟩)
        go_ret
        exact ⟨rfl, HN10.out.trans hn11⟩
  · have he : encC c = [] := by unfold encC; rw [if_neg (fun e => hmz (congrArg Prod.fst e))]
    rw [he, List.length_nil]
    have hmz2 : ((mayC c).1 != 0) = true := by simpa using hmz
    clear he hmz hb2 HFIT hrow2 hf2
    generalize (mayC c).1 = m1 at *
    have HN2' := Lib.hid hn2'
    clear hn2'
    go_wp2_with fail
    go_ret
    exact ⟨rfl, HN2'.out⟩
end Go.Proofs.Ytaefgljpdpigeaa.Conf
