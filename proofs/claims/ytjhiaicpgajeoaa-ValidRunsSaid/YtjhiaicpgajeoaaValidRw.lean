/- The walk of ValidRuns (layer 8). Printed by wip/tools/mkRw08.py. -/
import Derived.Test.YtjhiaicpgajeoaaValidB
namespace Go.Proofs.Ytjhiaicpgajeoaa.Valid
open Go.RowKit Go.Fb Go.BytesP Go.CodeP Go.ValidP
open Go.Proofs.Ytjhiaicpgajeoaa.Code (repIns ins_at ins_wf cellsI Wf opens_ins)
set_option linter.unusedVariables false
theorem bools_at {w : World} {B : Nat} {A : Option Addr} {n c : Nat} {l : List Bool} (h : SliceOf Rep.bool w B A n c l) (hn : 0 < n) : ∃ b o, A = some ⟨b, o, none⟩ ∧ b < B ∧ ∀ i (h : i < l.length), w.cell? ⟨b, o + i, none⟩ = some (.bool l[i]) := by
  obtain ⟨b, o, e, hb, hc⟩ := h.get hn
  refine ⟨b, o, e, hb, fun i hi => ?_⟩
  obtain ⟨es, g1, rfl⟩ := hc i hi
  have := g1 0 (by decide)
  simpa [Rep.bool] using this
/-- How a walk lies. -/
def repWalk : Rep ((List Ins) × Int × Int × (List Bool) × Unit) := repIns.slice.pair ((Rep.int .i64).pair ((Rep.int .i64).pair (Rep.bool.slice.pair Rep.unit)))
theorem opens_walk : Opens Try.prog repWalk 36 :=
  opens_struct Try.underlying36 (by kernel_rfl) (opensAt_cons rfl (by kernel_rfl) (opens_slice Try.underlying23 (by kernel_rfl) (by decide) opens_ins) (opensAt_cons rfl (by kernel_rfl) (opens_int Try.underlying3) (opensAt_cons rfl (by kernel_rfl) (opens_int Try.underlying3) (opensAt_cons rfl (by kernel_rfl) (opens_slice Try.underlying34 (by kernel_rfl) (by decide) (opens_bool Try.underlying4)) opensAt_nil))))
theorem nexts_at {l : List Ins} {p h : Nat} {x : Ins} (hx : l[p]? = some x) : nexts l (p, h) = (if x.op = 0 then [] else if x.op = 22 then [(x.imm.toNat, h)] else if x.op = 23 then [(x.imm.toNat, h), (p + 1, h)] else if x.op = 29 then [(p + 1, lockB h x.imm.toNat)] else if x.op = 30 then [(p + 1, unlockB h x.imm.toNat)] else [(p + 1, h)]) := by
  unfold nexts
  simp only [hx]
theorem wrong_at {l : List Ins} {p h : Nat} {x : Ins} (hx : l[p]? = some x) : wrongS l (p, h) = (if x.op = 29 then (if 0 < h >>> x.imm.toNat then 14 else 0) else if x.op = 30 then (if (h >>> x.imm.toNat) % 2 = 0 then 14 else 0)
      else if x.op = 24 ∨ x.op = 25 ∨ x.op = 28 then (if h ≠ 0 then 16 else 0) else 0) := by
  unfold wrongS
  simp only [hx]
set_option maxRecDepth 100000 in
set_option maxHeartbeats 8000000 in
theorem runs_core {A A2 : Option Addr} {n c m c2 : Nat} {l : List Ins} {way : List Bool} {w : World} {locks hold : Int} (hl : SliceOf repIns w w.heap.size A n c l) (hw : SliceOf Rep.bool w w.heap.size A2 m c2 way) (hwf : (Lit.int .i64 hold).wf = true) :
    Calls Try.prog 5 #[.agg #[.slice A n c, .int .i64 locks, .int .i64 hold, .slice A2 m c2]] w fun e w' => e = .returned (.bool true) ∧ New w w' := by
  have HCH := Lib.hid (fun W (hW : New w W) => check_any (w := W) (locks := locks) (hold := hold) ((hl.kept hW (Nat.le_refl _) (fun _ _ h => h)).more hW.size) hwf)
  have HFX := Lib.hid (fun W => fixed_any W)
  have HIN := Lib.hid (fun W (hW : New w W) (hn : 0 < n) => ins_at (hl.kept hW (Nat.le_refl _) (fun _ _ h => h)) hn)
  have HWA := Lib.hid (fun W (hW : New w W) (hn : 0 < m) => bools_at (hw.kept hW (Nat.le_refl _) (fun _ _ h => h)) hn)
  have hln := hl.len
  have hbd := hl.bound
  have hwn := hw.len
  have hbw := hw.bound
  have hb0 := Blk.made w 36 #[.slice A n c, .int .i64 locks, .int .i64 hold, .slice A2 m c2]
  have hn0 : New w (w.alloc (.cells #[.slice A n c, .int .i64 locks, .int .i64 hold, .slice A2 m c2] 36)) := (Kept.refl _ _).alloc _
  have HL := Lib.hid hl
  have HW := Lib.hid hw
  have HLN := Lib.hid hln
  have HWN := Lib.hid hwn
  clear hl hw hln hwn
  go_enter Try.func5, Try.ntmps5
  go_upto_region 1 with (fail)
  generalize w.alloc (.cells #[.slice A n c, .int .i64 locks, .int .i64 hold, .slice A2 m c2] 36) = w0 at *
  generalize w.heap.size = bw at *
  have y0 := hb0.cell 0
  have y1 := hb0.cell 1
  have y2 := hb0.cell 2
  have y3 := hb0.cell 3
  simp only [List.getElem?_toArray, List.getElem?_cons_zero, List.getElem?_cons_succ] at y0 y1 y2 y3
  have HB0 := Lib.hid hb0
  clear hb0
  go_quiet (fail)
  have hn0 := hn0.drewN nq
  clear y0 y1 y2 y3 HB0
  generalize w0.drewN nq = w1 at *
  have hch := HCH.out w1 hn0
  have HN0 := Lib.hid hn0
  have HCH1 := Lib.hid hch
  clear hn0 hch
  go_wp2_with fail
  refine HCH1.out.mono ?_
  rintro e w2 ⟨hw2, er, at_, rfl, hr⟩
  have hn2 := HN0.out.trans hw2
  have hfx := HFX.out w2
  clear hw2
  by_cases he : er = 0
  · subst he
    have ht := taken_of hr
    obtain ⟨k1, k2, k3, k4⟩ := may_ok ht.may
    have hlo := ht.lo
    have hhi := ht.hi
    have hn256 : n ≤ 256 := by rw [HLN.out]; exact k3
    have HNB := Lib.hid (fun x hx => number_bounds (k4 x hx))
    have HSMA := Lib.hid (fun s (h : ValidP.Reach l s) => h.small k2 k4)
    clear hfx
    have HR := Lib.hid hr
    have HT := Lib.hid ht
    have K4 := Lib.hid k4
    clear hr ht k4
    clear k1 k3
    have HN2 := Lib.hid hn2
    clear hn2
    go_wp2_with fail
    go_loopw [9, 10, 11, 12] (fun s9 s10 s11 s12 wr => ∃ (i p h : Nat) (u : Int), s12 = .int .i64 i ∧ s9 = .int .i64 h ∧ s10 = .int .i64 u ∧ s11 = .int .i64 p ∧ i ≤ 20000 ∧ 0 ≤ u ∧ u ≤ 64 ∧ New w wr ∧ RunI l hold p h u) (fun _ _ _ s _ => (20000 - intOf s).toNat)
    case atStart => exact ⟨0, 0, 0, 0, rfl, rfl, rfl, rfl, by omega, by omega, by omega, HN2.out, RunI.start l hold⟩
    case round =>
      obtain ⟨i, p, h, u, rfl, rfl, rfl, rfl, hi, hu0, hu9, hnr, hrun⟩ := hrel
      by_cases hi1 : i ≤ m
      · have hi1d : (i : Int) ≤ (m : Int) := by omega
        by_cases hi2 : i < 20000
        · have hi2d : decide ((i : Int) < 20000) = true := by simp; omega
          have hi2z : (i : Int) < 20000 := by omega
          have hsm := HSMA.out _ hrun.reach
          have hp : p ≤ n := by have := hsm.1; simp only at this; have := HLN.out; omega
          have hh : h < 256 := hsm.2
          have hfine := HT.out.fine _ hrun.reach
          have hfx := HFX.out
          have hpz : ¬ (p : Int) < 0 := by omega
          have hpn : ¬ (n : Int) < (p : Int) := by omega
          have HSM := Lib.hid hsm
          have HFX2 := Lib.hid hfx
          clear hsm hfx
          by_cases hpe : p = n
          · subst hpe
            by_cases hh0 : h = 0
            · subst hh0
              obtain rfl := hrun.zero rfl
              have HNR := Lib.hid hnr
              have HRUN := Lib.hid hrun
              have HFINE := Lib.hid hfine
              clear hnr hrun hfine
              go_wp2_with fail
              refine (HFX2.out wr).mono ?_
              rintro e w4 ⟨rfl, hw4⟩
              have HW4 := Lib.hid hw4
              clear hw4
              go_wp2_with fail
              go_ret
              exact ⟨rfl, HNR.out.trans HW4.out⟩
            · skip
              have hhz : 0 < h := by omega
              have hle := hrun.left hh0
              have hled : ¬ hold < u + 1 := by omega
              have HNR := Lib.hid hnr
              have HRUN := Lib.hid hrun
              have HFINE := Lib.hid hfine
              have HH0 := Lib.hid hh0
              clear hnr hrun hfine hh0
              go_wp2_with fail
              refine (HFX2.out wr).mono ?_
              rintro e w4 ⟨rfl, hw4⟩
              have HW4 := Lib.hid hw4
              clear hw4
              go_wp2_with fail
              go_ret
              exact ⟨rfl, HNR.out.trans HW4.out⟩
          · have hpl : p < l.length := by have := HLN.out; omega
            have hpe2 : ((p : Int) == (n : Int)) = false := by simp; omega
            obtain ⟨b, o, rfl, hb, hcs⟩ := HIN.out wr hnr (by omega)
            obtain ⟨c0, c1, c2, c3, c4⟩ := hcs p hpl
            have hxx : l[p]? = some l[p] := List.getElem?_eq_getElem hpl
            have hnb := HNB.out _ (List.getElem_mem hpl)
            have hNX := nexts_at (h := h) hxx
            rw [wrong_at hxx] at hfine
            generalize l[p] = x at *
            obtain ⟨op, xa, xb, xc, imm⟩ := x
            simp only at c0 c1 c2 c3 c4 hnb hNX hfine
            have hpn2 : (p : Int) < (n : Int) := by omega
            have sw : IntKind.i64.wrap ((p : Int) + 1) = (p : Int) + 1 := by rw [IntKind.wrap_i64]; omega
            have hal : New w (wr.alloc (.cells #[.int .i64 op, .int .i64 xa, .int .i64 xb, .int .i64 xc, .int .i64 imm] 25)) := hnr.alloc _
            clear hcs hb
            have HNR := Lib.hid hnr
            clear hnr
            by_cases hh0 : h = 0
            · subst hh0
              obtain rfl := hrun.zero rfl
              by_cases e0 : op = 0
              · subst e0
                have HRUN := Lib.hid hrun
                have HFINE := Lib.hid hfine
                have HAL := Lib.hid hal
                have HNX := Lib.hid hNX
                have HXX := Lib.hid hxx
                have HNB := Lib.hid hnb
                clear hrun hfine hal hNX hxx hnb
                go_wp2_with fail
                refine (HFX2.out wr).mono ?_
                rintro e w4 ⟨rfl, hw4⟩
                have HW4 := Lib.hid hw4
                clear hw4
                go_wp2_with fail
                go_ret
                exact ⟨rfl, HNR.out.trans HW4.out⟩
              have g0 : (op == 0) = false := by simpa using e0
              rw [if_neg e0] at hNX
              by_cases e1 : op = 22
              · subst e1
                rw [if_pos rfl] at hNX
                obtain ⟨k, rfl⟩ : ∃ k : Nat, imm = k := ⟨imm.toNat, by have := hnb.1 (.inl rfl); omega⟩
                rw [Int.toNat_natCast] at hNX
                have HRUN := Lib.hid hrun
                have HFINE := Lib.hid hfine
                have HAL := Lib.hid hal
                have HNX := Lib.hid hNX
                have HXX := Lib.hid hxx
                have HNB := Lib.hid hnb
                clear hrun hfine hal hNX hxx hnb
                have hst := HRUN.out.step HT.out (q := k) (g := 0) (by rw [HNX.out]; exact List.mem_singleton.2 rfl) (fun e => rfl)
                rw [if_pos rfl] at hst
                have HST := Lib.hid hst
                clear hst
                go_wp2_with fail
                go_roundw
                case rel => exact ⟨i + 1, k, 0, 0, by go_num, rfl, rfl, rfl, by omega, by omega, by omega, HAL.out, HST.out⟩
                case measure => simp [intOf]; omega
              have g1 : (op == 22) = false := by simpa using e1
              rw [if_neg e1] at hNX
              by_cases e2 : op = 23
              · subst e2
                rw [if_pos rfl] at hNX
                obtain ⟨k, rfl⟩ : ∃ k : Nat, imm = k := ⟨imm.toNat, by have := hnb.1 (.inr rfl); omega⟩
                rw [Int.toNat_natCast] at hNX
                by_cases hiw : i < m
                · have hiwd : (i : Int) < (m : Int) := by omega
                  obtain ⟨b3, o3, rfl, -, hws⟩ := HWA.out _ hal (by omega)
                  have hil : i < way.length := by have := HWN.out; omega
                  have z0 := hws i hil
                  cases hwi : way[i] with
                  | true =>
                    rw [hwi] at z0
                    have HRUN := Lib.hid hrun
                    have HFINE := Lib.hid hfine
                    have HAL := Lib.hid hal
                    have HNX := Lib.hid hNX
                    have HXX := Lib.hid hxx
                    have HNB := Lib.hid hnb
                    clear hrun hfine hal hNX hxx hnb
                    clear hws
                    have hst := HRUN.out.step HT.out (q := k) (g := 0) (by rw [HNX.out]; exact List.mem_cons_self ..) (fun e => rfl)
                    rw [if_pos rfl] at hst
                    have HST := Lib.hid hst
                    have HWI := Lib.hid hwi
                    clear hst hwi
                    go_wp2_with fail
                    go_roundw
                    case rel => exact ⟨i + 1, k, 0, 0, by go_num, rfl, rfl, rfl, by omega, by omega, by omega, HAL.out, HST.out⟩
                    case measure => simp [intOf]; omega
                  | false =>
                    rw [hwi] at z0
                    have HRUN := Lib.hid hrun
                    have HFINE := Lib.hid hfine
                    have HAL := Lib.hid hal
                    have HNX := Lib.hid hNX
                    have HXX := Lib.hid hxx
                    have HNB := Lib.hid hnb
                    clear hrun hfine hal hNX hxx hnb
                    clear hws
                    have hst := HRUN.out.step HT.out (q := p + 1) (g := 0) (by rw [HNX.out]; exact List.mem_cons_of_mem _ (List.mem_cons_self ..)) (fun e => rfl)
                    rw [if_pos rfl] at hst
                    have HST := Lib.hid hst
                    have HWI := Lib.hid hwi
                    clear hst hwi
                    go_wp2_with fail
                    go_roundw
                    case rel => exact ⟨i + 1, p + 1, 0, 0, by go_num, rfl, rfl, rfl, by omega, by omega, by omega, HAL.out, HST.out⟩
                    case measure => simp [intOf]; omega
                · have hiwd : ¬ (i : Int) < (m : Int) := by omega
                  have HRUN := Lib.hid hrun
                  have HFINE := Lib.hid hfine
                  have HAL := Lib.hid hal
                  have HNX := Lib.hid hNX
                  have HXX := Lib.hid hxx
                  have HNB := Lib.hid hnb
                  clear hrun hfine hal hNX hxx hnb
                  have hst := HRUN.out.step HT.out (q := p + 1) (g := 0) (by rw [HNX.out]; exact List.mem_cons_of_mem _ (List.mem_cons_self ..)) (fun e => rfl)
                  rw [if_pos rfl] at hst
                  have HST := Lib.hid hst
                  clear hst
                  go_wp2_with fail
                  go_roundw
                  case rel => exact ⟨i + 1, p + 1, 0, 0, by go_num, rfl, rfl, rfl, by omega, by omega, by omega, HAL.out, HST.out⟩
                  case measure => simp [intOf]; omega
              have g2 : (op == 23) = false := by simpa using e2
              rw [if_neg e2] at hNX
              by_cases e3 : op = 29
              · subst e3
                rw [if_pos rfl] at hNX hfine
                obtain ⟨him0, him8⟩ := hnb.2 (.inl rfl)
                have hsh : ¬ 0 < 0 >>> imm.toNat := fun e => by rw [if_pos e] at hfine; exact absurd hfine (by decide)
                have hsh2 := shr_int (h := 0) him0
                rw [Nat.eq_zero_of_not_pos hsh] at hsh2
                have hsh2 : (0 : Int) / 2 ^ imm.toNat = 0 := hsh2
                obtain ⟨gg, hgg⟩ : ∃ gg, lockB 0 imm.toNat = gg := ⟨_, rfl⟩
                have hor : bits BinOp.or IntKind.i64 (0 : Int) (wrap64 (2 ^ imm.toNat)) = (gg : Int) := by rw [← hgg]; exact jbits_or (h := 0) hh him0 (by omega)
                rw [hgg] at hNX
                have hd1 : ¬ imm < 0 := by omega
                have hd2 : ¬ locks ≤ imm := by omega
                have uw : IntKind.u64.wrap imm = imm := by rw [IntKind.wrap_u64]; omega
                have him9 : imm ≤ 7 := by omega
                have HRUN := Lib.hid hrun
                have HFINE := Lib.hid hfine
                have HAL := Lib.hid hal
                have HNX := Lib.hid hNX
                have HXX := Lib.hid hxx
                have HNB := Lib.hid hnb
                clear hrun hfine hal hNX hxx hnb
                have hst := HRUN.out.lock HT.out HXX.out rfl
                rw [show lockB 0 (Ins.mk 29 xa xb xc imm).imm.toNat = gg from hgg] at hst
                have HST := Lib.hid hst
                have HSH := Lib.hid hsh
                have HGG := Lib.hid hgg
                clear hst hsh hgg
                go_wp2_with fail
                go_roundw
                case rel => exact ⟨i + 1, p + 1, gg, 0, by go_num, rfl, rfl, rfl, by omega, by omega, by omega, HAL.out, HST.out⟩
                case measure => simp [intOf]; omega
              have g3 : (op == 29) = false := by simpa using e3
              rw [if_neg e3] at hNX hfine
              by_cases e4 : op = 30
              · subst e4
                exfalso
                rw [if_pos rfl, Nat.zero_shiftRight, if_pos rfl] at hfine
                exact absurd hfine (by decide)
              have g4 : (op == 30) = false := by simpa using e4
              rw [if_neg e4] at hNX hfine
              by_cases e5 : op = 24 ∨ op = 25 ∨ op = 28
              · rcases e5 with rfl | rfl | rfl
                all_goals
                  skip
                  have HRUN := Lib.hid hrun
                  have HFINE := Lib.hid hfine
                  have HAL := Lib.hid hal
                  have HNX := Lib.hid hNX
                  have HXX := Lib.hid hxx
                  have HNB := Lib.hid hnb
                  clear hrun hfine hal hNX hxx hnb
                  have hst := HRUN.out.step HT.out (q := p + 1) (g := 0) (by rw [HNX.out]; exact List.mem_singleton.2 rfl) (fun e => rfl)
                  rw [if_pos rfl] at hst
                  have HST := Lib.hid hst
                  clear hst
                  go_wp2_with fail
                  go_roundw
                  case rel => exact ⟨i + 1, p + 1, 0, 0, by go_num, rfl, rfl, rfl, by omega, by omega, by omega, HAL.out, HST.out⟩
                  case measure => simp [intOf]; omega
              have g5 : (op == 24) = false := by simp; omega
              have g6 : (op == 25) = false := by simp; omega
              have g7 : (op == 28) = false := by simp; omega
              clear e5
              have HRUN := Lib.hid hrun
              have HFINE := Lib.hid hfine
              have HAL := Lib.hid hal
              have HNX := Lib.hid hNX
              have HXX := Lib.hid hxx
              have HNB := Lib.hid hnb
              clear hrun hfine hal hNX hxx hnb
              have hst := HRUN.out.step HT.out (q := p + 1) (g := 0) (by rw [HNX.out]; exact List.mem_singleton.2 rfl) (fun e => rfl)
              rw [if_pos rfl] at hst
              have HST := Lib.hid hst
              clear hst
              go_wp2_with fail
              go_roundw
              case rel => exact ⟨i + 1, p + 1, 0, 0, by go_num, rfl, rfl, rfl, by omega, by omega, by omega, HAL.out, HST.out⟩
              case measure => simp [intOf]; omega
            · skip
              have hhz : 0 < h := by omega
              have hle := hrun.left hh0
              have hled : ¬ hold < u + 1 := by omega
              by_cases e0 : op = 0
              · subst e0
                have HRUN := Lib.hid hrun
                have HFINE := Lib.hid hfine
                have HAL := Lib.hid hal
                have HNX := Lib.hid hNX
                have HXX := Lib.hid hxx
                have HNB := Lib.hid hnb
                have HH0 := Lib.hid hh0
                clear hrun hfine hal hNX hxx hnb hh0
                go_wp2_with fail
                refine (HFX2.out wr).mono ?_
                rintro e w4 ⟨rfl, hw4⟩
                have HW4 := Lib.hid hw4
                clear hw4
                go_wp2_with fail
                go_ret
                exact ⟨rfl, HNR.out.trans HW4.out⟩
              have g0 : (op == 0) = false := by simpa using e0
              rw [if_neg e0] at hNX
              by_cases e1 : op = 22
              · subst e1
                rw [if_pos rfl] at hNX
                obtain ⟨k, rfl⟩ : ∃ k : Nat, imm = k := ⟨imm.toNat, by have := hnb.1 (.inl rfl); omega⟩
                rw [Int.toNat_natCast] at hNX
                have HRUN := Lib.hid hrun
                have HFINE := Lib.hid hfine
                have HAL := Lib.hid hal
                have HNX := Lib.hid hNX
                have HXX := Lib.hid hxx
                have HNB := Lib.hid hnb
                have HH0 := Lib.hid hh0
                clear hrun hfine hal hNX hxx hnb hh0
                have hst := HRUN.out.step HT.out (q := k) (g := h) (by rw [HNX.out]; exact List.mem_singleton.2 rfl) (fun e => e)
                rw [if_neg HH0.out] at hst
                have HST := Lib.hid hst
                clear hst
                go_wp2_with fail
                go_roundw
                case rel => exact ⟨i + 1, k, h, (u + 1), by go_num, rfl, rfl, rfl, by omega, by omega, by omega, HAL.out, HST.out⟩
                case measure => simp [intOf]; omega
              have g1 : (op == 22) = false := by simpa using e1
              rw [if_neg e1] at hNX
              by_cases e2 : op = 23
              · subst e2
                rw [if_pos rfl] at hNX
                obtain ⟨k, rfl⟩ : ∃ k : Nat, imm = k := ⟨imm.toNat, by have := hnb.1 (.inr rfl); omega⟩
                rw [Int.toNat_natCast] at hNX
                by_cases hiw : i < m
                · have hiwd : (i : Int) < (m : Int) := by omega
                  obtain ⟨b3, o3, rfl, -, hws⟩ := HWA.out _ hal (by omega)
                  have hil : i < way.length := by have := HWN.out; omega
                  have z0 := hws i hil
                  cases hwi : way[i] with
                  | true =>
                    rw [hwi] at z0
                    have HRUN := Lib.hid hrun
                    have HFINE := Lib.hid hfine
                    have HAL := Lib.hid hal
                    have HNX := Lib.hid hNX
                    have HXX := Lib.hid hxx
                    have HNB := Lib.hid hnb
                    have HH0 := Lib.hid hh0
                    clear hrun hfine hal hNX hxx hnb hh0
                    clear hws
                    have hst := HRUN.out.step HT.out (q := k) (g := h) (by rw [HNX.out]; exact List.mem_cons_self ..) (fun e => e)
                    rw [if_neg HH0.out] at hst
                    have HST := Lib.hid hst
                    have HWI := Lib.hid hwi
                    clear hst hwi
                    go_wp2_with fail
                    go_roundw
                    case rel => exact ⟨i + 1, k, h, (u + 1), by go_num, rfl, rfl, rfl, by omega, by omega, by omega, HAL.out, HST.out⟩
                    case measure => simp [intOf]; omega
                  | false =>
                    rw [hwi] at z0
                    have HRUN := Lib.hid hrun
                    have HFINE := Lib.hid hfine
                    have HAL := Lib.hid hal
                    have HNX := Lib.hid hNX
                    have HXX := Lib.hid hxx
                    have HNB := Lib.hid hnb
                    have HH0 := Lib.hid hh0
                    clear hrun hfine hal hNX hxx hnb hh0
                    clear hws
                    have hst := HRUN.out.step HT.out (q := p + 1) (g := h) (by rw [HNX.out]; exact List.mem_cons_of_mem _ (List.mem_cons_self ..)) (fun e => e)
                    rw [if_neg HH0.out] at hst
                    have HST := Lib.hid hst
                    have HWI := Lib.hid hwi
                    clear hst hwi
                    go_wp2_with fail
                    go_roundw
                    case rel => exact ⟨i + 1, p + 1, h, (u + 1), by go_num, rfl, rfl, rfl, by omega, by omega, by omega, HAL.out, HST.out⟩
                    case measure => simp [intOf]; omega
                · have hiwd : ¬ (i : Int) < (m : Int) := by omega
                  have HRUN := Lib.hid hrun
                  have HFINE := Lib.hid hfine
                  have HAL := Lib.hid hal
                  have HNX := Lib.hid hNX
                  have HXX := Lib.hid hxx
                  have HNB := Lib.hid hnb
                  have HH0 := Lib.hid hh0
                  clear hrun hfine hal hNX hxx hnb hh0
                  have hst := HRUN.out.step HT.out (q := p + 1) (g := h) (by rw [HNX.out]; exact List.mem_cons_of_mem _ (List.mem_cons_self ..)) (fun e => e)
                  rw [if_neg HH0.out] at hst
                  have HST := Lib.hid hst
                  clear hst
                  go_wp2_with fail
                  go_roundw
                  case rel => exact ⟨i + 1, p + 1, h, (u + 1), by go_num, rfl, rfl, rfl, by omega, by omega, by omega, HAL.out, HST.out⟩
                  case measure => simp [intOf]; omega
              have g2 : (op == 23) = false := by simpa using e2
              rw [if_neg e2] at hNX
              by_cases e3 : op = 29
              · subst e3
                rw [if_pos rfl] at hNX hfine
                obtain ⟨him0, him8⟩ := hnb.2 (.inl rfl)
                have hsh : ¬ 0 < h >>> imm.toNat := fun e => by rw [if_pos e] at hfine; exact absurd hfine (by decide)
                have hsh2 := shr_int (h := h) him0
                rw [Nat.eq_zero_of_not_pos hsh] at hsh2
                have hsh2 : (h : Int) / 2 ^ imm.toNat = 0 := hsh2
                obtain ⟨gg, hgg⟩ : ∃ gg, lockB h imm.toNat = gg := ⟨_, rfl⟩
                have hor : bits BinOp.or IntKind.i64 (h : Int) (wrap64 (2 ^ imm.toNat)) = (gg : Int) := by rw [← hgg]; exact jbits_or (h := h) hh him0 (by omega)
                rw [hgg] at hNX
                have hd1 : ¬ imm < 0 := by omega
                have hd2 : ¬ locks ≤ imm := by omega
                have uw : IntKind.u64.wrap imm = imm := by rw [IntKind.wrap_u64]; omega
                have him9 : imm ≤ 7 := by omega
                have HRUN := Lib.hid hrun
                have HFINE := Lib.hid hfine
                have HAL := Lib.hid hal
                have HNX := Lib.hid hNX
                have HXX := Lib.hid hxx
                have HNB := Lib.hid hnb
                have HH0 := Lib.hid hh0
                clear hrun hfine hal hNX hxx hnb hh0
                have hst := HRUN.out.step HT.out (q := p + 1) (g := gg) (by rw [HNX.out]; exact List.mem_singleton.2 rfl) (fun e => absurd e HH0.out)
                have hlb : gg ≠ 0 := by
                  have : h ≤ lockB h imm.toNat := Nat.left_le_or
                  omega
                rw [if_neg hlb] at hst
                have HST := Lib.hid hst
                have HSH := Lib.hid hsh
                have HGG := Lib.hid hgg
                clear hst hsh hgg
                go_wp2_with fail
                go_roundw
                case rel => exact ⟨i + 1, p + 1, gg, (u + 1), by go_num, rfl, rfl, rfl, by omega, by omega, by omega, HAL.out, HST.out⟩
                case measure => simp [intOf]; omega
              have g3 : (op == 29) = false := by simpa using e3
              rw [if_neg e3] at hNX hfine
              by_cases e4 : op = 30
              · subst e4
                rw [if_pos rfl] at hNX hfine
                obtain ⟨him0, him8⟩ := hnb.2 (.inr rfl)
                have hsh : ¬ (h >>> imm.toNat) % 2 = 0 := fun e => by rw [if_pos e] at hfine; exact absurd hfine (by decide)
                have hsl : h >>> imm.toNat < 256 := Nat.lt_of_le_of_lt (by rw [Nat.shiftRight_eq_div_pow]; exact Nat.div_le_self _ _) hh
                have hsh2 := ibits_and1 hsl
                have hmod : (h >>> imm.toNat) % 2 = 1 := by
                  rcases Nat.mod_two_eq_zero_or_one (h >>> imm.toNat) with e | e
                  · exact absurd e hsh
                  · exact e
                rw [← shr_int him0, hmod] at hsh2
                have hsh2 : bits BinOp.and IntKind.i64 ((h : Int) / 2 ^ imm.toNat) 1 = 1 := hsh2
                obtain ⟨gg, hgg⟩ : ∃ gg, unlockB h imm.toNat = gg := ⟨_, rfl⟩
                have han : bits BinOp.andNot IntKind.i64 (h : Int) (wrap64 (2 ^ imm.toNat)) = (gg : Int) := by rw [← hgg]; exact jbits_andNot hh him0 (by omega)
                rw [hgg] at hNX
                have hd1 : ¬ imm < 0 := by omega
                have hd2 : ¬ locks ≤ imm := by omega
                have uw : IntKind.u64.wrap imm = imm := by rw [IntKind.wrap_u64]; omega
                have him9 : imm ≤ 7 := by omega
                have hst := hrun.step HT.out (q := p + 1) (g := gg) (by rw [hNX]; exact List.mem_singleton.2 rfl) (fun e => absurd e hh0)
                by_cases hg : gg = 0
                · subst hg
                  rw [if_pos rfl] at hst
                  have han : bits BinOp.andNot IntKind.i64 (h : Int) (wrap64 (2 ^ imm.toNat)) = 0 := han
                  have HRUN := Lib.hid hrun
                  have HFINE := Lib.hid hfine
                  have HAL := Lib.hid hal
                  have HNX := Lib.hid hNX
                  have HXX := Lib.hid hxx
                  have HNB := Lib.hid hnb
                  have HH0 := Lib.hid hh0
                  clear hrun hfine hal hNX hxx hnb hh0
                  have HST := Lib.hid hst
                  have HSH := Lib.hid hsh
                  have HSL := Lib.hid hsl
                  have HGG := Lib.hid hgg
                  have HMOD := Lib.hid hmod
                  clear hst hsh hsl hgg hmod
                  go_wp2_with fail
                  go_roundw
                  case rel => exact ⟨i + 1, p + 1, 0, 0, by go_num, rfl, rfl, rfl, by omega, by omega, by omega, HAL.out, HST.out⟩
                  case measure => simp [intOf]; omega
                · rw [if_neg hg] at hst
                  have hgz : ((gg : Int) == 0) = false := by simp; omega
                  have hgn : ¬ gg = 0 := hg
                  have HRUN := Lib.hid hrun
                  have HFINE := Lib.hid hfine
                  have HAL := Lib.hid hal
                  have HNX := Lib.hid hNX
                  have HXX := Lib.hid hxx
                  have HNB := Lib.hid hnb
                  have HH0 := Lib.hid hh0
                  clear hrun hfine hal hNX hxx hnb hh0
                  have HST := Lib.hid hst
                  have HSH := Lib.hid hsh
                  have HSL := Lib.hid hsl
                  have HG := Lib.hid hg
                  have HGG := Lib.hid hgg
                  have HMOD := Lib.hid hmod
                  clear hst hsh hsl hg hgg hmod
                  go_wp2_with fail
                  go_roundw
                  case rel => exact ⟨i + 1, p + 1, gg, (u + 1), by go_num, rfl, rfl, rfl, by omega, by omega, by omega, HAL.out, HST.out⟩
                  case measure => simp [intOf]; omega
              have g4 : (op == 30) = false := by simpa using e4
              rw [if_neg e4] at hNX hfine
              by_cases e5 : op = 24 ∨ op = 25 ∨ op = 28
              · exfalso
                rw [if_pos e5, if_pos hh0] at hfine
                exact absurd hfine (by decide)
              have g5 : (op == 24) = false := by simp; omega
              have g6 : (op == 25) = false := by simp; omega
              have g7 : (op == 28) = false := by simp; omega
              clear e5
              have HRUN := Lib.hid hrun
              have HFINE := Lib.hid hfine
              have HAL := Lib.hid hal
              have HNX := Lib.hid hNX
              have HXX := Lib.hid hxx
              have HNB := Lib.hid hnb
              have HH0 := Lib.hid hh0
              clear hrun hfine hal hNX hxx hnb hh0
              have hst := HRUN.out.step HT.out (q := p + 1) (g := h) (by rw [HNX.out]; exact List.mem_singleton.2 rfl) (fun e => e)
              rw [if_neg HH0.out] at hst
              have HST := Lib.hid hst
              clear hst
              go_wp2_with fail
              go_roundw
              case rel => exact ⟨i + 1, p + 1, h, (u + 1), by go_num, rfl, rfl, rfl, by omega, by omega, by omega, HAL.out, HST.out⟩
              case measure => simp [intOf]; omega
        · have hi2d : ¬ (i : Int) < 20000 := by omega
          have hfx := HFX.out wr
          have HNR := Lib.hid hnr
          have HRUN := Lib.hid hrun
          have HFX2 := Lib.hid hfx
          clear hnr hrun hfx
          go_wp2_with fail
          refine HFX2.out.mono ?_
          rintro e w4 ⟨rfl, hw4⟩
          have HW4 := Lib.hid hw4
          clear hw4
          go_wp2_with fail
          go_ret
          exact ⟨rfl, HNR.out.trans HW4.out⟩
      · have hi1d : ¬ (i : Int) ≤ (m : Int) := by omega
        have hfx := HFX.out wr
        have HNR := Lib.hid hnr
        have HRUN := Lib.hid hrun
        have HFX2 := Lib.hid hfx
        clear hnr hrun hfx
        go_wp2_with fail
        refine HFX2.out.mono ?_
        rintro e w4 ⟨rfl, hw4⟩
        have HW4 := Lib.hid hw4
        clear hw4
        go_wp2_with fail
        go_ret
        exact ⟨rfl, HNR.out.trans HW4.out⟩
  · have he2 : (er != 0) = true := by simpa using he
    have HN2 := Lib.hid hn2
    have HR := Lib.hid hr
    have HE := Lib.hid he
    have HFX1 := Lib.hid hfx
    clear hn2 hr he hfx
    go_wp2_with fail
    refine HFX1.out.mono ?_
    rintro e w3 ⟨rfl, hw3⟩
    have HW3 := Lib.hid hw3
    clear hw3
    go_wp2_with fail
    go_ret
    exact ⟨rfl, HN2.out.trans HW3.out⟩
theorem runs_law (cs : Array Value) (x : (List Ins) × Int × Int × (List Bool) × Unit) (w : World) (h : repWalk.cells w w.heap.size x cs.toList) :
    Calls Try.prog 5 #[.agg cs] w fun e w' => e = .returned (.bool true) ∧ New w w' := by
  obtain ⟨ls⟩ := cs
  obtain ⟨_, _, e, ⟨A, n, c, rfl, hl⟩, _, _, rfl, ⟨rfl, h1⟩, _, _, rfl, ⟨rfl, h2⟩, _, _, rfl, ⟨A2, m, c2, rfl, hw⟩, rfl⟩ := h
  have e' : ls = [.slice A n c, .int .i64 x.2.1, .int .i64 x.2.2.1, .slice A2 m c2] := e
  subst e'
  exact runs_core hl hw h2
end Go.Proofs.Ytjhiaicpgajeoaa.Valid
