/- The walk of firebreaklaw09's LaneDoes (layer 9). -/
import Derived.Test.YtnmocdgngkjflaaLaneSt
namespace Go.Proofs.Ytnmocdgngkjflaa.Lane
open Go.RowKit Go.Fb
set_option linter.unusedVariables false
/-- How a step lies. -/
def repS : Rep (Int × Int × Int) where
  size := 3
  cells _ _ x cs := cs = [.int .i64 x.1, .int .i64 x.2.1, .int .i64 x.2.2] ∧ (Lit.int .i64 x.2.1).wf = true
  length h := by rw [h.1]; rfl
  stays _ h := h
  more _ h := h
theorem opens_step : Opens Try.prog repS 51 := by
  have h : Opens Try.prog (((Rep.int .i64).pair ((Rep.int .i64).pair ((Rep.int .i64).pair Rep.unit)))) 51 := opens_struct Try.underlying51 (by kernel_rfl)
    (opensAt_cons rfl (by kernel_rfl) (opens_int Try.underlying3) (opensAt_cons rfl (by kernel_rfl) (opens_int Try.underlying3) (opensAt_cons rfl (by kernel_rfl) (opens_int Try.underlying2) opensAt_nil)))
  intro H enc w fuel cs y hy
  obtain ⟨x, hx⟩ := h H enc w fuel cs y hy
  obtain ⟨_, _, rfl, ⟨rfl, h1⟩, _, _, rfl, ⟨rfl, h2⟩, _, _, rfl, ⟨rfl, h3⟩, rfl⟩ := hx
  exact ⟨⟨x.1, x.2.1, x.2.2.1⟩, rfl, h2⟩
theorem step_at {w : World} {B : Nat} {A : Option Addr} {n c : Nat} {l : List (Int × Int × Int)} (h : SliceOf repS w B A n c l) (hn : 0 < n) :
    ∃ b o, A = some ⟨b, o, none⟩ ∧ b < B ∧ ∀ i (h : i < l.length), (w.cell? ⟨b, o + i * 3, none⟩ = some (.int .i64 l[i].1) ∧ w.cell? ⟨b, o + i * 3 + 1, none⟩ = some (.int .i64 l[i].2.1) ∧ w.cell? ⟨b, o + i * 3 + 2, none⟩ = some (.int .i64 l[i].2.2)) ∧ (Lit.int .i64 l[i].2.1).wf = true := by
  obtain ⟨b, o, e, hb, hc⟩ := h.get hn
  refine ⟨b, o, e, hb, fun i hi => ?_⟩
  obtain ⟨es, g1, g2, g3⟩ := hc i hi
  subst g2
  exact ⟨⟨g1 0 (by decide), g1 1 (by decide), g1 2 (by decide)⟩, g3⟩
/-- How a lane's stand is handed in. -/
def repA : Rep Lane where
  size := 4
  cells w B L cs := ∃ Av cv Aw cw, cs = [.slice Av L.vals.length cv, .slice Aw L.waits.length cw, .int .i64 L.taken, .int .i64 L.dropped] ∧ SliceOf repV w B Av L.vals.length cv L.vals ∧ SliceOf repW w B Aw L.waits.length cw L.waits ∧ ∀ q ∈ L.waits, (Lit.int .i64 q.1).wf = true
  length h := by obtain ⟨_, _, _, _, h, _⟩ := h; rw [h]; rfl
  stays hw h := by obtain ⟨Av, cv, Aw, cw, h, h1, h2, h3⟩ := h; exact ⟨Av, cv, Aw, cw, h, h1.stays hw, h2.stays hw, h3⟩
  more hB h := by obtain ⟨Av, cv, Aw, cw, h, h1, h2, h3⟩ := h; exact ⟨Av, cv, Aw, cw, h, h1.more hB, h2.more hB, h3⟩
def repWf : Rep (Int × Int) := ((Rep.int .i64).pair ((Rep.int .i64).pair Rep.unit)).via fun x => (x.1, x.2, ())
theorem opens_waiter : Opens Try.prog repWf 31 :=
  opens_via (fun x => (x.1, x.2.1)) (fun x => rfl) (opens_struct Try.underlying31 (by kernel_rfl) (opensAt_cons rfl (by kernel_rfl) (opens_int Try.underlying3) (opensAt_cons rfl (by kernel_rfl) (opens_int Try.underlying2) opensAt_nil)))
theorem wf_cells {w : World} {B : Nat} {x : Int × Int} {cs : List Value} (h : repWf.cells w B x cs) : cs = cellsW x ∧ (Lit.int .i64 x.1).wf = true := by
  obtain ⟨_, _, rfl, ⟨rfl, h1⟩, _, _, rfl, ⟨rfl, h2⟩, rfl⟩ := h
  exact ⟨rfl, h1⟩
theorem opens_lane : Opens Try.prog repA 40 := by
  have h : Opens Try.prog (((Rep.int .i64).slice.pair (repWf.slice.pair ((Rep.int .i64).pair ((Rep.int .i64).pair Rep.unit))))) 40 := opens_struct Try.underlying40 (by kernel_rfl)
    (opensAt_cons rfl (by kernel_rfl) (opens_slice Try.underlying38 (by kernel_rfl) (by decide) (opens_int Try.underlying2)) (opensAt_cons rfl (by kernel_rfl) (opens_slice Try.underlying35 (by kernel_rfl) (by decide) opens_waiter) (opensAt_cons rfl (by kernel_rfl) (opens_int Try.underlying3) (opensAt_cons rfl (by kernel_rfl) (opens_int Try.underlying3) opensAt_nil))))
  intro H enc w fuel cs y hy
  obtain ⟨x, hx⟩ := h H enc w fuel cs y hy
  obtain ⟨_, _, rfl, ⟨Av, nv, cv, rfl, hv⟩, _, _, rfl, ⟨Aw, nw, cw, rfl, hw⟩, _, _, rfl, ⟨rfl, h1⟩, _, _, rfl, ⟨rfl, h2⟩, rfl⟩ := hx
  refine ⟨⟨0, x.1, x.2.1, x.2.2.1, x.2.2.2.1⟩, Av, cv, Aw, cw, by rw [hv.len, hw.len]; rfl, by rw [← hv.len]; exact to_rep (R := Rep.int .i64) (S := repV) rfl (fun h => h.1) hv, by rw [← hw.len]; exact to_rep (R := repWf) (S := repW) rfl (fun h => (wf_cells h).1) hw, fun q hq => ?_⟩
  obtain ⟨i, hi, rfl⟩ := List.mem_iff_getElem.1 hq
  obtain ⟨b, o, _, _, hc⟩ := hw.get (by have := hw.len; have hi' : i < x.2.1.length := hi; omega)
  obtain ⟨es, _, g⟩ := hc i hi
  exact (wf_cells g).2
section
variable {w : World}
theorem long_any (nv cv nw cw : Nat) (Av Aw : Option Addr) (t d : Int) (h1 : nv ≤ cv ∧ cv ≤ 9223372036854775807) (h2 : nw ≤ cw ∧ cw ≤ 9223372036854775807) : Calls Try.prog 12 #[.agg #[.slice Av nv cv, .slice Aw nw cw, .int .i64 t, .int .i64 d]] w fun e w' => e = .returned (.bool (decide (1048576 < nv ∨ 4096 < nw))) ∧ New w w' := by
  by_cases a : 1048576 < nv
  · have E := Lib.hid (show decide (1048576 < nv ∨ 4096 < nw) = true from decide_eq_true (.inl a))
    have a' : (1048576 : Int) < (nv : Int) := by omega
    go_enter Try.func12, Try.ntmps12
    go_wp2
    go_ret
    exact ⟨by rw [E.out]; simp [Array.getD], (Kept.refl _ _).alloc _⟩
  · have a' : (nv : Int) ≤ 1048576 := by omega
    by_cases b : 4096 < nw
    · have E := Lib.hid (show decide (1048576 < nv ∨ 4096 < nw) = true from decide_eq_true (.inr b))
      have b' : (4096 : Int) < (nw : Int) := by omega
      go_enter Try.func12, Try.ntmps12
      go_wp2
      go_ret
      exact ⟨by rw [E.out]; simp [Array.getD] <;> omega, (Kept.refl _ _).alloc _⟩
    · have E := Lib.hid (show decide (1048576 < nv ∨ 4096 < nw) = false from decide_eq_false (fun h => by omega))
      have b' : (nw : Int) ≤ 4096 := by omega
      go_enter Try.func12, Try.ntmps12
      go_wp2
      go_ret
      exact ⟨by rw [E.out]; simp [Array.getD] <;> omega, (Kept.refl _ _).alloc _⟩
set_option maxRecDepth 100000 in
set_option maxHeartbeats 8000000 in
theorem does_walk (room : Int) {cs : Array Value} {L : Lane} (hs : repA.cells w w.heap.size L cs.toList) {A : Option Addr} {n c0 : Nat} {l : List (Int × Int × Int)} (hl : SliceOf repS w w.heap.size A n c0 l) (hn : n * 24 ≤ 140737488351232) :
    Calls Try.prog 4 #[.int .i64 room, .agg cs, .slice A n c0] w fun e w' => e = .returned (.bool true) ∧ New w w' := by
  obtain ⟨cs⟩ := cs
  obtain ⟨Av, cv, Aw, cw, rfl, hv, hw, hwf⟩ := hs
  have hbv := hv.bound
  have hbw := hw.bound
  have hbl := hl.bound
  have hll := hl.len
  have hn1 : New w (w.alloc (.cells #[.slice Av L.vals.length cv, .slice Aw L.waits.length cw, .int .i64 L.taken, .int .i64 L.dropped] 40)) := (Kept.refl _ _).alloc _
  have hb1 := Blk.made w 40 #[.slice Av L.vals.length cv, .slice Aw L.waits.length cw, .int .i64 L.taken, .int .i64 L.dropped]
  have HV := Lib.hid (fun W (hW : New w W) => hv.kept hW (Nat.le_refl _) fun _ _ h => h)
  have HW := Lib.hid (fun W (hW : New w W) => hw.kept hW (Nat.le_refl _) fun _ _ h => h)
  have HSC := Lib.hid (fun W (hW : New w W) => hl.kept hW (Nat.le_refl _) fun _ _ h => h)
  have HFIX := Lib.hid (fun W => fixed_any W)
  have HCO := Lib.hid (fun W (hW : New w W) h1 h2 => copy_any (w := W) (L := L) (hv.kept hW (Nat.le_refl _) fun _ _ h => h) (hw.kept hW (Nat.le_refl _) fun _ _ h => h) hW.size h1 h2)
  have HRL := Lib.hid (fun W (hW : New w W) h1 h2 => rlay_any (w := W) (L := L) room (hv.kept hW (Nat.le_refl _) fun _ _ h => h) (hw.kept hW (Nat.le_refl _) fun _ _ h => h) hW.size h1 h2)
  have HLA := Lib.hid (fun W B r1 A1 c1 q1 D1 d1 (ht : Told B W r1 A1 c1 q1 D1 d1 L) h1 h2 => lay_any (w := W) (B := W.heap.size) (L := L) room (vals_read ht.vals rfl) (waits_read ht.waits rfl) (Nat.le_refl _) hwf h1 h2)
  have HSA := Lib.hid (fun W (hW : New w W) B r1 A1 c1 q1 D1 d1 (ht : Told B W r1 A1 c1 q1 D1 d1 L) => same_any (w := W) (B := W.heap.size) (L := L) (vals_read ht.vals rfl) (waits_read ht.waits rfl) ((hv.kept hW (Nat.le_refl _) fun _ _ h => h).more hW.size) ((hw.kept hW (Nat.le_refl _) fun _ _ h => h).more hW.size) (Nat.le_refl _))
  have HSP := Lib.hid (fun W B r1 A1 c1 q1 D1 d1 (ht : Told B W r1 A1 c1 q1 D1 d1 L) h1 h2 => spoil_any (L := L) ht h1 h2)
  have HLG := Lib.hid (fun W => long_any (w := W) L.vals.length cv L.waits.length cw Av Aw L.taken L.dropped hbv hbw)
  obtain ⟨nv, hnv⟩ : ∃ n, n = L.vals.length := ⟨_, rfl⟩
  obtain ⟨nw, hnw⟩ : ∃ n, n = L.waits.length := ⟨_, rfl⟩
  unfold stC at HCO HRL HLA HSA HSP
  rw [← hnv] at hn1 hb1 hbv
  rw [← hnw] at hn1 hb1 hbw
  simp only [← hnv, ← hnw] at HV HW HCO HRL HLA HSA HSP HLG
  rw [show (⟨[.slice Av L.vals.length cv, .slice Aw L.waits.length cw, .int .i64 L.taken, .int .i64 L.dropped]⟩ : Array Value) = #[.slice Av nv cv, .slice Aw nw cw, .int .i64 L.taken, .int .i64 L.dropped] by rw [hnv, hnw]]
  have hlg : decide (1048576 < nv ∨ 4096 < nw) = true ∨ (nv ≤ 1048576 ∧ nw ≤ 4096 ∧ decide (1048576 < nv ∨ 4096 < nw) = false) := by
    by_cases h : 1048576 < nv ∨ 4096 < nw
    · exact .inl (decide_eq_true h)
    · exact .inr ⟨by omega, by omega, decide_eq_false h⟩
  generalize decide (1048576 < nv ∨ 4096 < nw) = lg at *
  have HN1 := Lib.hid hn1
  have HB1 := Lib.hid hb1
  have HNV := Lib.hid hnv
  have HNW := Lib.hid hnw
  have HWF := Lib.hid hwf
  have HLL := Lib.hid hll
  clear hn1 hb1 hnv hnw hwf hll
  clear hv hw hl
  go_enter Try.func4, Try.ntmps4
  go_upto_region 1 with (fail)
  generalize w.alloc (.cells #[.slice Av nv cv, .slice Aw nw cw, .int .i64 L.taken, .int .i64 L.dropped] 40) = w1 at *
  have HX := Lib.hid (fun W (hk : New w1 W) => (show W.cell? ⟨w.heap.size, 0, none⟩ = some (.slice Av nv cv) ∧ W.cell? ⟨w.heap.size, 1, none⟩ = some (.slice Aw nw cw) ∧ W.cell? ⟨w.heap.size, 2, none⟩ = some (.int .i64 L.taken) ∧ W.cell? ⟨w.heap.size, 3, none⟩ = some (.int .i64 L.dropped) from ⟨(HB1.out.kept hk id).cell 0, (HB1.out.kept hk id).cell 1, (HB1.out.kept hk id).cell 2, (HB1.out.kept hk id).cell 3⟩))
  go_wp2_with fail
  refine (HFIX.out w1).mono ?_
  rintro e w2 ⟨rfl, hm2⟩
  obtain ⟨z0, z1, z2, z3⟩ := HX.out w2 hm2
  have HM2 := Lib.hid hm2
  clear hm2
  go_wp2_with fail
  refine (HLG.out w2).mono ?_
  rintro e w3 ⟨rfl, hm3⟩
  clear z0 z1 z2 z3
  obtain ⟨z0, z1, z2, z3⟩ := HX.out w3 (HM2.out.trans hm3)
  have hn3 := HN1.out.trans (HM2.out.trans hm3)
  have HM3 := Lib.hid (HM2.out.trans hm3)
  clear hm3
  rcases hlg with rfl | ⟨hs1, hs2, rfl⟩
  · have HN3 := Lib.hid hn3
    clear hn3
    go_wp2_with fail
    go_ret
    exact ⟨by simp [Array.getD], HN3.out⟩
  · have hco := HCO.out w3 hn3 (by omega) (by omega)
    have HN3 := Lib.hid hn3
    have HCO_ := Lib.hid hco
    clear hn3 hco
    go_wp2_with fail
    refine HCO_.out.mono ?_
    rintro e w4 ⟨r1, A1, c1, q1, D1, d1, rfl, ht4, hm4⟩
    have k4 : New w4 (w4.alloc (.cells #[.slice A1 nv c1, .slice D1 nw d1, .int .i64 L.taken, .int .i64 L.dropped] 40)) := (Kept.refl _ _).alloc _
    have hb5 := Blk.made w4 40 #[.slice A1 nv c1, .slice D1 nw d1, .int .i64 L.taken, .int .i64 L.dropped]
    have ht5 := ht4.new k4
    have hm5 := HM3.out.trans (hm4.trans k4)
    have hl1 := ht4.vals.lt (by decide)
    have hl2 := ht4.waits.lt (by decide)
    have HT5 := Lib.hid ht5
    have HM5 := Lib.hid hm5
    have HB5 := Lib.hid hb5
    have HL1 := Lib.hid hl1
    have HL2 := Lib.hid hl2
    clear ht5 hm5 hb5 hl1 hl2
    clear ht4 hm4 k4 z0 z1 z2 z3
    go_upto_region 5 with (fail)
    generalize w4.alloc (.cells #[.slice A1 nv c1, .slice D1 nw d1, .int .i64 L.taken, .int .i64 L.dropped] 40) = w5 at *
    generalize w4.heap.size = bo at *
    have HZ := Lib.hid (fun W (hk : New w5 W) => (show W.cell? ⟨bo, 0, none⟩ = some (.slice A1 nv c1) ∧ W.cell? ⟨bo, 1, none⟩ = some (.slice D1 nw d1) ∧ W.cell? ⟨bo, 2, none⟩ = some (.int .i64 L.taken) ∧ W.cell? ⟨bo, 3, none⟩ = some (.int .i64 L.dropped) from ⟨(HB5.out.kept hk id).cell 0, (HB5.out.kept hk id).cell 1, (HB5.out.kept hk id).cell 2, (HB5.out.kept hk id).cell 3⟩))
    obtain ⟨z0, z1, z2, z3⟩ := HZ.out w5 (Kept.refl _ _)
    go_wp2_with fail
    refine (HLA.out w5 _ _ _ _ _ _ _ HT5.out (by omega) (by omega)).mono ?_
    rintro e w6 ⟨hm6, hr6⟩
    have hn5 := HN1.out.trans HM5.out
    have hn6 := hn5.trans hm6
    clear z0 z1 z2 z3
    obtain ⟨z0, z1, z2, z3⟩ := HX.out w6 (HM5.out.trans hm6)
    have hrl := HRL.out w6 hn6 (by omega) (by omega)
    rcases hr6 with ⟨he, b, F, rfl, hF, hfF⟩ | ⟨he, rfl⟩
    · have HE := Lib.hid he
      have HN5 := Lib.hid hn5
      have HN6 := Lib.hid hn6
      have HM6 := Lib.hid hm6
      have HFA := Lib.hid hF
      have HFF := Lib.hid hfF
      have HRLA := Lib.hid hrl
      clear hn5 hn6 hm6 hF hfF hrl
      clear he
      go_wp2_with fail
      refine HRLA.out.mono ?_
      rintro e w7 ⟨hm7, hr7⟩
      rcases hr7 with ⟨-, c, G, rfl, hG, hfG⟩ | ⟨he', rfl⟩
      · have hn7 := HN6.out.trans hm7
        have ht7 := HT5.out.new (HM6.out.trans hm7)
        have hsa := HSA.out w7 hn7 _ _ _ _ _ _ _ ht7
        clear z0 z1 z2 z3
        obtain ⟨z0, z1, z2, z3⟩ := HX.out w7 (HM5.out.trans (HM6.out.trans hm7))
        obtain ⟨y0, y1, y2, y3⟩ := HZ.out w7 (HM6.out.trans hm7)
        have hl6 := HFA.out.lt
        have hF7 := HFA.out.new hm7
        have HM7 := Lib.hid (HM6.out.trans hm7)
        have HN7 := Lib.hid hn7
        have HT7 := Lib.hid ht7
        have HSA_ := Lib.hid hsa
        have HGA := Lib.hid hG
        have HFG := Lib.hid hfG
        have HL6 := Lib.hid hl6
        have HF7 := Lib.hid hF7
        clear hn7 ht7 hsa hG hfG hl6 hF7
        clear hm7
        go_wp2_with fail
        refine HSA_.out.mono ?_
        rintro e w8 ⟨rfl, hm8⟩
        clear y0 y1 y2 y3 z0 z1 z2 z3
        obtain ⟨y0, y1, y2, y3⟩ := HZ.out w8 (HM7.out.trans hm8)
        have hsp := HSP.out w8 _ _ _ _ _ _ _ (HT7.out.new hm8) (by omega) (by omega)
        have hF8 := HF7.out.new hm8
        have hG8 := HGA.out.new hm8
        have hn8 := HN7.out.trans hm8
        have HM8 := Lib.hid (HM7.out.trans hm8)
        have HSP_ := Lib.hid hsp
        have HF8 := Lib.hid hF8
        have HG8 := Lib.hid hG8
        have HN8 := Lib.hid hn8
        clear hsp hF8 hG8 hn8
        clear hm8
        go_wp2_with fail
        refine HSP_.out.mono ?_
        rintro e w9 ⟨rfl, hk9⟩
        have hrr : ∀ k, (r1 = some k ∨ q1 = some k) → w.heap.size ≤ k ∧ k < w5.heap.size := fun k e => by
          have := HB5.out.lt
          have := HN3.out.size
          rcases e with e | e
          · have := HT5.out.fv k e; have := HL1.out k e; omega
          · have := HT5.out.fw k e; have := HL2.out k e; omega
        have hs56 := HM6.out.size
        have hboth : Both w w9 b c { L with room := room } { L with room := room } :=
          ⟨F, G, HF8.out.kept hk9 (fun k e e' => by have := HFF.out k e; have := (hrr k e').2; omega), HG8.out.kept hk9 (fun k e e' => by have := HFG.out k e; have := (hrr k e').2; omega), fun k e => by have := HFF.out k e; have := HN5.out.size; omega, fun k e => by have := HFG.out k e; have := HN6.out.size; omega,
            fun k e e' => by have := HL6.out k e; have := HFG.out k e'; omega, HN8.out.step hk9 (fun k hk e => by have := (hrr k e).1; omega), fun _ _ h => h, fun _ h => h.elim⟩
        have hok : OkL 4096 { L with room := room } := by
          have he := HE.out
          unfold layErr at he
          by_cases g1 : 1 ≤ room ∧ room ≤ 64
          · rw [if_neg (fun h => h g1)] at he
            by_cases g2 : MayL room L
            · exact ⟨g1, g2, HWF.out, by show L.waits.length ≤ 4096; rw [← HNW.out]; exact hs2⟩
            · rw [if_pos g2] at he; exact absurd he (by decide)
          · rw [if_pos g1] at he; exact absurd he (by decide)
        have hrm : ({ L with room := room } : Lane).room = room := rfl
        generalize ({ L with room := room } : Lane) = L0 at *
        have hb6400 : n ≤ 5864062014634 := by omega
        have HBOTH := Lib.hid hboth
        have HOK := Lib.hid hok
        have HRM := Lib.hid hrm
        have HN := Lib.hid hn
        clear hboth hok hrm hn
        clear y0 y1 y2 y3 hk9 hrr hs56
        go_wp2_with fail
        go_loopw [9, 16] (fun s9 s16 wr => ∃ (i b : Nat) (L' : Lane), i ≤ n ∧ s9 = .pointer (some ⟨b, 0, none⟩) ∧ s16 = .int .i64 i ∧ Both w wr b c L' L' ∧ OkL (4096 + i) L' ∧ L'.room = room) (fun _ s _ => (n - intOf s).toNat)
        case atStart => exact ⟨0, b, L0, Nat.zero_le _, rfl, rfl, HBOTH.out, HOK.out, HRM.out⟩
        case round =>
          obtain ⟨i, b1, L', hi, rfl, rfl, hbt, hok', hrm'⟩ := hrel
          by_cases hlt : i < n
          · have hil : i < l.length := by rw [← HLL.out]; exact hlt
            have HRD : Hid (∃ g o, A = some ⟨g, o, none⟩ ∧ (Lit.int .i64 l[i].2.1).wf = true ∧ ∀ W, New w W → W.cell? ⟨g, o + i * 3, none⟩ = some (.int .i64 l[i].1) ∧ W.cell? ⟨g, o + i * 3 + 1, none⟩ = some (.int .i64 l[i].2.1) ∧ W.cell? ⟨g, o + i * 3 + 2, none⟩ = some (.int .i64 l[i].2.2)) := Lib.hid (by
              obtain ⟨g, o, e, -, hc⟩ := step_at (HSC.out w (Kept.refl _ _)) (by omega)
              refine ⟨g, o, e, (hc i hil).2, fun W hW => ?_⟩
              obtain ⟨g', o', e', -, hc'⟩ := step_at (HSC.out W hW) (by omega)
              rw [e] at e'
              injection e' with e'
              injection e' with e1 e2
              subst e1; subst e2
              exact (hc' i hil).1)
            obtain ⟨g, o, rfl, hwfp, hcl⟩ := HRD.out
            clear HRD
            have hMM : 4096 + i ≤ 8000000000000 := by omega
            generalize l[i].1 = kk at *
            generalize l[i].2.1 = p at *
            generalize l[i].2.2 = v at *
            have HCL := Lib.hid hcl
            obtain ⟨x0, x1, x2⟩ := hcl wr hbt.fresh
            have HOK_ := Lib.hid hok'
            have HRM_ := Lib.hid hrm'
            have HWFP := Lib.hid hwfp
            clear hok' hrm' hwfp
            clear hcl hil
            by_cases hk7 : kk = 7
            · subst hk7
              obtain ⟨F1, G1, hF1, hG1, hf1, hg1, hd1, hn1', -, -⟩ := hbt
              have HSTT := Lib.hid (state_any hF1 (by have := HOK_.out.vals; omega) (by have := HOK_.out.few; omega))
              have HLAY := Lib.hid (fun W B r1 A1 c1 q1 D1 d1 (ht : Told B W r1 A1 c1 q1 D1 d1 L') => lay_any (w := W) (B := W.heap.size) (L := L') room (vals_read ht.vals rfl) (waits_read ht.waits rfl) (Nat.le_refl _) HOK_.out.wf (by have := HOK_.out.vals; omega) (by have := HOK_.out.few; omega))
              unfold stC at HSTT HLAY
              generalize L'.vals.length = nv2 at HSTT HLAY
              generalize L'.waits.length = nw2 at HSTT HLAY
              have HGLT := Lib.hid hG1.lt
              have HFB1 := Lib.hid hF1
              have HGB1 := Lib.hid hG1
              have HFL1 := Lib.hid hf1
              have HGL1 := Lib.hid hg1
              have HD1 := Lib.hid hd1
              have HNW1 := Lib.hid hn1'
              clear hF1 hG1 hf1 hg1 hd1 hn1'
              go_wp2_with fail
              refine HSTT.out.mono ?_
              rintro e w2' ⟨r5, A5, c5, q5, D5, d5, rfl, ht5', hm5'⟩
              have HMST := Lib.hid hm5'
              have HLAY2 := Lib.hid (HLAY.out _ _ _ _ _ _ _ _ ht5')
              clear hm5' ht5'
              go_wp2_with fail
              refine HLAY2.out.mono ?_
              rintro e w3' ⟨hm6', hr6'⟩
              have he0 : layErr room L' = 0 := by have := HOK_.out.err; rw [HRM_.out] at this; exact this
              rcases hr6' with ⟨-, b2, F2, rfl, hF2, hfF2⟩ | ⟨he, -⟩
              · have hb9 : Both w w3' b2 c L' L' := by
                  have hk := HMST.out.trans hm6'
                  have e0 : ({ L' with room := room } : Lane) = L' := by rw [← HRM_.out]
                  rw [e0] at hF2
                  exact ⟨F2, G1, hF2, HGB1.out.new hk, fun k e => by have := hfF2 k e; have := HNW1.out.size; have := HMST.out.size; omega, HGL1.out, fun k e e' => by have := hfF2 k e; have := HMST.out.size; have := HGLT.out k e'; omega, HNW1.out.trans hk, fun _ _ h => h, fun _ h => h.elim⟩
                clear x0 x1 x2
                obtain ⟨x0, x1, x2⟩ := HCL.out w3' hb9.fresh
                clear hm6' hF2 hfF2 he0
                have HBQ := Lib.hid hb9
                clear hb9
                go_wp2_with fail
                refine (step_any HBQ.out HOK_.out hMM 7 p v).mono ?_
                rintro e w4 ⟨rfl, hb4⟩
                have hok4 := HOK_.out.step 7 p v HWFP.out
                have hrm4 : (stepL L' 7 p v).room = room := (stepL_room 7 p v).trans HRM_.out
                have HST4 : Hid (Calls Try.prog 20 #[.pointer (some ⟨b2, 0, none⟩), .pointer (some ⟨c, 0, none⟩)] w4 fun e w' => e = Ending.returned (.bool true) ∧ New w4 w') := Lib.hid (by
                  obtain ⟨F, G, hF, hG, -⟩ := hb4
                  exact stands_any hF hG (by have := hok4.vals; omega) (by have := hok4.few; omega))
                have HB4 := Lib.hid hb4
                have HOK4 := Lib.hid hok4
                have HRM4 := Lib.hid hrm4
                clear hb4 hok4 hrm4
                go_wp2_with fail
                refine HST4.out.mono ?_
                rintro e w5 ⟨rfl, hm5⟩
                have hb5 := HB4.out.new hm5
                have HB5 := Lib.hid hb5
                clear hb5
                clear hm5
                go_wp2_with fail
                go_roundw
                case rel => exact ⟨i + 1, b2, _, by omega, rfl, by go_num, HB5.out, HOK4.out.mono (by omega), HRM4.out⟩
                case measure => simp [intOf]; omega
              · exact absurd he0 he
            · have g7 : (kk == 7) = false := by simpa using hk7
              clear hk7
              have hb9 := hbt
              clear hbt
              have HBQ := Lib.hid hb9
              clear hb9
              go_wp2_with fail
              refine (step_any HBQ.out HOK_.out hMM kk p v).mono ?_
              rintro e w4 ⟨rfl, hb4⟩
              have hok4 := HOK_.out.step kk p v HWFP.out
              have hrm4 : (stepL L' kk p v).room = room := (stepL_room kk p v).trans HRM_.out
              have HST4 : Hid (Calls Try.prog 20 #[.pointer (some ⟨b1, 0, none⟩), .pointer (some ⟨c, 0, none⟩)] w4 fun e w' => e = Ending.returned (.bool true) ∧ New w4 w') := Lib.hid (by
                obtain ⟨F, G, hF, hG, -⟩ := hb4
                exact stands_any hF hG (by have := hok4.vals; omega) (by have := hok4.few; omega))
              have HB4 := Lib.hid hb4
              have HOK4 := Lib.hid hok4
              have HRM4 := Lib.hid hrm4
              clear hb4 hok4 hrm4
              go_wp2_with fail
              refine HST4.out.mono ?_
              rintro e w5 ⟨rfl, hm5⟩
              have hb5 := HB4.out.new hm5
              have HB5 := Lib.hid hb5
              clear hb5
              clear hm5
              go_wp2_with fail
              go_roundw
              case rel => exact ⟨i + 1, b1, _, by omega, rfl, by go_num, HB5.out, HOK4.out.mono (by omega), HRM4.out⟩
              case measure => simp [intOf]; omega
          · obtain rfl : i = n := by omega
            have HST4 : Hid (Calls Try.prog 20 #[.pointer (some ⟨b1, 0, none⟩), .pointer (some ⟨c, 0, none⟩)] wr fun e w' => e = Ending.returned (.bool true) ∧ New wr w') := Lib.hid (by
              obtain ⟨F, G, hF, hG, -⟩ := hbt
              exact stands_any hF hG (by have := hok'.vals; omega) (by have := hok'.few; omega))
            have HF9 := Lib.hid hbt.fresh
            clear hbt hok' hrm'
            go_wp2_with fail
            refine HST4.out.mono ?_
            rintro e w5 ⟨rfl, hm5⟩
            have HFIN := Lib.hid (HF9.out.trans hm5)
            clear hm5
            go_wp2_with fail
            go_ret
            exact ⟨by simp [Array.getD], HFIN.out⟩
      · exact absurd HE.out he'
    · have hx0 : layErr room L ≠ 0 := he
      have hxa : layErr room L = 1 ↔ ¬ (1 ≤ room ∧ room ≤ 64) := by
        constructor
        · intro h h2
          unfold layErr at h
          rw [if_neg (fun k => k h2)] at h
          split at h <;> cases h
        · exact layErr_arg
      have HNEW := Lib.hid (fun W => new_any room W)
      have HRL2 := Lib.hid (hrl.mono fun e w' ⟨g1, g2⟩ => (⟨g2.elim (fun g => absurd g.1 he) (fun g => g.2), g1⟩ : e = Ending.returned (.tuple #[.pointer none, .int .i64 (layErr room L)]) ∧ New w6 w'))
      clear hrl he
      generalize layErr room L = x at *
      have hm56 := HM5.out.trans hm6
      have HN5 := Lib.hid hn5
      have HN6 := Lib.hid hn6
      have HM6 := Lib.hid hm6
      have HXA := Lib.hid hxa
      have HX0 := Lib.hid hx0
      have HM56 := Lib.hid hm56
      clear hn5 hn6 hm6 hxa hx0 hm56
      go_wp2_with fail
      refine HRL2.out.mono ?_
      rintro e w7 ⟨rfl, hm7⟩
      have hn7 := HN6.out.trans hm7
      have ht7 := HT5.out.new (HM6.out.trans hm7)
      have hsa := HSA.out w7 hn7 _ _ _ _ _ _ _ ht7
      clear z0 z1 z2 z3
      obtain ⟨z0, z1, z2, z3⟩ := HX.out w7 (HM56.out.trans hm7)
      obtain ⟨y0, y1, y2, y3⟩ := HZ.out w7 (HM6.out.trans hm7)
      have HM7 := Lib.hid (HM6.out.trans hm7)
      have HN7 := Lib.hid hn7
      have HT7 := Lib.hid ht7
      have HSA_ := Lib.hid hsa
      clear hn7 ht7 hsa
      clear hm7
      go_wp2_with fail
      refine HSA_.out.mono ?_
      rintro e w8 ⟨rfl, hm8⟩
      clear y0 y1 y2 y3 z0 z1 z2 z3
      obtain ⟨y0, y1, y2, y3⟩ := HZ.out w8 (HM7.out.trans hm8)
      have hsp := HSP.out w8 _ _ _ _ _ _ _ (HT7.out.new hm8) (by omega) (by omega)
      have hn8 := HN7.out.trans hm8
      have HSP_ := Lib.hid hsp
      have HN8 := Lib.hid hn8
      clear hsp hn8
      clear hm8
      go_wp2_with fail
      refine HSP_.out.mono ?_
      rintro e w9 ⟨rfl, hk9⟩
      have hn9 : New w w9 := HN8.out.step hk9 (fun k hk e => by
        have := HN3.out.size
        rcases e with e | e
        · have := HT5.out.fv k e; omega
        · have := HT5.out.fw k e; omega)
      have HN9 := Lib.hid hn9
      clear hn9
      clear y0 y1 y2 y3 hk9
      go_wp2_with fail
      refine (HNEW.out w9).mono ?_
      rintro e w10 ⟨hm10, hr10⟩
      have HFIN := Lib.hid (HN9.out.trans hm10)
      clear hm10
      rcases hr10 with ⟨g1, g2, rfl, -⟩ | ⟨g1, rfl⟩
      · go_wp2_with fail
        go_ret
        exact ⟨by simp [Array.getD], HFIN.out⟩
      · have hg : room < 1 ∨ (1 ≤ room ∧ 64 < room) := by omega
        clear g1
        rcases hg with g1 | ⟨g1, g2⟩
        all_goals
          go_wp2_with fail
          go_ret
          exact ⟨by simp [Array.getD] <;> omega, HFIN.out⟩
end
end Go.Proofs.Ytnmocdgngkjflaa.Lane
