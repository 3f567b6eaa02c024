/- The walk of the reference's Same, of what is the same (layer 9). -/
import Derived.Test.YtnfaafdgfafcjaaLaneH
namespace Go.Proofs.Ytnfaafdgfafcjaa.Lane
open Go.RowKit Go.Fb
set_option linter.unusedVariables false
theorem vals_at {w : World} {B : Nat} {A : Option Addr} {n c : Nat} {l : List Int} (h : SliceOf repV w B A n c l) (hn : 0 < n) :
    ∃ b o, A = some ⟨b, o, none⟩ ∧ b < B ∧ ∀ i (h : i < l.length), w.cell? ⟨b, o + i, none⟩ = some (.int .i64 l[i]) := by
  obtain ⟨b, o, e, hb, hc⟩ := h.get hn
  refine ⟨b, o, e, hb, fun i hi => ?_⟩
  obtain ⟨es, g1, g2⟩ := hc i hi
  have := g1 0 (Nat.zero_lt_one)
  rw [g2] at this
  simpa [repV] using this
section
variable {w : World} {B : Nat} {Av : Option Addr} {cv : Nat} {Aw : Option Addr} {cw : Nat} {Bv : Option Addr} {dv : Nat} {Bw : Option Addr} {dw : Nat} {L : Lane}
set_option maxRecDepth 100000 in
set_option maxHeartbeats 4000000 in
theorem same_any (hv : SliceOf repV w B Av L.vals.length cv L.vals) (hw : SliceOf repW w B Aw L.waits.length cw L.waits) (hv2 : SliceOf repV w B Bv L.vals.length dv L.vals) (hw2 : SliceOf repW w B Bw L.waits.length dw L.waits) (hB : B ≤ w.heap.size) :
    Calls Try.prog 27 #[stC L Av cv Aw cw, stC L Bv dv Bw dw] w fun e w' => e = .returned (.bool true) ∧ New w w' := by
  have hbv := hv.bound
  have hbw := hw.bound
  have hdv := hv2.bound
  have hdw := hw2.bound
  have HV := Lib.hid (fun W (hW : New w W) => (hv.kept hW hB fun _ _ h => h))
  have HW := Lib.hid (fun W (hW : New w W) => (hw.kept hW hB fun _ _ h => h))
  have HV2 := Lib.hid (fun W (hW : New w W) => (hv2.kept hW hB fun _ _ h => h))
  have HW2 := Lib.hid (fun W (hW : New w W) => (hw2.kept hW hB fun _ _ h => h))
  have hn1 : New w ((w.alloc (.cells #[.slice Av L.vals.length cv, .slice Aw L.waits.length cw, .int .i64 L.taken, .int .i64 L.dropped] 29)).alloc (.cells #[.slice Bv L.vals.length dv, .slice Bw L.waits.length dw, .int .i64 L.taken, .int .i64 L.dropped] 29)) := ((Kept.refl _ _).alloc _).alloc _
  have hb1 := (Blk.made w 29 #[.slice Av L.vals.length cv, .slice Aw L.waits.length cw, .int .i64 L.taken, .int .i64 L.dropped]).alloc (.cells #[.slice Bv L.vals.length dv, .slice Bw L.waits.length dw, .int .i64 L.taken, .int .i64 L.dropped] 29)
  have hb2 := Blk.made_at (w.alloc (.cells #[.slice Av L.vals.length cv, .slice Aw L.waits.length cw, .int .i64 L.taken, .int .i64 L.dropped] 29)) 29 #[.slice Bv L.vals.length dv, .slice Bw L.waits.length dw, .int .i64 L.taken, .int .i64 L.dropped] (w.heap.size + 1) (size1 _ _)
  unfold stC
  obtain ⟨nv, hnv⟩ : ∃ n, n = L.vals.length := ⟨_, rfl⟩
  obtain ⟨nw, hnw⟩ : ∃ n, n = L.waits.length := ⟨_, rfl⟩
  rw [← hnv] at hn1 hb1 hb2 hbv hdv ⊢
  rw [← hnw] at hn1 hb1 hb2 hbw hdw ⊢
  simp only [← hnv, ← hnw] at HV HW HV2 HW2
  have HNV := Lib.hid hnv
  have HNW := Lib.hid hnw
  have HN1 := Lib.hid hn1
  have HB1 := Lib.hid hb1
  have HB2 := Lib.hid hb2
  clear hnv hnw hn1 hb1 hb2
  clear hv hw hv2 hw2
  go_enter Try.func27, Try.ntmps27
  go_upto_region 1 with (fail)
  generalize (w.alloc (.cells #[.slice Av nv cv, .slice Aw nw cw, .int .i64 L.taken, .int .i64 L.dropped] 29)).alloc (.cells #[.slice Bv nv dv, .slice Bw nw dw, .int .i64 L.taken, .int .i64 L.dropped] 29) = w1 at *
  obtain ⟨b, hb⟩ : ∃ b, b = w.heap.size := ⟨_, rfl⟩
  rw [← hb] at HB1 HB2
  have e0 : w.heap.size = b := hb.symm
  rw [e0]
  clear hb e0
  have HX := Lib.hid (fun W (hk : New w1 W) => (show (W.cell? ⟨b, 0, none⟩ = some (.slice Av nv cv) ∧ W.cell? ⟨b, 1, none⟩ = some (.slice Aw nw cw) ∧ W.cell? ⟨b, 2, none⟩ = some (.int .i64 L.taken) ∧ W.cell? ⟨b, 3, none⟩ = some (.int .i64 L.dropped)) ∧ W.cell? ⟨b + 1, 0, none⟩ = some (.slice Bv nv dv) ∧ W.cell? ⟨b + 1, 1, none⟩ = some (.slice Bw nw dw) ∧ W.cell? ⟨b + 1, 2, none⟩ = some (.int .i64 L.taken) ∧ W.cell? ⟨b + 1, 3, none⟩ = some (.int .i64 L.dropped) from
    ⟨⟨(HB1.out.kept hk id).cell 0, (HB1.out.kept hk id).cell 1, (HB1.out.kept hk id).cell 2, (HB1.out.kept hk id).cell 3⟩, (HB2.out.kept hk id).cell 0, (HB2.out.kept hk id).cell 1, (HB2.out.kept hk id).cell 2, (HB2.out.kept hk id).cell 3⟩))
  obtain ⟨⟨z0, z1, z2, z3⟩, y0, y1, y2, y3⟩ := HX.out w1 (Kept.refl _ _)
  go_upto_region 3 with (fail)
  clear z0 z1 z2 z3 y0 y1 y2 y3
  go_wp2_with fail
  go_loopw [5] (fun s wr => ∃ i : Nat, i ≤ nv ∧ s = .int .i64 i ∧ New w1 wr) (fun s _ => (nv - intOf s).toNat)
  case atStart => exact ⟨0, Nat.zero_le _, rfl, Kept.refl _ _⟩
  case round =>
    obtain ⟨i, hi, rfl, hnr⟩ := hrel
    obtain ⟨⟨z0, z1, z2, z3⟩, y0, y1, y2, y3⟩ := HX.out wr hnr
    by_cases hlt : i < nv
    · have hil : i < L.vals.length := by rw [← HNV.out]; exact hlt
      obtain ⟨g, o, rfl, -, hc⟩ := vals_at (HV.out wr (HN1.out.trans hnr)) (by omega)
      obtain ⟨g', o', rfl, -, hc'⟩ := vals_at (HV2.out wr (HN1.out.trans hnr)) (by omega)
      have x0 := hc i hil
      have x1 := hc' i hil
      generalize L.vals[i] = v at *
      have j2 : (0 : Int) ≤ (i : Int) := by omega
      have j3 : (i : Int) < (nv : Int) := by omega
      have HNR := Lib.hid hnr
      clear hc hc' hnr hil
      go_wp2_with fail
      go_quiet (fail)
      go_wp2_with fail
      go_roundw
      case rel => exact ⟨i + 1, by omega, by go_num, HNR.out.drewN _⟩
      case measure => simp [intOf]; omega
    · obtain rfl : i = nv := by omega
      have HNR0 := Lib.hid hnr
      clear hnr
      obtain ⟨wo, rfl⟩ : ∃ wo, wo = wr := ⟨_, rfl⟩
      go_wp2_with fail
      clear z0 z1 z2 z3 y0 y1 y2 y3
      go_loopw [6] (fun s wr => ∃ k : Nat, k ≤ nw ∧ s = .int .i64 k ∧ New w1 wr) (fun s _ => (nw - intOf s).toNat)
      case atStart => exact ⟨0, Nat.zero_le _, rfl, HNR0.out⟩
      case round =>
        obtain ⟨k, hk, rfl, hnr⟩ := hrel
        obtain ⟨⟨z0, z1, z2, z3⟩, y0, y1, y2, y3⟩ := HX.out wr hnr
        by_cases hlt : k < nw
        · have hil : k < L.waits.length := by rw [← HNW.out]; exact hlt
          obtain ⟨g, o, rfl, -, hc⟩ := waits_at (HW.out wr (HN1.out.trans hnr)) (by omega)
          obtain ⟨g', o', rfl, -, hc'⟩ := waits_at (HW2.out wr (HN1.out.trans hnr)) (by omega)
          obtain ⟨x0, x1⟩ := hc k hil
          obtain ⟨x2, x3⟩ := hc' k hil
          generalize L.waits[k].1 = p at *
          generalize L.waits[k].2 = v at *
          have j2 : (0 : Int) ≤ (k : Int) := by omega
          have j3 : (k : Int) < (nw : Int) := by omega
          have HNR := Lib.hid hnr
          clear hc hc' hnr hil
          go_wp2_with fail
          go_quiet (fail)
          go_wp2_with fail
          go_roundw
          case rel => exact ⟨k + 1, by omega, by go_num, HNR.out.drewN _⟩
          case measure => simp [intOf]; omega
        · obtain rfl : k = nw := by omega
          have HNR := Lib.hid hnr
          clear hnr
          go_wp2_with fail
          go_ret
          exact ⟨rfl, HN1.out.trans HNR.out⟩
end
end Go.Proofs.Ytnfaafdgfafcjaa.Lane
