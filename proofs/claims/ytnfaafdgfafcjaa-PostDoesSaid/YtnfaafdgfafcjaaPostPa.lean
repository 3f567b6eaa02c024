/- The walk of firebreaklaw10's same (layer 10). -/
import Derived.Test.YtnfaafdgfafcjaaPostX
import Derived.StillTailTactics
namespace Go.Proofs.Ytnfaafdgfafcjaa.Lane
open Go.RowKit Go.Fb
set_option linter.unusedVariables false
section
variable {w : World} {B : Nat} {A A2 : Option Addr} {n c n2 c2 : Nat} {Ls : List Lane}
set_option maxRecDepth 100000 in
set_option maxHeartbeats 4000000 in
theorem psame_any (hl : SliceOf repT w B A n c Ls) (hr : SliceOf repT w B A2 n2 c2 Ls) (hB : B ≤ w.heap.size) : Calls Try.prog 12 #[.slice A n c, .slice A2 n2 c2] w fun e w' => e = .returned (.bool true) ∧ New w w' := by
  have hb := hl.bound
  have hln := hl.len
  have hb2 := hr.bound
  have hln2 := hr.len
  have hnn : n2 = n := by omega
  subst hnn
  have HL := Lib.hid (fun W (hW : New w W) h0 => lanes_at (hl.kept hW hB fun _ _ h => h) h0)
  have HR := Lib.hid (fun W (hW : New w W) h0 => lanes_at (hr.kept hW hB fun _ _ h => h) h0)
  have HB := Lib.hid hB
  have HLN := Lib.hid hln
  clear hln
  clear hl hr hln2 hB
  go_enter Try.func12, Try.ntmps12
  go_wp2_with fail
  go_loopw [5, 6] (fun s5 s wr => ∃ i : Nat, i ≤ n2 ∧ s = .int .i64 i ∧ s5 = .bool true ∧ New w wr) (fun _ s _ => (n2 - intOf s).toNat)
  case atStart => exact ⟨0, Nat.zero_le _, rfl, by simp, Kept.refl _ _⟩
  case round =>
    obtain ⟨i, hi, rfl, rfl, hnr⟩ := hrel
    by_cases hlt : i < n2
    · have hil : i < Ls.length := by rw [← HLN.out]; exact hlt
      obtain ⟨g, o, rfl, -, hx⟩ := HL.out wr hnr (by omega)
      obtain ⟨Av, cv, Aw, cw, ⟨x0, x1, x2, x3⟩, -, -⟩ := hx i hil
      obtain ⟨g2, o2, rfl, -, hy⟩ := HR.out wr hnr (by omega)
      obtain ⟨Bv, dv, Bw, dw, ⟨y0, y1, y2, y3⟩, -, -⟩ := hy i hil
      have hnd : New w wr.drew := hnr.drew
      obtain ⟨g', o', e1, -, hx'⟩ := HL.out wr.drew hnd (by omega)
      injection e1 with e1
      injection e1 with e1 e1'
      subst e1; subst e1'
      obtain ⟨Av', cv', Aw', cw', ⟨x0', x1', -, -⟩, hv, hw⟩ := hx' i hil
      obtain ⟨g', o', e1, -, hy'⟩ := HR.out wr.drew hnd (by omega)
      injection e1 with e1
      injection e1 with e1 e1'
      subst e1; subst e1'
      obtain ⟨Bv', dv', Bw', dw', ⟨y0', y1', -, -⟩, hv2, hw2⟩ := hy' i hil
      have q1 := x0.symm.trans x0'
      have q2 := x1.symm.trans x1'
      have q3 := y0.symm.trans y0'
      have q4 := y1.symm.trans y1'
      simp only [Option.some.injEq, Value.slice.injEq] at q1 q2 q3 q4
      obtain ⟨rfl, -, rfl⟩ := q1
      obtain ⟨rfl, -, rfl⟩ := q2
      obtain ⟨rfl, -, rfl⟩ := q3
      obtain ⟨rfl, -, rfl⟩ := q4
      have hs := same_any hv hw hv2 hw2 (Nat.le_trans HB.out hnd.size)
      unfold stC at hs
      have HS := Lib.hid hs
      have HND := Lib.hid hnd
      have HNR := Lib.hid hnr
      clear hs hnd hnr
      clear hx hx' hy hy' x0' x1' y0' y1' hv hw hv2 hw2
      generalize Ls[i] = L at *
      generalize L.vals.length = nv at *
      generalize L.waits.length = nw at *
      go_upto_region 5 with (fail)
      go_still_tail 8, (by kernel_rfl)
      change wpList _ _ _ _ _ wr.drew
      generalize wr.drew = wd at *
      go_wp2_with fail
      refine HS.out.mono ?_
      rintro e w3 ⟨rfl, hn3⟩
      have HN3 := Lib.hid (HND.out.trans hn3)
      clear hn3
      go_wp2_with fail
      go_roundw
      case rel => exact ⟨i + 1, by omega, by go_num, rfl, HN3.out⟩
      case measure => simp [intOf]; omega
    · obtain rfl : i = n2 := by omega
      go_wp2_with fail
      go_ret
      exact ⟨rfl, hnr⟩
end
end Go.Proofs.Ytnfaafdgfafcjaa.Lane
