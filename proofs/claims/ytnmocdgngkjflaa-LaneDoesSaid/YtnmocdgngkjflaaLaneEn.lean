/- The walk of firebreaklaw09's ended (layer 9). -/
import Derived.Test.YtnmocdgngkjflaaLaneY
namespace Go.Proofs.Ytnmocdgngkjflaa.Lane
open Go.RowKit Go.Fb
set_option linter.unusedVariables false
/-- The first ones written over. -/
def marks (i : Nat) (l : List (Int × Int)) : List (Int × Int) := List.replicate i (-9, 0) ++ l.drop i
theorem marks_len {i : Nat} {l : List (Int × Int)} (h : i ≤ l.length) : (marks i l).length = l.length := by unfold marks; rw [List.length_append, List.length_replicate, List.length_drop]; omega
theorem marks_get {i : Nat} {l : List (Int × Int)} (h : i < l.length) : (marks i l)[i]'(by rw [marks_len (by omega)]; exact h) = l[i] := by
  unfold marks
  rw [List.getElem_append_right (by simp)]
  simp
theorem marks_set {i : Nat} {l : List (Int × Int)} (h : i < l.length) : (marks i l).set i (-9, 0) = marks (i + 1) l := by
  unfold marks
  rw [List.set_append_right _ _ (by simp), List.length_replicate, Nat.sub_self, List.drop_eq_getElem_cons h, List.set_cons_zero, List.replicate_succ', List.append_assoc]
  rfl
theorem row_mark {w : World} {r : Option Nat} {g o n c i : Nat} {l : List (Int × Int)} (hr : Row w 2 r (some ⟨g, o, none⟩) n c ((marks i l).flatMap cellsW)) (hn : n = l.length) (hi : i < n) :
    Row ((w.setCell ⟨g, o + i * 2, none⟩ (.int .i64 (-9))).setCell ⟨g, o + i * 2 + 1, none⟩ (.int .i64 0)) 2 r (some ⟨g, o, none⟩) n c ((marks (i + 1) l).flatMap cellsW) := by
  have hml : (marks i l).length = l.length := marks_len (by omega)
  have h1 := hr.set rfl (j := i * 2 + 0) (by omega) (.int .i64 (-9))
  rw [flatMap_set (size := 2) (f := cellsW) (marks i l) (fun x _ => rfl) i (by omega) 0 (by decide) (.int .i64 (-9)) (-9, ((marks i l)[i]'(by omega)).2) rfl] at h1
  have h2 := h1.set rfl (j := i * 2 + 1) (by omega) (.int .i64 0)
  rw [flatMap_set (size := 2) (f := cellsW) _ (fun x _ => rfl) i (by rw [List.length_set]; omega) 1 (by decide) (.int .i64 0) (-9, 0) (by rw [List.getElem_set_self]; rfl), List.set_set, marks_set (by omega)] at h2
  exact h2
section
variable {w w0 : World} {b c : Nat} {L : Lane}
set_option maxRecDepth 100000 in
set_option maxHeartbeats 4000000 in
theorem ended_any (h : Both w w0 b c L L) (hlw : L.waits.length ≤ 8000000000000) : Calls Try.prog 36 #[.pointer (some ⟨b, 0, none⟩), .pointer (some ⟨c, 0, none⟩)] w0 fun e w' => e = .returned (.bool true) ∧ Both w w' b c { L with waits := [] } { L with waits := [] } := by
  obtain ⟨F, G, hF, hG, hf, hg, hd, hn, -, -⟩ := h
  have hend := end_any hF
  obtain ⟨nw, hnw⟩ : ∃ n, n = L.waits.length := ⟨_, rfl⟩
  rw [← hnw] at hend hlw
  have HEND := Lib.hid hend
  have HFA := Lib.hid hF
  have HGA := Lib.hid hG
  have HFW := Lib.hid hf
  have HGW := Lib.hid hg
  have HDD := Lib.hid hd
  have HN0 := Lib.hid hn
  have HNW := Lib.hid hnw
  clear hend hF hG hf hg hd hn hnw
  go_enter Try.func36, Try.ntmps36
  go_wp2_with fail
  refine HEND.out.mono ?_
  rintro e w1 ⟨r, A, F', rfl, hrow, hA, hFF, hr, hk1⟩
  have hG1 := HGA.out.kept hk1 (fun k e e' => HDD.out k e' e)
  have hend2 := rend_any hG1
  rw [← HNW.out] at hend2
  have HEND2 := Lib.hid hend2
  have HROW := Lib.hid hrow
  have HA := Lib.hid hA
  have HFF := Lib.hid hFF
  have HR := Lib.hid hr
  have HK1 := Lib.hid hk1
  have HG1 := Lib.hid hG1
  clear hend2 hrow hA hFF hr hk1 hG1
  go_wp2_with fail
  refine HEND2.out.mono ?_
  rintro e w2 ⟨r2, A2, c2, G', rfl, hrow2, hB, hGG, hr2, hk2⟩
  have hrow1 := HROW.out.of_kept (by decide) hk2 (fun k e e' => HDD.out k (HR.out k e).1 e')
  have hA2 := HA.out.kept hk2 (fun k e e' => HDD.out k (HFF.out k e) e')
  have hn1 := HN0.out.step HK1.out (fun k hk e => absurd (HFW.out k e) (Nat.not_le.2 hk))
  have hn2 := hn1.step hk2 (fun k hk e => absurd (HGW.out k e) (Nat.not_le.2 hk))
  have HP2 := Lib.hid (fun W (hW : Kept (fun k => r = some k) w2 W) => (waits_read hrow2 (by simp [HNW.out])).kept hW (Nat.le_refl _))
  have hb1 := hrow1.bound
  have hb2 := hrow2.bound
  have HSR : Hid (∀ W, Kept (fun k => r = some k) w2 W → SliceOf repW W W.heap.size A2 nw c2 L.waits) := Lib.hid fun W hW => waits_read (hrow2.of_kept (by decide) hW (fun k e e' => HDD.out k (HR.out k e').1 (hr2 k e).1)) HNW.out.symm
  have HBOTH : Hid (∀ W, Kept (fun k => r = some k) w2 W → Both w W b c { L with waits := [] } { L with waits := [] }) := Lib.hid fun W hW =>
    ⟨F', G', hA2.kept hW (fun k e e' => (HR.out k e').2 e), hB.kept hW (fun k e e' => HDD.out k (HR.out k e').1 (hGG k e)), fun k e => HFW.out k (HFF.out k e), fun k e => HGW.out k (hGG k e), fun k e e' => HDD.out k (HFF.out k e) (hGG k e'), hn2.step hW (fun k hk e => absurd (HFW.out k (HR.out k e).1) (Nat.not_le.2 hk)), fun _ _ h => h, fun _ h => h.elim⟩
  have hr0 : Row w2 2 r A nw nw ((marks 0 L.waits).flatMap cellsW) := hrow1
  have HR0 := Lib.hid hr0
  clear hr0
  clear hrow1 hA2 hn1 hn2 hrow2 hB hGG hr2 hk2 HP2
  go_wp2_with fail
  go_loopw [7] (fun s wr => ∃ i : Nat, i ≤ nw ∧ s = .int .i64 i ∧ Kept (fun k => r = some k) w2 wr ∧ Row wr 2 r A nw nw ((marks i L.waits).flatMap cellsW)) (fun s _ => (nw - intOf s).toNat)
  case atStart => exact ⟨0, Nat.zero_le _, rfl, Kept.refl _ _, HR0.out⟩
  case round =>
    obtain ⟨i, hi, rfl, hk, hrw⟩ := hrel
    by_cases hlt : i < nw
    · have hil : i < L.waits.length := by rw [← HNW.out]; exact hlt
      have hmi : i < (marks i L.waits).length := by rw [marks_len (by omega)]; exact hil
      obtain ⟨g, o, rfl, -, hc⟩ := waits_at (waits_read hrw (by rw [marks_len (by omega)]; exact HNW.out.symm)) (by omega)
      obtain ⟨x0, x1⟩ := hc i hmi
      obtain ⟨g2, o2, rfl, -, hc2⟩ := waits_at (HSR.out wr hk) (by omega)
      obtain ⟨y0, y1⟩ := hc2 i hil
      rw [marks_get hil] at x0 x1
      obtain ⟨g', o', rfl, e2, hcf⟩ := hrw.at_index hlt
      injection e2 with e2
      injection e2 with e2 e3
      subst e2; subst e3
      obtain ⟨-, -, -, hf0⟩ := hcf 0 (by decide)
      obtain ⟨-, -, -, hf1⟩ := hcf 1 (by decide)
      rw [Nat.add_zero] at hf0
      have hm := fun q => row_mark ((hrw.drewN q)) HNW.out hlt
      have hk' := fun q => Kept.setCell (p := ⟨g, o + i * 2 + 1, none⟩) (Kept.setCell (p := ⟨g, o + i * 2, none⟩) (hk.drewN q) (.inr rfl) (.int .i64 (-9))) (.inr rfl) (.int .i64 0)
      generalize L.waits[i].1 = p at *
      generalize L.waits[i].2 = v at *
      have j2 : (0 : Int) ≤ (i : Int) := by omega
      have j3 : (i : Int) < (nw : Int) := by omega
      have HM := Lib.hid hm
      have HK := Lib.hid hk'
      clear hc hc2 hrw hcf hk hk' hm hil hmi
      go_wp2_with fail
      go_quiet (fail)
      go_wp2_with fail
      go_roundw
      case rel => exact ⟨i + 1, by omega, by go_num, HK.out _, HM.out _⟩
      case measure => simp [intOf]; omega
    · obtain rfl : i = nw := by omega
      obtain ⟨wo, rfl⟩ : ∃ wo, wo = wr := ⟨_, rfl⟩
      have HK5 := Lib.hid hk
      have HRW5 := Lib.hid hrw
      clear hk hrw
      go_wp2_with fail
      go_loopw [5, 8] (fun s5 s8 wr => ∃ (t : Nat) (q D d : _), t ≤ 9 ∧ s8 = .int .i64 t ∧ s5 = .slice D (i + t) d ∧ RowX wr 2 q D (i + t) d ∧ (∀ k, q = some k → r = some k ∨ w2.heap.size ≤ k) ∧ Kept (fun k => r = some k) w2 wr) (fun _ s _ => (9 - intOf s).toNat)
      case atStart => exact ⟨0, r, A, i, by omega, rfl, rfl, HRW5.out.x, fun k e => .inl e, HK5.out⟩
      case round =>
        obtain ⟨t, q, D, d, ht, rfl, rfl, hxq, hf, hk⟩ := hrel
        by_cases hlt : t < 9
        · obtain ⟨ys, hq⟩ := hxq
          obtain ⟨N2, hN2⟩ : ∃ N, N = i + t := ⟨_, rfl⟩
          rw [← hN2] at hq ⊢
          have b2 : N2 ≤ 8000000000009 := by omega
          have HQR := Lib.hid hq
          have HFQ := Lib.hid hf
          have HKQ := Lib.hid hk
          have HN2 := Lib.hid hN2
          clear hq hf hk hN2
          go_wp2_with (at_builtin; refine wpList_append_one (cs := [.int .i64 (-9), .int .i64 0]) tyWaits rfl (.tmp 41) (.tmp 43) rfl rfl HQR.out rfl rfl rfl (by simp [Value.oneCell']) (by unfold maxLen; omega) (by omega) ?_; intro r3 A3 c3 w3 hr3 hk3 hn3; have HR3 := Lib.hid hr3; have HK3 := Lib.hid hk3; have HNN3 := Lib.hid hn3; clear hr3 hk3 hn3)
          go_roundw
          case rel =>
            have s1 := HKQ.out.size
            refine ⟨t + 1, r3, A3, c3, by omega, by go_num, by rw [HN2.out]; rfl, by rw [show i + (t + 1) = N2 + 1 by have := HN2.out; omega]; exact HR3.out.x, fun k e => ?_, HKQ.out.step HK3.out fun k hk e => ?_⟩
            · rcases HNN3.out k e with h | h
              · exact HFQ.out k h
              · exact .inr (by omega)
            · rcases HFQ.out k e with h | h
              · exact h
              · omega
          case measure => simp [intOf]; omega
        · obtain rfl : t = 9 := by omega
          have HKQ := Lib.hid hk
          have HXQ := Lib.hid hxq
          have HFQ := Lib.hid hf
          clear hk hxq hf
          go_wp2_with fail
          go_ret
          exact ⟨rfl, HBOTH.out _ HKQ.out⟩
end
end Go.Proofs.Ytnmocdgngkjflaa.Lane
