/- The walk of firebreaklaw09's spoil (layer 9). -/
import Derived.Test.YtnmocdgngkjflaaLaneN
namespace Go.Proofs.Ytnmocdgngkjflaa.Lane
open Go.RowKit Go.Fb
set_option linter.unusedVariables false
theorem RowX.push {w w' : World} {size : Nat} {r r' : Option Nat} {A' : Option Addr} {n c' : Nat} {xs ys : List Value} (h : Row w' size r' A' n c' (xs ++ ys)) : RowX w' size r' A' n c' := ⟨_, h⟩
section
variable {B : Nat} {w : World} {rv : Option Nat} {Av : Option Addr} {cv : Nat} {rw : Option Nat} {Aw : Option Addr} {cw : Nat} {L : Lane}
set_option maxRecDepth 100000 in
set_option maxHeartbeats 4000000 in
theorem spoil_any (h : Told B w rv Av cv rw Aw cw L) (hlv : L.vals.length ≤ 8000000000000) (hlw : L.waits.length ≤ 8000000000000) : Calls Try.prog 17 #[stC L Av cv Aw cw] w fun e w' => e = .returned (.tuple #[]) ∧ Kept (fun k => rv = some k ∨ rw = some k) w w' := by
  have hbv := h.vals.bound
  have hbw := h.waits.bound
  have hn1 : New w (w.alloc (.cells #[.slice Av L.vals.length cv, .slice Aw L.waits.length cw, .int .i64 L.taken, .int .i64 L.dropped] 40)) := (Kept.refl _ _).alloc _
  have hb1 := Blk.made w 40 #[.slice Av L.vals.length cv, .slice Aw L.waits.length cw, .int .i64 L.taken, .int .i64 L.dropped]
  have hrv := (h.vals.new (by decide) hn1).x
  have hrw := (h.waits.new (by decide) hn1).x
  have hlrv := h.vals.lt (by decide)
  have hlrw := h.waits.lt (by decide)
  have hd := h.d
  unfold stC
  obtain ⟨nv, hnv⟩ : ∃ n, n = L.vals.length := ⟨_, rfl⟩
  obtain ⟨nw, hnw⟩ : ∃ n, n = L.waits.length := ⟨_, rfl⟩
  rw [← hnv] at hn1 hb1 hbv hrv hrw hlv ⊢
  rw [← hnw] at hn1 hb1 hbw hrv hrw hlw ⊢
  have HNV := Lib.hid hnv
  have HNW := Lib.hid hnw
  have HN1 := Lib.hid hn1
  have HB1 := Lib.hid hb1
  have HRV := Lib.hid hrv
  have HRW := Lib.hid hrw
  have HLRV := Lib.hid hlrv
  have HLRW := Lib.hid hlrw
  have HD := Lib.hid hd
  clear hnv hnw hn1 hb1 hrv hrw hlrv hlrw hd
  clear h
  go_enter Try.func17, Try.ntmps17
  go_upto_region 1 with (fail)
  generalize w.alloc (.cells #[.slice Av nv cv, .slice Aw nw cw, .int .i64 L.taken, .int .i64 L.dropped] 40) = w1 at *
  obtain ⟨b, hb⟩ : ∃ b, b = w.heap.size := ⟨_, rfl⟩
  rw [← hb] at HB1 HLRV HLRW
  have e0 : w.heap.size = b := hb.symm
  rw [e0]
  have HBE := Lib.hid e0
  clear hb e0
  have HX := Lib.hid (fun W (hk : Kept (fun k => rv = some k ∨ rw = some k) w1 W) => (show W.cell? ⟨b, 0, none⟩ = some (.slice Av nv cv) ∧ W.cell? ⟨b, 1, none⟩ = some (.slice Aw nw cw) from by
    have hb2 := HB1.out.kept hk (fun e => e.elim (fun e => Nat.lt_irrefl _ (HLRV.out _ e)) (fun e => Nat.lt_irrefl _ (HLRW.out _ e)))
    exact ⟨hb2.cell 0, hb2.cell 1⟩))
  go_wp2_with fail
  go_loopw [2] (fun s wr => ∃ i : Nat, i ≤ nv ∧ s = .int .i64 i ∧ Kept (fun k => rv = some k ∨ rw = some k) w1 wr ∧ RowX wr 1 rv Av nv cv ∧ RowX wr 2 rw Aw nw cw) (fun s _ => (nv - intOf s).toNat)
  case atStart => exact ⟨0, Nat.zero_le _, rfl, Kept.refl _ _, HRV.out, HRW.out⟩
  case round =>
    obtain ⟨i, hi, rfl, hk, hxv, hxw⟩ := hrel
    obtain ⟨z0, z1⟩ := HX.out wr hk
    by_cases hlt : i < nv
    · obtain ⟨xs, hrow⟩ := hxv
      obtain ⟨g, o, rfl, rfl, hc⟩ := hrow.at_index hlt
      obtain ⟨u, hu1, hu2, hu3⟩ := hc 0 (by decide)
      rw [Nat.mul_one, Nat.add_zero] at hu2 hu3
      have hx2 := RowX.set0 hrow.x rfl hlt (by decide) (.int .i64 (-7))
      rw [Nat.mul_one] at hx2
      have hk2 := hk.setCell (p := ⟨g, o + i, none⟩) (.inr (.inl rfl)) (.int .i64 (-7))
      have hw2 := hxw.kept (by decide) (Kept.set1 wr g (o + i) (.int .i64 (-7))) (fun k e e' => HD.out g rfl (by rw [← e']; exact e))
      have HX2 := Lib.hid hx2
      have HK2 := Lib.hid hk2
      have HW2 := Lib.hid hw2
      have HXW := Lib.hid hxw
      have HK := Lib.hid hk
      have HROW := Lib.hid hrow
      clear hx2 hk2 hw2 hxw hk hrow
      clear hc hu1
      go_wp2_with fail
      go_roundw
      case rel => exact ⟨i + 1, by omega, by go_num, HK2.out, HX2.out, HW2.out⟩
      case measure => simp [intOf]; omega
    · obtain rfl : i = nv := by omega
      obtain ⟨wo, rfl⟩ : ∃ wo, wo = wr := ⟨_, rfl⟩
      have HK := Lib.hid hk
      have HXV := Lib.hid hxv
      have HXW := Lib.hid hxw
      clear hk hxv hxw
      go_wp2_with fail
      clear z0 z1
      go_loopw [3] (fun s wr => ∃ j : Nat, j ≤ nw ∧ s = .int .i64 j ∧ Kept (fun k => rv = some k ∨ rw = some k) w1 wr ∧ RowX wr 1 rv Av i cv ∧ RowX wr 2 rw Aw nw cw) (fun s _ => (nw - intOf s).toNat)
      case atStart => exact ⟨0, Nat.zero_le _, rfl, HK.out, HXV.out, HXW.out⟩
      case round =>
        obtain ⟨j, hj, rfl, hk, hxv, hxw⟩ := hrel
        obtain ⟨z0, z1⟩ := HX.out wr hk
        by_cases hlt : j < nw
        · obtain ⟨xs, hrow⟩ := hxw
          obtain ⟨g, o, rfl, rfl, hc⟩ := hrow.at_index hlt
          obtain ⟨u, -, hu2, hu3⟩ := hc 0 (by decide)
          obtain ⟨v, -, hv2, hv3⟩ := hc 1 (by decide)
          rw [Nat.add_zero] at hu2 hu3
          have hx2 := (RowX.set0 hrow.x rfl hlt (by decide) (.int .i64 (-7))).set rfl hlt (j := 1) (by decide) (.int .i64 0)
          have hk2 := (hk.setCell (p := ⟨g, o + j * 2, none⟩) (.inr (.inr rfl)) (.int .i64 (-7))).setCell (p := ⟨g, o + j * 2 + 1, none⟩) (.inr (.inr rfl)) (.int .i64 0)
          have hw2 := (hxv.kept (by decide) (Kept.set1 wr g (o + j * 2) (.int .i64 (-7))) (fun k e e' => HD.out k e (by rw [e']))).kept (by decide) (Kept.set1 _ g (o + j * 2 + 1) (.int .i64 0)) (fun k e e' => HD.out k e (by rw [e']))
          have HX2 := Lib.hid hx2
          have HK2 := Lib.hid hk2
          have HW2 := Lib.hid hw2
          have HXV := Lib.hid hxv
          have HK := Lib.hid hk
          have HROW := Lib.hid hrow
          clear hx2 hk2 hw2 hxv hk hrow
          clear hc
          go_wp2_with fail
          go_roundw
          case rel => exact ⟨j + 1, by omega, by go_num, HK2.out, HW2.out, HX2.out⟩
          case measure => simp [intOf]; omega
        · obtain rfl : j = nw := by omega
          obtain ⟨wo, rfl⟩ : ∃ wo, wo = wr := ⟨_, rfl⟩
          have HK5 := Lib.hid hk
          have HXV5 := Lib.hid hxv
          have HXW5 := Lib.hid hxw
          clear hk hxv hxw
          go_wp2_with fail
          clear z0 z1
          go_loopw [4, 5, 6] (fun s4 s5 s6 wr => ∃ (t : Nat) (r A c q D d : _), t ≤ 9 ∧ s6 = .int .i64 t ∧ s4 = .slice A (i + t) c ∧ s5 = .slice D (j + t) d ∧ RowX wr 1 r A (i + t) c ∧ RowX wr 2 q D (j + t) d ∧ (∀ k, r = some k → rv = some k ∨ w1.heap.size ≤ k) ∧ (∀ k, q = some k → rw = some k ∨ w1.heap.size ≤ k) ∧ (∀ k, r = some k → q ≠ some k) ∧ Kept (fun k => rv = some k ∨ rw = some k) w1 wr) (fun _ _ s _ => (9 - intOf s).toNat)
          case atStart => exact ⟨0, rv, Av, cv, rw, Aw, cw, by omega, rfl, rfl, rfl, HXV5.out, HXW5.out, fun k e => .inl e, fun k e => .inl e, HD.out, HK5.out⟩
          case round =>
            obtain ⟨t, r, A, c, q, D, d, ht, rfl, rfl, rfl, hxr, hxq, hf1, hf2, hdd, hk⟩ := hrel
            by_cases hlt : t < 9
            · obtain ⟨xs, hr⟩ := hxr
              obtain ⟨ys, hq⟩ := hxq
              obtain ⟨N1, hN1⟩ : ∃ N, N = i + t := ⟨_, rfl⟩
              obtain ⟨N2, hN2⟩ : ∃ N, N = j + t := ⟨_, rfl⟩
              rw [← hN1] at hr ⊢
              rw [← hN2] at hq ⊢
              have b1 : N1 ≤ 8000000000009 := by omega
              have b2 : N2 ≤ 8000000000009 := by omega
              have HR := Lib.hid hr
              have HQ := Lib.hid hq
              have HF1 := Lib.hid hf1
              have HF2 := Lib.hid hf2
              have HDD := Lib.hid hdd
              have HK := Lib.hid hk
              have HN1 := Lib.hid hN1
              have HN2 := Lib.hid hN2
              clear hr hq hf1 hf2 hdd hk hN1 hN2
              go_wp2_with (first | (at_builtin; refine wpList_append_one (cs := [.int .i64 (-8)]) tyVals rfl (.tmp 38) (.tmp 39) rfl rfl HR.out rfl rfl rfl (by simp [Value.oneCell']) (by unfold maxLen; omega) (by omega) ?_; intro r2 A2 c2 w2 hr2 hk2 hn2; have hq2 := HQ.out.of_kept (by decide) hk2 (fun k e e' => HDD.out k e' e); have HLQ := Lib.hid (fun k (e : q = some k) => HQ.out.lt (by decide) k e); have HR2 := Lib.hid hr2; have HK2 := Lib.hid hk2; have HNN2 := Lib.hid hn2; have HQ2 := Lib.hid hq2; clear hr2 hk2 hn2 hq2) | (at_builtin; refine wpList_append_one (cs := [.int .i64 (-8), .int .i64 0]) tyWaits rfl (.tmp 41) (.tmp 43) rfl rfl HQ2.out rfl rfl rfl (by simp [Value.oneCell']) (by unfold maxLen; omega) (by omega) ?_; intro r3 A3 c3 w3 hr3 hk3 hn3; have HR3 := Lib.hid hr3; have HK3 := Lib.hid hk3; have HNN3 := Lib.hid hn3; clear hr3 hk3 hn3))
              go_roundw
              case rel =>
                have hd2 : ∀ k, r2 = some k → q ≠ some k := fun k e e' => by
                  rcases HNN2.out k e with h | h
                  · exact HDD.out k h e'
                  · have := HLQ.out k e'; omega
                have l2 := HR2.out.lt (by decide)
                have s1 := HK.out.size
                have s2 := HK2.out.size
                refine ⟨t + 1, r2, A2, c2, r3, A3, c3, by omega, by go_num, by rw [HN1.out]; rfl, by rw [HN2.out]; rfl, by rw [show i + (t + 1) = N1 + 1 by have := HN1.out; omega]; exact (HR2.out.of_kept (by decide) HK3.out (fun k e e' => hd2 k e e')).x, by rw [show j + (t + 1) = N2 + 1 by have := HN2.out; omega]; exact HR3.out.x, fun k e => ?_, fun k e => ?_, fun k e e' => ?_, ?_⟩
                · rcases HNN2.out k e with h | h
                  · exact HF1.out k h
                  · exact .inr (by omega)
                · rcases HNN3.out k e with h | h
                  · exact HF2.out k h
                  · exact .inr (by omega)
                · rcases HNN3.out k e' with h | h
                  · exact hd2 k e h
                  · have := l2 k e; omega
                · refine (HK.out.step HK2.out fun k hk e => ?_).step HK3.out fun k hk e => ?_
                  · rcases HF1.out k e with h | h
                    · exact .inl h
                    · omega
                  · rcases HF2.out k e with h | h
                    · exact .inr h
                    · omega
              case measure => simp [intOf]; omega
            · obtain rfl : t = 9 := by omega
              have HK := Lib.hid hk
              have HXR := Lib.hid hxr
              have HXQ := Lib.hid hxq
              have HF1 := Lib.hid hf1
              have HF2 := Lib.hid hf2
              have HDD := Lib.hid hdd
              clear hk hxr hxq hf1 hf2 hdd
              go_wp2_with fail
              go_end0
              exact ⟨rfl, (HN1.out.mono fun _ _ h => h.elim).step HK.out fun k hk e => e⟩
end
end Go.Proofs.Ytnmocdgngkjflaa.Lane
