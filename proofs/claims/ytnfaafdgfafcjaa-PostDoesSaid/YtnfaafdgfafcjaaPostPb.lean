/- The walk of firebreaklaw10's spoil (layer 10). -/
import Derived.Test.YtnfaafdgfafcjaaPostPa
namespace Go.Proofs.Ytnfaafdgfafcjaa.Lane
open Go.RowKit Go.Fb
set_option linter.unusedVariables false
def SmallL (L : Lane) : Prop := L.vals.length ≤ 8000000000000 ∧ L.waits.length ≤ 8000000000000
section
variable {w : World} {F : Nat → Prop} {A : Option Addr} {n c : Nat} {Ls : List Lane}
set_option maxRecDepth 100000 in
set_option maxHeartbeats 8000000 in
theorem pspoil_any (h : OSl tellO w F A n c Ls) (hsm : ∀ L ∈ Ls, SmallL L) (hn : n ≤ 1048576) : Calls Try.prog 13 #[.slice A n c] w fun e w' => e = .returned (.tuple #[]) ∧ Kept F w w' := by
  have hb := h.bound
  have HO := Lib.hid h.or_of
  have HFM : Hid (From SmallL 0 (Ls.map (Sum.inl (β := List Value)))) := Lib.hid (From.all hsm)
  clear h hsm
  go_enter Try.func13, Try.ntmps13
  go_wp2_with fail
  go_loopw [2] (fun t wr => ∃ (k : Nat) (Lq : List (Lane ⊕ List Value)), k ≤ n ∧ t = .int .i64 k ∧ OSl tellO.or wr F A n c Lq ∧ From SmallL k Lq ∧ Kept F w wr) (fun t _ => (n - intOf t).toNat)
  case atStart => exact ⟨0, _, Nat.zero_le _, rfl, HO.out, HFM.out, Kept.refl _ _⟩
  case round =>
    obtain ⟨k, Lq, hk, rfl, hq, hfq, hkk⟩ := hrel
    obtain ⟨wq, hwq⟩ : ∃ wq, wq = wr := ⟨_, rfl⟩
    subst hwq
    by_cases hlk : k < n
    · have hkL : k < Lq.length := by have := hq.len; omega
      obtain ⟨q, hqx, hqs1, hqs2⟩ := hfq k hkL (Nat.le_refl _)
      obtain ⟨g3, o3, cs3, Fk, rfl, hgF3, hown3, hFk, hout3, hcell3⟩ := hq.out k hkL hqx
      obtain ⟨rv, Av, cv, rw_, Aw, cw, rfl, hrv, hrw, hfv, hfw, hd⟩ := hown3
      change ∀ j', j' < 4 → wq.cell? ⟨g3, o3 + k * 4 + j', none⟩ = _ ∧ wq.frozen? ⟨g3, o3 + k * 4 + j', none⟩ = false at hcell3
      unfold tellC at hcell3
      have u0 := (hcell3 0 (by decide)).1
      have u1 := (hcell3 1 (by decide)).1
      simp only [Nat.add_zero, List.getElem?_cons_zero, List.getElem?_cons_succ] at u0 u1
      generalize q.vals.length = nv at *
      generalize q.waits.length = nw at *
      have k4 := hrv.bound
      have k5 := hrw.bound
      generalize hxv : q.vals.map (Value.int .i64) = xv at hrv
      generalize hxw : q.waits.flatMap cellsW = xw at hrw
      have HC3 := Lib.hid hcell3
      have HG3 : Hid (g3 < wq.heap.size) := Lib.hid (lt_of_cell u0).1
      have e4 : (0 : Int) ≤ (k : Int) := by omega
      have e5 : (k : Int) < (n : Int) := by omega
      have HQQ := Lib.hid hq
      have HFQ := Lib.hid hfq
      have HKK_ := Lib.hid hkk
      have HFK := Lib.hid hFk
      have HOUT3 := Lib.hid hout3
      have HRV := Lib.hid hrv
      have HRW := Lib.hid hrw
      have HFV := Lib.hid hfv
      have HFW_ := Lib.hid hfw
      have HGF3 := Lib.hid hgF3
      have HD := Lib.hid hd
      clear hq hfq hkk hFk hout3 hrv hrw hfv hfw hgF3 hd
      clear hcell3 hqx hkL hxv hxw
      go_wp2_with fail
      go_loopw [5] (fun t wr => ∃ (k : Nat) (xs : List Value), k ≤ nv ∧ t = .int .i64 k ∧ Row wr 1 rv Av nv cv xs ∧ Kept (fun j => rv = some j) wq wr) (fun t _ => (nv - intOf t).toNat)
      case atStart => exact ⟨0, _, Nat.zero_le _, rfl, HRV.out, Kept.refl _ _⟩
      case round =>
        obtain ⟨kD, xsD, hk, rfl, hrkD, hkkD⟩ := hrel
        have kbD := hrkD.bound
        by_cases hlk : kD < nv
        · obtain ⟨gg, oo, e1, rfl, hc⟩ := hrkD.at_index (k := kD) hlk
          obtain ⟨v, qa, qb, qc⟩ := hc 0 (by decide)
          rw [show oo + kD * 1 + 0 = oo + kD from by omega] at qb qc
          have e4 : (0 : Int) ≤ (kD : Int) := by omega
          have e5 : (kD : Int) < (nv : Int) := by omega
          have HRK := Lib.hid hrkD
          have HKK := Lib.hid hkkD
          have HE1 := Lib.hid e1
          clear hrkD hkkD e1
          clear hc qa
          go_wp2_with fail
          go_roundw
          case rel =>
            refine ⟨kD + 1, xsD.set (kD * 1 + 0) (.int .i64 (-7)), by omega, by go_num, ?_, HKK.out.setCell (.inr HE1.out) _⟩
            have h := HRK.out.set (j := kD * 1 + 0) rfl (by omega) (.int .i64 (-7))
            rw [show oo + (kD * 1 + 0) = oo + kD from by omega] at h
            exact h
          case measure => simp [intOf]; omega
        · obtain rfl : nv = kD := by omega
          obtain ⟨wx, hwx⟩ : ∃ wx, wx = wr := ⟨_, rfl⟩
          subst hwx
          have HKX : Hid (Kept Fk wq wx) := Lib.hid (hkkD.mono fun j hj e => HFV.out j e)
          have HRWX := Lib.hid (HRW.out.of_kept (by decide) hkkD fun j e e' => HD.out j e' e)
          have HRVX := Lib.hid hrkD
          clear hrkD
          clear hkkD
          go_wp2_with fail
          go_loopw [6] (fun t wr => ∃ (k : Nat) (xs : List Value), k ≤ nw ∧ t = .int .i64 k ∧ Row wr 2 rw_ Aw nw cw xs ∧ Kept (fun j => rw_ = some j) wx wr) (fun t _ => (nw - intOf t).toNat)
          case atStart => exact ⟨0, _, Nat.zero_le _, rfl, HRWX.out, Kept.refl _ _⟩
          case round =>
            obtain ⟨kE, xsE, hk, rfl, hrkE, hkkE⟩ := hrel
            have kbE := hrkE.bound
            by_cases hlk : kE < nw
            · obtain ⟨gg, oo, e1, rfl, hc⟩ := hrkE.at_index (k := kE) hlk
              obtain ⟨v, qa, qb, qc⟩ := hc 0 (by decide)
              obtain ⟨v2, qa2, qb2, qc2⟩ := hc 1 (by decide)
              rw [show oo + kE * 2 + 0 = oo + kE * 2 from by omega] at qb qc
              have e4 : (0 : Int) ≤ (kE : Int) := by omega
              have e5 : (kE : Int) < (nw : Int) := by omega
              have HRK := Lib.hid hrkE
              have HKK := Lib.hid hkkE
              have HE1 := Lib.hid e1
              clear hrkE hkkE e1
              clear hc qa qa2
              go_wp2_with fail
              go_roundw
              case rel =>
                refine ⟨kE + 1, (xsE.set (kE * 2 + 0) (.int .i64 (-7))).set (kE * 2 + 1) (.int .i64 0), by omega, by go_num, ?_, (HKK.out.setCell (.inr HE1.out) _).setCell (.inr HE1.out) _⟩
                have h := (HRK.out.set (j := kE * 2 + 0) rfl (by omega) (.int .i64 (-7))).set (j := kE * 2 + 1) rfl (by omega) (.int .i64 0)
                rw [show oo + (kE * 2 + 0) = oo + kE * 2 from by omega, show oo + (kE * 2 + 1) = oo + kE * 2 + 1 from by omega] at h
                exact h
              case measure => simp [intOf]; omega
            · obtain rfl : nw = kE := by omega
              obtain ⟨wy, hwy⟩ : ∃ wy, wy = wr := ⟨_, rfl⟩
              subst hwy
              have HKY : Hid (Kept Fk wq wy) := Lib.hid (HKX.out.step hkkE fun j hj e => HFW_.out j e)
              have HRVY := Lib.hid (HRVX.out.of_kept (by decide) hkkE fun j e e' => HD.out j e e')
              have HRWY := Lib.hid hrkE
              clear hrkE
              clear hkkE
              go_wp2_with fail
              go_loopw [3, 4, 7] (fun ta tb t wr => ∃ (n : Nat) (ra : Option Nat) (Aa' : Option Addr) (ca' : Nat) (xa : List Value) (rb' : Option Nat) (Ab' : Option Addr) (cb' : Nat) (xb' : List Value), n ≤ 5 ∧ ta = .slice Aa' (nv + n) ca' ∧ tb = .slice Ab' (nw + n) cb' ∧ t = .int .i64 n ∧ Row wr 1 ra Aa' (nv + n) ca' xa ∧ Row wr 2 rb' Ab' (nw + n) cb' xb' ∧ (∀ j, ra = some j → Fk j ∨ wq.heap.size ≤ j) ∧ (∀ j, rb' = some j → Fk j ∨ wq.heap.size ≤ j) ∧ (∀ j, ra = some j → rb' ≠ some j) ∧ Kept Fk wq wr) (fun _ _ t _ => (5 - intOf t).toNat)
              case atStart => exact ⟨0, rv, Av, cv, _, rw_, Aw, cw, _, by omega, rfl, rfl, rfl, HRVY.out, HRWY.out, fun j e => .inl (HFV.out j e), fun j e => .inl (HFW_.out j e), HD.out, HKY.out⟩
              case round =>
                obtain ⟨m, ra, A7, c7, xa, rb', A8, c8, xb', hm, rfl, rfl, rfl, h1, h2, f1, f2, d1', hk7⟩ := hrel
                obtain ⟨wu, hwu⟩ : ∃ wu, wu = wr := ⟨_, rfl⟩
                subst hwu
                have kb1' := h1.bound
                have kb2' := h2.bound
                by_cases hln : m < 5
                · have hsu := hk7.size
                  have HU1 := Lib.hid h1
                  have HU2 := Lib.hid h2
                  have HN1 := Lib.hid f1
                  have HN2 := Lib.hid f2
                  have HD1 := Lib.hid d1'
                  have HUK := Lib.hid hk7
                  have HSU := Lib.hid hsu
                  clear h1 h2 f1 f2 d1' hk7 hsu
                  go_upto_region 17 with (at_builtin; refine wpList_append_one (cs := [.int .i64 (-8)]) tyVals rfl (.tmp 48) (.tmp 49) rfl rfl HU1.out rfl rfl rfl (by simp [Value.oneCell']) (by unfold maxLen; omega) (by omega) ?_; intro rx Ax cx wx hr hk hn; have HRx := Lib.hid hr; have HKx := Lib.hid hk; have HNx := Lib.hid hn; clear hr hk hn)
                  have HU2x := Lib.hid (HU2.out.of_kept (by decide) HKx.out fun j e e' => HD1.out j e' e)
                  go_wp2_with (at_builtin; refine wpList_append_one (cs := [.int .i64 (-8), .int .i64 0]) tyWaits rfl (.tmp 51) (.tmp 53) rfl rfl HU2x.out rfl rfl rfl (by simp [Value.oneCell']) (by unfold maxLen; omega) (by omega) ?_; intro rz Az cz wz hr hk hn; have HRz := Lib.hid hr; have HKz := Lib.hid hk; have HNz := Lib.hid hn; clear hr hk hn)
                  go_roundw
                  case rel =>
                    have l1 := HRx.out.lt (by decide)
                    have l3 := HU2.out.lt (by decide)
                    have s1 := HKx.out.size
                    have s3 := HSU.out
                    have n1 := HNx.out
                    have n3' := HNz.out
                    have q1 := HD1.out
                    refine ⟨m + 1, rx, Ax, cx, _, rz, Az, cz, _, by omega, rfl, rfl, by go_num, HRx.out.of_kept (by decide) HKz.out fun j e e' => ?_, HRz.out, fun j e => ?_, fun j e => ?_, fun j e e' => ?_, ?_⟩
                    · rcases n1 j e with h | h
                      · exact q1 j h e'
                      · have := l3 j e'; omega
                    · rcases n1 j e with h | h
                      · exact HN1.out j h
                      · exact .inr (by omega)
                    · rcases n3' j e with h | h
                      · exact HN2.out j h
                      · exact .inr (by omega)
                    · rcases n3' j e' with h | h
                      · rcases n1 j e with h2 | h2
                        · exact q1 j h2 h
                        · have := l3 j h; omega
                      · have := l1 j e; omega
                    · refine (HUK.out.step HKx.out fun j hj e => ?_).step HKz.out fun j hj e => ?_
                      · rcases HN1.out j e with h | h
                        · exact h
                        · omega
                      · rcases HN2.out j e with h | h
                        · exact h
                        · omega
                  case measure => simp [intOf]; omega
                · obtain rfl : m = 5 := by omega
                  have hng : ¬ Fk g3 := fun e => (HFK.out g3 e).2 rfl
                  have hce := fun j (hj : j < 4) => (show wu.cell? ⟨g3, o3 + k * 4 + j, none⟩ = _ ∧ wu.frozen? ⟨g3, o3 + k * 4 + j, none⟩ = false from ⟨(hk7.cell (p := ⟨g3, o3 + k * 4 + j, none⟩) HG3.out hng).trans (HC3.out j hj).1, (hk7.frozen (p := ⟨g3, o3 + k * 4 + j, none⟩) HG3.out hng).trans (HC3.out j hj).2⟩)
                  have x0 := (hce 0 (by decide)).1
                  have q0 := (hce 0 (by decide)).2
                  have x1 := (hce 1 (by decide)).1
                  have q1 := (hce 1 (by decide)).2
                  have x2 := (hce 2 (by decide)).1
                  have q2 := (hce 2 (by decide)).2
                  have x3 := (hce 3 (by decide)).1
                  have q3 := (hce 3 (by decide)).2
                  simp only [Nat.add_zero, List.getElem?_cons_zero, List.getElem?_cons_succ] at x0 x1 x2 x3 q0
                  have hou := HOUT3.out.kept hk7 fun j e => e.2
                  have HLI : Hid (k < Lq.length) := Lib.hid (by have := HQQ.out.len; omega)
                  have HOU := Lib.hid hou
                  have HKU := Lib.hid hk7
                  clear hou hk7
                  clear hce
                  go_wp2_with fail
                  go_roundw
                  case rel =>
                    have hset := HOU.out.setCells (O := tellO.or) (i := k) (x := .inr [.slice none 0 0, .slice none 0 0, .int .i64 (-7), .int .i64 0]) (Fx := fun _ => False) (by rw [List.length_set]; exact HLI.out) rfl ⟨rfl, rfl⟩ (fun _ h => h.elim)
                    exact ⟨k + 1, _, by omega, by go_num, hset.mono fun k e => e.elim (fun h => h.1) (fun h => h.elim), HFQ.out.set2 _ _, (HKK_.out.step HKU.out fun j hj e => (HFK.out j e).1).trans (Kept.setCells (G := F) [.slice none 0 0, .slice none 0 0, .int .i64 (-7), .int .i64 0] _ _ (Kept.refl _ _) (.inr HGF3.out))⟩
                  case measure => simp [intOf]; omega
    · obtain rfl : n = k := by omega
      obtain ⟨rc, xc, hrc, hfc⟩ := hq.row
      change Row wq 4 rc A n c xc at hrc
      have HRC := Lib.hid hrc
      have HFC := Lib.hid hfc
      have HKQ := Lib.hid hkk
      clear hrc hfc hkk
      clear hq hfq
      go_wp2_with fail
      go_loopw [0, 8] (fun q t wr => ∃ (m : Nat) (r : Option Nat) (A : Option Addr) (cc : Nat) (xs : List Value), m ≤ 5 ∧ q = .slice A (n + m) cc ∧ t = .int .i64 m ∧ Row wr 4 r A (n + m) cc xs ∧ (∀ j, r = some j → F j ∨ w.heap.size ≤ j) ∧ Kept F w wr) (fun _ t _ => (5 - intOf t).toNat)
      case atStart => exact ⟨0, rc, A, c, _, by omega, rfl, rfl, HRC.out, fun j e => .inl (HFC.out j e), HKQ.out⟩
      case round =>
        obtain ⟨m, r, A, cc, xs, hm, rfl, rfl, hr, hfr6, hk6⟩ := hrel
        obtain ⟨wu, hwu⟩ : ∃ wu, wu = wr := ⟨_, rfl⟩
        subst hwu
        have kb6 := hr.bound
        by_cases hln : m < 5
        · have hsu := hk6.size
          have HR6 := Lib.hid hr
          have HFR6 := Lib.hid hfr6
          have HK6 := Lib.hid hk6
          have HSU := Lib.hid hsu
          clear hr hfr6 hk6 hsu
          go_wp2_with (at_builtin; refine wpList_append_one (cs := [.slice none 0 0, .slice none 0 0, .int .i64 (-8), .int .i64 0]) tyLanes rfl (.tmp 63) (.tmp 65) rfl rfl HR6.out rfl rfl rfl (by simp [Value.oneCell']) (by unfold maxLen; omega) (by omega) ?_; intro r7 A7 c7 wz hr7 hk7 hn7; have HR7 := Lib.hid hr7; have HK7 := Lib.hid hk7; have HN7 := Lib.hid hn7; clear hr7 hk7 hn7)
          go_roundw
          case rel =>
            have s3 := HSU.out
            refine ⟨m + 1, r7, A7, c7, _, by omega, rfl, by go_num, HR7.out, fun j e => ?_, HK6.out.step HK7.out fun j hj e => ?_⟩
            · rcases HN7.out j e with h | h
              · exact HFR6.out j h
              · exact .inr (by omega)
            · rcases HFR6.out j e with h | h
              · exact h
              · omega
          case measure => simp [intOf]; omega
        · go_wp2_with fail
          go_end0
          exact ⟨rfl, hk6⟩
end
end Go.Proofs.Ytnfaafdgfafcjaa.Lane
