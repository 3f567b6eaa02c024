/- The walks of the reference's May, Lay (layer 9). -/
import Derived.Test.YtnfaafdgfafcjaaLaneF
namespace Go.Proofs.Ytnfaafdgfafcjaa.Lane
open Go.RowKit Go.Fb
set_option linter.unusedVariables false
theorem notin_take {l : List (Int × Int)} {i : Nat} {p : Int} (h : ∀ k (hk : k < l.length), k < i → l[k].1 ≠ p) : ¬ p ∈ (l.take i).map (·.1) := by
  intro hm
  obtain ⟨q, hq, e⟩ := List.mem_map.1 hm
  obtain ⟨k, hk, e2⟩ := List.mem_iff_getElem.1 hq
  rw [List.length_take] at hk
  rw [List.getElem_take] at e2
  exact h k (by omega) (by omega) (by rw [e2]; exact e)
theorem in_take {l : List (Int × Int)} {i k : Nat} (hk : k < l.length) (hi : k < i) : l[k].1 ∈ (l.take i).map (·.1) :=
  List.mem_map.2 ⟨l[k], List.mem_iff_getElem.2 ⟨k, by rw [List.length_take]; omega, by rw [List.getElem_take]⟩, rfl⟩
section
variable {w : World} {B : Nat} {Av : Option Addr} {cv : Nat} {Aw : Option Addr} {cw : Nat} {L : Lane}
set_option maxRecDepth 100000 in
set_option maxHeartbeats 4000000 in
theorem may_any (room : Int) (hv : SliceOf repV w B Av L.vals.length cv L.vals) (hw : SliceOf repW w B Aw L.waits.length cw L.waits) (hB : B ≤ w.heap.size) :
    Calls Try.prog 49 #[.int .i64 room, stC L Av cv Aw cw] w fun e w' => e = .returned (.bool (decide (MayL room L))) ∧ New w w' := by
  have hbv := hv.bound
  have hbw := hw.bound
  have HP := Lib.hid (fun W (hW : New w W) => (hw.kept hW hB fun _ _ h => h))
  have HMAY : Hid (MayL room L ↔ ((L.vals.length : Int) ≤ room ∧ (L.waits.length = 0 ∨ room ≤ (L.vals.length : Int)) ∧ (0 ≤ L.taken ∧ L.taken ≤ 65535) ∧ (0 ≤ L.dropped ∧ L.dropped ≤ 65535) ∧ dupB L.waits = false)) := Lib.hid Iff.rfl
  have HNO := Lib.hid (fun (h : ¬ MayL room L) => decide_eq_false h)
  have HYES := Lib.hid (fun (h : MayL room L) => decide_eq_true h)
  generalize decide (MayL room L) = res at *
  have hn1 : New w (w.alloc (.cells #[.slice Av L.vals.length cv, .slice Aw L.waits.length cw, .int .i64 L.taken, .int .i64 L.dropped] 29)) := (Kept.refl _ _).alloc _
  have hb1 := Blk.made w 29 #[.slice Av L.vals.length cv, .slice Aw L.waits.length cw, .int .i64 L.taken, .int .i64 L.dropped]
  unfold stC
  obtain ⟨nv, hnv⟩ : ∃ n, n = L.vals.length := ⟨_, rfl⟩
  obtain ⟨nw, hnw⟩ : ∃ n, n = L.waits.length := ⟨_, rfl⟩
  rw [← hnv] at hn1 hb1 hbv ⊢
  rw [← hnw] at hn1 hb1 hbw ⊢
  simp only [← hnv, ← hnw] at HP HMAY
  have HNV := Lib.hid hnv
  have HNW := Lib.hid hnw
  have HN1 := Lib.hid hn1
  have HB1 := Lib.hid hb1
  clear hnv hnw hn1 hb1
  clear hv hw
  go_enter Try.func49, Try.ntmps49
  go_upto_region 1 with (fail)
  generalize w.alloc (.cells #[.slice Av nv cv, .slice Aw nw cw, .int .i64 L.taken, .int .i64 L.dropped] 29) = w1 at *
  obtain ⟨b, hb⟩ : ∃ b, b = w.heap.size := ⟨_, rfl⟩
  rw [← hb] at HB1
  have e0 : w.heap.size = b := hb.symm
  rw [e0]
  clear hb e0
  have HX := Lib.hid (fun W (hk : New w1 W) => (show W.cell? ⟨b, 0, none⟩ = some (.slice Av nv cv) ∧ W.cell? ⟨b, 1, none⟩ = some (.slice Aw nw cw) ∧ W.cell? ⟨b, 2, none⟩ = some (.int .i64 L.taken) ∧ W.cell? ⟨b, 3, none⟩ = some (.int .i64 L.dropped) from ⟨(HB1.out.kept hk id).cell 0, (HB1.out.kept hk id).cell 1, (HB1.out.kept hk id).cell 2, (HB1.out.kept hk id).cell 3⟩))
  obtain ⟨z0, z1, z2, z3⟩ := HX.out w1 (Kept.refl _ _)
  by_cases k1 : room < (nv : Int)
  · have E := Lib.hid (HNO.out (fun h => by have := (HMAY.out.1 h).1; omega))
    go_wp2_with fail
    go_ret
    exact ⟨by rw [E.out]; simp [Array.getD], HN1.out⟩
  · have k1' : (nv : Int) ≤ room := by omega
    by_cases k2 : 0 < nw ∧ (nv : Int) < room
    · obtain ⟨k2, k3⟩ := k2
      have E := Lib.hid (HNO.out (fun h => by have := (HMAY.out.1 h).2.1; omega))
      go_wp2_with fail
      go_ret
      exact ⟨by rw [E.out]; simp [Array.getD], HN1.out⟩
    · have hcase : nw ≤ 0 ∨ (0 < nw ∧ room ≤ (nv : Int)) := by omega
      have K12 := Lib.hid (show (nv : Int) ≤ room ∧ (nw = 0 ∨ room ≤ (nv : Int)) from ⟨k1', by omega⟩)
      clear k2 k1
      have H5 : Hid (dupB L.waits = false → (L.taken < 0 ∧ res = false) ∨ ((0 ≤ L.taken ∧ 65535 < L.taken) ∧ res = false) ∨ ((0 ≤ L.taken ∧ L.taken ≤ 65535 ∧ L.dropped < 0) ∧ res = false) ∨ ((0 ≤ L.taken ∧ L.taken ≤ 65535 ∧ 0 ≤ L.dropped ∧ 65535 < L.dropped) ∧ res = false) ∨ ((0 ≤ L.taken ∧ L.taken ≤ 65535 ∧ 0 ≤ L.dropped ∧ L.dropped ≤ 65535) ∧ res = true)) := Lib.hid fun hdd => by
        by_cases a : L.taken < 0
        · exact .inl ⟨a, HNO.out (fun h => by have := (HMAY.out.1 h).2.2.1; omega)⟩
        · by_cases b : 65535 < L.taken
          · exact .inr (.inl ⟨⟨by omega, b⟩, HNO.out (fun h => by have := (HMAY.out.1 h).2.2.1; omega)⟩)
          · by_cases c : L.dropped < 0
            · exact .inr (.inr (.inl ⟨⟨by omega, by omega, c⟩, HNO.out (fun h => by have := (HMAY.out.1 h).2.2.2.1; omega)⟩))
            · by_cases d : 65535 < L.dropped
              · exact .inr (.inr (.inr (.inl ⟨⟨by omega, by omega, by omega, d⟩, HNO.out (fun h => by have := (HMAY.out.1 h).2.2.2.1; omega)⟩)))
              · exact .inr (.inr (.inr (.inr ⟨⟨by omega, by omega, by omega, by omega⟩, HYES.out (HMAY.out.2 ⟨K12.out.1, K12.out.2, ⟨by omega, by omega⟩, ⟨by omega, by omega⟩, hdd⟩)⟩)))
      rcases hcase with k2 | ⟨k2, k3⟩
      · go_wp2_with fail
        clear z0 z1 z2 z3
        go_loopw [5] (fun s wr => s = .int .i64 0 ∧ New w1 wr) (fun s _ => 0)
        case atStart => exact ⟨rfl, Kept.refl _ _⟩
        case round =>
          obtain ⟨rfl, hnr⟩ := hrel
          obtain ⟨z0, z1, z2, z3⟩ := HX.out wr hnr
          have HD := Lib.hid (dup_none (l := L.waits) (i := 0) (by have := HNW.out; omega) (by simp))
          have hc5 := H5.out HD.out
          have HNR := Lib.hid hnr
          clear hnr
          rcases hc5 with ⟨a, e⟩ | ⟨⟨a, b'⟩, e⟩ | ⟨⟨a, b', c⟩, e⟩ | ⟨⟨a, b', c, d⟩, e⟩ | ⟨⟨a, b', c, d⟩, e⟩
          all_goals
            have E := Lib.hid e
            clear e
            go_wp2_with fail
            go_ret
            exact ⟨by rw [E.out]; simp [Array.getD] <;> omega, HN1.out.trans HNR.out⟩
      · skip
        go_wp2_with fail
        clear z0 z1 z2 z3
        go_loopw [5] (fun s wr => ∃ i : Nat, i ≤ nw ∧ s = .int .i64 i ∧ New w1 wr ∧ Hid (((L.waits.take i).map (·.1)).Nodup)) (fun s _ => (nw - intOf s).toNat)
        case atStart => exact ⟨0, Nat.zero_le _, rfl, Kept.refl _ _, Lib.hid (by simp)⟩
        case round =>
          obtain ⟨i, hi, rfl, hnr, hnd⟩ := hrel
          obtain ⟨wo, rfl⟩ : ∃ wo, wo = wr := ⟨_, rfl⟩
          obtain ⟨z0, z1, z2, z3⟩ := HX.out wo hnr
          by_cases hlt : i < nw
          · have hil : i < L.waits.length := by rw [← HNW.out]; exact hlt
            have HHIT := Lib.hid (dup_hit (l := L.waits) hil)
            have HNX := Lib.hid (fun h => nodup_next (l := L.waits) hil h hnd.out)
            have i2 : (0 : Int) ≤ (i : Int) := by omega
            have i3 : (i : Int) < (nw : Int) := by omega
            have HNR := Lib.hid hnr
            clear hnr
            go_wp2_with fail
            clear z0 z1 z2 z3
            go_loopw [6] (fun s W => ∃ k : Nat, k ≤ i ∧ s = .int .i64 k ∧ New w1 W ∧ Hid (∀ k' (hk : k' < L.waits.length), k' < k → L.waits[k'].1 ≠ L.waits[i].1)) (fun s _ => (i - intOf s).toNat)
            case atStart => exact ⟨0, Nat.zero_le _, rfl, HNR.out, Lib.hid fun k' hk h => absurd h (Nat.not_lt_zero _)⟩
            case round =>
              obtain ⟨k, hk, rfl, hnr2, hne⟩ := hrel
              obtain ⟨z0, z1, z2, z3⟩ := HX.out wr hnr2
              by_cases hlk : k < i
              · have hkl : k < L.waits.length := by omega
                obtain ⟨g, o, rfl, hg, hc⟩ := waits_at (HP.out wr (HN1.out.trans hnr2)) (by omega)
                obtain ⟨x0, x1⟩ := hc k hkl
                obtain ⟨y0, y1⟩ := hc i hil
                have HIN := Lib.hid (in_take (l := L.waits) hkl hlk)
                have HNE := Lib.hid hne.out
                have HN2 := Lib.hid (fun (h : L.waits[k].1 ≠ L.waits[i].1) k' (hk' : k' < L.waits.length) (hl : k' < k + 1) => show L.waits[k'].1 ≠ L.waits[i].1 by
                  by_cases e : k' = k
                  · subst e; exact h
                  · exact HNE.out k' hk' (by omega))
                have HHT := Lib.hid (fun (e : L.waits[k].1 = L.waits[i].1) => HHIT.out (by rw [← e]; exact HIN.out))
                generalize hp1 : L.waits[k].1 = p at *
                generalize hp2 : L.waits[i].1 = q at *
                have j2 : (0 : Int) ≤ (k : Int) := by omega
                have j3 : (k : Int) < (nw : Int) := by omega
                have HNR2 := Lib.hid hnr2
                have HP2 := Lib.hid hp2
                clear hc hkl hg hne x1 y1 hnr2 hp1 hp2 HIN HNE
                by_cases he : p = q
                · have E := Lib.hid (HNO.out (fun h => by have := (HMAY.out.1 h).2.2.2.2; rw [HHT.out he] at this; cases this))
                  subst he
                  go_wp2_with fail
                  go_quiet (fail)
                  go_wp2_with fail
                  go_ret
                  exact ⟨by rw [E.out]; simp [Array.getD], HN1.out.trans (HNR2.out.drewN _)⟩
                · have H3 := Lib.hid (HN2.out he)
                  have he' : (p == q) = false := by simpa using he
                  clear he
                  go_wp2_with fail
                  go_quiet (fail)
                  go_wp2_with fail
                  go_roundw
                  case rel => exact ⟨k + 1, by omega, by go_num, HNR2.out.drewN _, Lib.hid H3.out⟩
                  case measure => simp [intOf]; omega
              · obtain rfl : k = i := by omega
                have H3 := Lib.hid (HNX.out (notin_take hne.out))
                have HNR2 := Lib.hid hnr2
                clear hnr2
                go_wp2_with fail
                go_roundw
                case rel => exact ⟨k + 1, by omega, by go_num, HNR2.out, H3⟩
                case measure => simp [intOf]; omega
          · obtain rfl : i = nw := by omega
            have HD := Lib.hid (dup_none HNW.out hnd.out)
            have hc5 := H5.out HD.out
            have HNR := Lib.hid hnr
            clear hnr
            rcases hc5 with ⟨a, e⟩ | ⟨⟨a, b'⟩, e⟩ | ⟨⟨a, b', c⟩, e⟩ | ⟨⟨a, b', c, d⟩, e⟩ | ⟨⟨a, b', c, d⟩, e⟩
            all_goals
              have E := Lib.hid e
              clear e
              go_wp2_with fail
              go_ret
              exact ⟨by rw [E.out]; simp [Array.getD] <;> omega, HN1.out.trans HNR.out⟩
end
end Go.Proofs.Ytnfaafdgfafcjaa.Lane
