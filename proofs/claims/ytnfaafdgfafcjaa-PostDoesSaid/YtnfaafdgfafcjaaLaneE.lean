/- The walk of package lane's Lay (layer 9). -/
import Derived.Test.YtnfaafdgfafcjaaLaneD
namespace Go.Proofs.Ytnfaafdgfafcjaa.Lane
open Go.RowKit Go.Fb
set_option linter.unusedVariables false
/-- May a lane of so much room stand so? -/
def MayL (room : Int) (L : Lane) : Prop := (L.vals.length : Int) ≤ room ∧ (L.waits.length = 0 ∨ room ≤ (L.vals.length : Int)) ∧ (0 ≤ L.taken ∧ L.taken ≤ 65535) ∧ (0 ≤ L.dropped ∧ L.dropped ≤ 65535) ∧ dupB L.waits = false
instance (room : Int) (L : Lane) : Decidable (MayL room L) := by unfold MayL; infer_instance
def layErr (room : Int) (L : Lane) : Int := if ¬ (1 ≤ room ∧ room ≤ 64) then 1 else if ¬ MayL room L then 4 else 0
theorem layErr_arg {room : Int} {L : Lane} (h : ¬ (1 ≤ room ∧ room ≤ 64)) : layErr room L = 1 := if_pos h
theorem layErr_form {room : Int} {L : Lane} (h1 : 1 ≤ room ∧ room ≤ 64) (h : ¬ MayL room L) : layErr room L = 4 := by unfold layErr; rw [if_neg (fun k => k h1), if_pos h]
theorem layErr_ok {room : Int} {L : Lane} (h1 : 1 ≤ room ∧ room ≤ 64) (h : MayL room L) : layErr room L = 0 := by unfold layErr; rw [if_neg (fun k => k h1), if_neg (fun k => k h)]
/-- What Lay gives. -/
def LayPost (T : TypeId) (w : World) (room : Int) (L : Lane) (e : Ending) (w' : World) : Prop := New w w' ∧ ((layErr room L = 0 ∧ ∃ b F, e = .returned (.tuple #[.pointer (some ⟨b, 0, none⟩), .int .i64 0]) ∧ AtT T w' b F { L with room := room } ∧ ∀ k, F k → w.heap.size ≤ k) ∨
  (layErr room L ≠ 0 ∧ e = .returned (.tuple #[.pointer none, .int .i64 (layErr room L)])))
theorem LayPost.bad {T : TypeId} {w w' : World} {room : Int} {L : Lane} {e : Ending} {x : Int} (hn : New w w') (hx : layErr room L = x) (h0 : x ≠ 0) (he : e = .returned (.tuple #[.pointer none, .int .i64 x])) : LayPost T w room L e w' :=
  ⟨hn, .inr ⟨by rw [hx]; exact h0, by rw [hx]; exact he⟩⟩
theorem kept_at {a W : World} {b : Nat} (h : Kept (fun k => k = b) a W) (i : Nat) (v : Value) : Kept (fun k => k = b) a (W.setCell ⟨b, i, none⟩ v) := h.setCell (p := ⟨b, i, none⟩) (.inr rfl) v
section
variable {w : World} {B : Nat} {Av : Option Addr} {cv : Nat} {Aw : Option Addr} {cw : Nat} {L : Lane}
set_option maxRecDepth 100000 in
set_option maxHeartbeats 4000000 in
theorem lay_any (room : Int) (hv : SliceOf repV w B Av L.vals.length cv L.vals) (hw : SliceOf repW w B Aw L.waits.length cw L.waits) (hB : B ≤ w.heap.size) (hwf : ∀ q ∈ L.waits, (Lit.int .i64 q.1).wf = true) (hlv : L.vals.length ≤ 8000000000000) (hlw : L.waits.length ≤ 8000000000000) :
    Calls Try.prog 20 #[.int .i64 room, stC L Av cv Aw cw] w (LayPost 87 w room L) := by
  have hn0 : New w (w.alloc (.cells #[.slice Av L.vals.length cv, .slice Aw L.waits.length cw, .int .i64 L.taken, .int .i64 L.dropped] 29)) := (Kept.refl _ _).alloc _
  have hb0 := Blk.made w 29 #[.slice Av L.vals.length cv, .slice Aw L.waits.length cw, .int .i64 L.taken, .int .i64 L.dropped]
  have hbv := hv.bound
  have hbw := hw.bound
  have hnew := new_any room (w.alloc (.cells #[.slice Av L.vals.length cv, .slice Aw L.waits.length cw, .int .i64 L.taken, .int .i64 L.dropped] 29))
  have HARG := Lib.hid (layErr_arg (room := room) (L := L))
  have HFORM := Lib.hid (layErr_form (room := room) (L := L))
  have HOK := Lib.hid (layErr_ok (room := room) (L := L))
  have HMAY : Hid (MayL room L ↔ ((L.vals.length : Int) ≤ room ∧ (L.waits.length = 0 ∨ room ≤ (L.vals.length : Int)) ∧ (0 ≤ L.taken ∧ L.taken ≤ 65535) ∧ (0 ≤ L.dropped ∧ L.dropped ≤ 65535) ∧ dupB L.waits = false)) := Lib.hid Iff.rfl
  have HTW := Lib.hid (fun W (hW : New w W) => twice_any (w := W) (hw.kept hW hB fun _ _ h => h) (Nat.le_trans hB hW.size) hwf hlw)
  have HCV := Lib.hid (fun W (hk : New w W) => clone_vals (w := W) (hv.kept hk hB fun _ _ h => h) (Nat.le_trans hB hk.size) hlv)
  have HCW := Lib.hid (fun W (hk : New w W) => clone_waits (w := W) (hw.kept hk hB fun _ _ h => h) (Nat.le_trans hB hk.size) hlw)
  unfold stC
  obtain ⟨nv, hnv⟩ : ∃ n, n = L.vals.length := ⟨_, rfl⟩
  obtain ⟨nw, hnw⟩ : ∃ n, n = L.waits.length := ⟨_, rfl⟩
  rw [← hnv] at hn0 hb0 hbv hlv hnew ⊢
  rw [← hnw] at hn0 hb0 hbw hlw hnew ⊢
  simp only [← hnv, ← hnw] at HTW HCV HCW HMAY
  have HWT := Lib.hid (fun W => within_any L.taken 0 65535 W)
  have HWD := Lib.hid (fun W => within_any L.dropped 0 65535 W)
  have HN0 := Lib.hid hn0
  have HB0 := Lib.hid hb0
  have HNV := Lib.hid hnv
  have HNW := Lib.hid hnw
  have HNEW := Lib.hid hnew
  have HWF := Lib.hid hwf
  clear hn0 hb0 hnv hnw hnew hwf
  clear hv hw
  go_enter Try.func20, Try.ntmps20
  go_wp2_with fail
  refine HNEW.out.mono ?_
  rintro e w2 ⟨hn2, hr2⟩
  have hb2 := HB0.out.kept hn2 id
  have hm2 := HN0.out.trans hn2
  clear hn2
  generalize w.alloc (.cells #[.slice Av nv cv, .slice Aw nw cw, .int .i64 L.taken, .int .i64 L.dropped] 29) = w1 at *
  rcases hr2 with ⟨g1, g2, rfl, hat⟩ | ⟨g1, rfl⟩
  · have hgr : 1 ≤ room ∧ room ≤ 64 := ⟨g1, g2⟩
    have HBAD := Lib.hid (fun h => HFORM.out hgr h)
    have HGOOD := Lib.hid (fun h => HOK.out hgr h)
    have z0 := hb2.cell 0
    have z1 := hb2.cell 1
    have z2 := hb2.cell 2
    have z3 := hb2.cell 3
    simp only [List.getElem?_toArray, List.getElem?_cons_zero, List.getElem?_cons_succ] at z0 z1 z2 z3
    generalize hbl : w1.heap.size = b at *
    have HGR := Lib.hid hgr
    have HAT := Lib.hid hat
    have HM2 := Lib.hid hm2
    have HB2 := Lib.hid hb2
    have HBL := Lib.hid hbl
    clear hgr hat hm2 hb2 hbl
    by_cases k1 : room < (nv : Int)
    · have E := Lib.hid (HBAD.out (fun h => by have := (HMAY.out.1 h).1; omega))
      go_wp2_with fail
      go_ret2
      exact LayPost.bad HM2.out E.out (by decide) rfl
    · have k1' : (nv : Int) ≤ room := by omega
      by_cases k2 : 0 < nw ∧ (nv : Int) < room
      · obtain ⟨k2, k3⟩ := k2
        have E := Lib.hid (HBAD.out (fun h => by have := (HMAY.out.1 h).2.1; omega))
        go_wp2_with fail
        go_ret2
        exact LayPost.bad HM2.out E.out (by decide) rfl
      · have hcase : nw = 0 ∨ (0 < nw ∧ room ≤ (nv : Int)) := by omega
        have K12 := Lib.hid (And.intro k1' hcase)
        have ht : (decide (0 ≤ L.taken) && decide (L.taken ≤ 65535)) = decide (0 ≤ L.taken ∧ L.taken ≤ 65535) := by rw [Bool.decide_and]
        have hd : (decide (0 ≤ L.dropped) && decide (L.dropped ≤ 65535)) = decide (0 ≤ L.dropped ∧ L.dropped ≤ 65535) := by rw [Bool.decide_and]
        rw [ht] at HWT
        rw [hd] at HWD
        clear k2 ht hd
        by_cases kt : 0 ≤ L.taken ∧ L.taken ≤ 65535
        · rw [decide_eq_true kt] at HWT
          by_cases kd : 0 ≤ L.dropped ∧ L.dropped ≤ 65535
          · rw [decide_eq_true kd] at HWD
            by_cases kw : dupB L.waits = true
            · have E := Lib.hid (HBAD.out (fun h => by have := (HMAY.out.1 h).2.2.2.2; rw [kw] at this; cases this))
              rw [kw] at HTW
              clear kt kd kw
              rcases hcase with rfl | ⟨k2, k3⟩
              all_goals
                go_wp2_with fail
                refine (HWT.out _).mono ?_
                rintro e w' ⟨rfl, rfl⟩
                go_wp2_with fail
                refine (HWD.out _).mono ?_
                rintro e w' ⟨rfl, rfl⟩
                go_wp2_with fail
                refine (HTW.out _ HM2.out).mono ?_
                rintro e w3 ⟨rfl, hm3⟩
                have HM3 := Lib.hid hm3
                clear hm3
                go_wp2_with fail
                go_ret2
                exact LayPost.bad (HM2.out.trans HM3.out) E.out (by decide) rfl
            · have kw' : dupB L.waits = false := by simpa using kw
              have E := Lib.hid (HGOOD.out (HMAY.out.2 ⟨K12.out.1, by rcases hcase with h | h; exact .inl h; exact .inr h.2, kt, kd, kw'⟩))
              rw [kw'] at HTW
              clear kt kd kw kw'
              have hcase : nw ≤ 0 ∨ (0 < nw ∧ room ≤ (nv : Int)) := by omega
              rcases hcase with h0 | ⟨k2, k3⟩
              all_goals
                go_wp2_with fail
                refine (HWT.out _).mono ?_
                rintro e w' ⟨rfl, rfl⟩
                go_wp2_with fail
                refine (HWD.out _).mono ?_
                rintro e w' ⟨rfl, rfl⟩
                go_wp2_with fail
                refine (HTW.out _ HM2.out).mono ?_
                rintro e w3 ⟨rfl, hm3⟩
                have HM3 := Lib.hid hm3
                clear hm3
                go_upto_region 6 with (fail)
                have hat3 := HAT.out.new HM3.out
                obtain ⟨⟨rv0, Av0, cv0, rw0, Aw0, cw0, hp0, -, -⟩, -, -⟩ := hat3
                have hbl3 := hp0.blk
                have hb3 := HB2.out.kept HM3.out id
                have hne : ¬ w.heap.size = b := by have := HB0.out.lt; have := HBL.out; omega
                have HS0 : Hid (∀ W, Kept (fun k => k = b) w3 W → (W.cell? ⟨w.heap.size, 0, none⟩ = some (.slice Av nv cv) ∧ W.cell? ⟨w.heap.size, 1, none⟩ = some (.slice Aw nw cw))) := Lib.hid fun W hk => ⟨(hb3.kept hk hne).cell 0, (hb3.kept hk hne).cell 1⟩
                have HS := Lib.hid (fun W (hk : New w3 W) => HS0.out W (hk.mono fun _ _ h => h.elim))
                have HS1 := Lib.hid (fun W (i : Nat) v (hk : New w3 W) => HS0.out (W.setCell ⟨b, i, none⟩ v) (kept_at (hk.mono fun _ _ h => h.elim) i v))
                have HS2 := Lib.hid (fun W (i : Nat) v (j : Nat) u (hk : New w3 W) => HS0.out ((W.setCell ⟨b, i, none⟩ v).setCell ⟨b, j, none⟩ u) (kept_at (kept_at (hk.mono fun _ _ h => h.elim) i v) j u))
                have HC5 : Hid (∀ W, New w3 W → Calls Try.prog 44 #[.slice Av nv cv] W fun e w' => ∃ r' A' c', e = Ending.returned (.slice A' nv c') ∧ Hid (Row w' 1 r' A' nv c' (L.vals.map (Value.int .i64)) ∧ (∀ k, r' = some k → W.heap.size ≤ k) ∧ New W w') ∧ New w3 w') := Lib.hid fun W hk => (HCV.out W (HM2.out.trans (HM3.out.trans hk))).mono fun e w' ⟨r', A', c', e1, e2, e3, e4⟩ => ⟨r', A', c', e1, Lib.hid ⟨e2, e3, e4⟩, hk.trans e4⟩
                have HC6 : Hid (∀ W, New w3 W → Calls Try.prog 45 #[.slice Aw nw cw] W fun e w' => ∃ r' A' c', e = Ending.returned (.slice A' nw c') ∧ Hid (Row w' 2 r' A' nw c' (L.waits.flatMap cellsW) ∧ (∀ k, r' = some k → W.heap.size ≤ k) ∧ New W w') ∧ New w3 w') := Lib.hid fun W hk => (HCW.out W (HM2.out.trans (HM3.out.trans hk))).mono fun e w' ⟨r', A', c', e1, e2, e3, e4⟩ => ⟨r', A', c', e1, Lib.hid ⟨e2, e3, e4⟩, hk.trans e4⟩
                have HZW : Hid (∀ W, New w3 W → (W.cell? ⟨b, 1, none⟩ = some (.slice Av0 0 cv0) ∧ W.cell? ⟨b, 2, none⟩ = some (.slice Aw0 0 cw0)) ∧ ∀ i, W.frozen? ⟨b, i, none⟩ = false) := Lib.hid fun W hk => ⟨⟨(hbl3.kept hk id).cell 1, (hbl3.kept hk id).cell 2⟩, (hbl3.kept hk id).free⟩
                obtain ⟨s0, s1⟩ := HS.out w3 (Kept.refl _ _)
                have HBL3 := Lib.hid hbl3
                have HB3 := Lib.hid hb3
                have HNE := Lib.hid hne
                clear hbl3 hb3 hne
                clear hp0 z0 z1 z2 z3 HS0
                go_region_held3 (fun W => W.cell? ⟨w.heap.size, 0, none⟩ = some (.slice Av nv cv) ∧ W.cell? ⟨w.heap.size, 1, none⟩ = some (.slice Aw nw cw)) (first | ((with_reducible refine HS2.out _ _ _ _ _ ?_); with_reducible assumption) | ((with_reducible refine HS1.out _ _ _ ?_); with_reducible assumption) | ((with_reducible refine HS.out _ ?_); with_reducible assumption) | (with_reducible exact HS.out _ (Kept.refl _ _).drew)) (first | (go_at_call 44; refine (HC5.out _ (by first | assumption | exact (Kept.refl _ _).drew)).mono ?_; rintro e w5 ⟨r5, A5, c5, rfl, X5, hw5⟩; obtain ⟨⟨y1, y2⟩, yf⟩ := HZW.out w5 hw5) | (go_at_call 45; refine (HC6.out _ (by first | assumption | exact (Kept.refl _ _).drew)).mono ?_; rintro e w6 ⟨r6, A6, c6, rfl, X6, hw6⟩; obtain ⟨⟨y1, y2⟩, yf⟩ := HZW.out w6 hw6))
                obtain ⟨q1, q2, q3⟩ := X5.out
                obtain ⟨q4, q5, q6⟩ := X6.out
                have hb7 := ((HBL3.out.kept hw6 id).set (i := 1) (.slice A5 nv c5)).set (i := 2) (.slice A6 nw c6)
                have hk7 := kept_at (kept_at (Kept.refl (fun k => k = b) w6) 1 (.slice A5 nv c5)) 2 (.slice A6 nw c6)
                have ha7 := (HB3.out.kept hw6 id).kept hk7 HNE.out
                generalize (w6.setCell ⟨b, 1, none⟩ (.slice A5 nv c5)).setCell ⟨b, 2, none⟩ (.slice A6 nw c6) = w7 at *
                have v2 := ha7.cell 2
                have v3 := ha7.cell 3
                have u3 := hb7.cell 3
                have u4 := hb7.cell 4
                have uf := hb7.free
                simp [laneC] at v2 v3 u3 u4
                have HA0 : Hid (∀ W, Kept (fun k => k = b) w7 W → (W.cell? ⟨w.heap.size, 2, none⟩ = some (.int .i64 L.taken) ∧ W.cell? ⟨w.heap.size, 3, none⟩ = some (.int .i64 L.dropped))) := Lib.hid fun W hk => ⟨(ha7.kept hk HNE.out).cell 2, (ha7.kept hk HNE.out).cell 3⟩
                have HA := Lib.hid (HA0.out w7.drew ((Kept.refl (fun k => k = b) w7).drew))
                have HA1 := Lib.hid (fun (i : Nat) v => HA0.out (w7.setCell ⟨b, i, none⟩ v).drew (kept_at (Kept.refl (fun k => k = b) w7) i v).drew)
                have HA2 := Lib.hid (fun (i : Nat) v (j : Nat) u => HA0.out ((w7.setCell ⟨b, i, none⟩ v).setCell ⟨b, j, none⟩ u).drew (kept_at (kept_at (Kept.refl (fun k => k = b) w7) i v) j u).drew)
                have hn7 : Kept (fun k => k = b) w3 w7 := (hw6.mono fun _ _ h => h.elim).trans hk7
                have l5 := q1.lt (by decide)
                have r5' := (q1.new (by decide) q6).of_kept (by decide) hk7 (fun k e e' => by have := q2 k e; have := HBL3.out.lt; have e2 : w3.drew.heap.size = w3.heap.size := rfl; omega)
                have r6' := q4.of_kept (by decide) hk7 (fun k e e' => by have := q5 k e; have := HBL3.out.lt; have := hw5.size; omega)
                have HF5 : Hid (∀ k, r5 = some k → w3.heap.size ≤ k ∧ k < w5.heap.size) := Lib.hid fun k e => ⟨q2 k e, l5 k e⟩
                have HF6 : Hid (∀ k, r6 = some k → w5.heap.size ≤ k) := Lib.hid q5
                have HW5 := Lib.hid hw5.size
                have HB7 := Lib.hid hb7
                have HK7 := Lib.hid hk7
                have HA7 := Lib.hid ha7
                have HN7 := Lib.hid hn7
                have HR5 := Lib.hid r5'
                have HR6 := Lib.hid r6'
                clear hb7 hk7 ha7 hn7 r5' r6'
                clear HA0 s0 s1 X5 X6 hw6 hw5 q1 q2 q3 q4 q5 q6 l5 HS HS1 HS2 HC5 HC6 HZW
                go_upto_region 7 with (fail)
                go_region_held3 (fun W => W.cell? ⟨w.heap.size, 2, none⟩ = some (.int .i64 L.taken) ∧ W.cell? ⟨w.heap.size, 3, none⟩ = some (.int .i64 L.dropped)) (first | (with_reducible exact HA2.out _ _ _ _) | (with_reducible exact HA1.out _ _) | (with_reducible exact HA.out) | fail) (fail)
                have hb8 := (HB7.out.set (i := 3) (.int .i64 L.taken)).set (i := 4) (.int .i64 L.dropped)
                have hk8 : Kept (fun k => k = b) w7 (((w7.setCell ⟨b, 3, none⟩ (.int .i64 L.taken)).setCell ⟨b, 4, none⟩ (.int .i64 L.dropped)).drew) := (kept_at (kept_at (Kept.refl (fun k => k = b) w7) 3 (.int .i64 L.taken)) 4 (.int .i64 L.dropped)).drew
                have hb9 : Blk (((w7.setCell ⟨b, 3, none⟩ (.int .i64 L.taken)).setCell ⟨b, 4, none⟩ (.int .i64 L.dropped)).drew) b _ _ := hb8.kept (Kept.drew (Kept.refl (fun _ => False) _)) id
                generalize ((w7.setCell ⟨b, 3, none⟩ (.int .i64 L.taken)).setCell ⟨b, 4, none⟩ (.int .i64 L.dropped)).drew = w8 at *
                have HB9 := Lib.hid hb9
                have HK8 := Lib.hid hk8
                clear hb9 hk8
                go_wp2_with fail
                go_ret2
                have hbb := HB7.out.lt
                have hbz : w3.heap.size > b := HBL3.out.lt
                have hn8 : Kept (fun k => k = b) w3 w8 := HN7.out.trans HK8.out
                have hw1 : w.heap.size ≤ b := by have := HB0.out.lt; have := HBL.out; omega
                have hn3 : New w w3 := HM2.out.trans HM3.out
                refine ⟨hn3.step hn8 fun k hk e => by omega, .inl ⟨E.out, b, fun k => k = b ∨ r5 = some k ∨ r6 = some k, rfl, ⟨⟨r5, A5, c5, r6, A6, c6, ⟨?_, ?_, ?_, ?_, ?_, ?_⟩, fun k e => .inr (.inl e), fun k e => .inr (.inr e)⟩, .inl rfl, ?_⟩, ?_⟩⟩
                · have := HB9.out
                  simpa [laneC, empty, HNV.out, HNW.out] using this
                · have := HR5.out.of_kept (by decide) HK8.out (fun k e e' => by have := HF5.out k e; omega)
                  rw [HNV.out] at this; exact this
                · have := HR6.out.of_kept (by decide) HK8.out (fun k e e' => by have := HF6.out k e; have := HW5.out; omega)
                  rw [HNW.out] at this; exact this
                · exact fun e => by have := HF5.out _ e; omega
                · exact fun e => by have := HF6.out _ e; have := HW5.out; omega
                · exact fun k e e' => by have := HF5.out k e; have := HF6.out k e'; omega
                · rintro k (rfl | e | e)
                  · have := hn8.size; omega
                  · exact Nat.lt_of_lt_of_le (HR5.out.lt (by decide) k e) HK8.out.size
                  · exact Nat.lt_of_lt_of_le (HR6.out.lt (by decide) k e) HK8.out.size
                · have := hn3.size
                  rintro k (rfl | e | e)
                  · exact hw1
                  · have := HF5.out k e; omega
                  · have := HF6.out k e; have := HW5.out; omega
          · have E := Lib.hid (HBAD.out (fun h => kd (HMAY.out.1 h).2.2.2.1))
            rw [decide_eq_false kd] at HWD
            clear kt kd
            rcases hcase with rfl | ⟨k2, k3⟩
            all_goals
              go_wp2_with fail
              refine (HWT.out _).mono ?_
              rintro e w' ⟨rfl, rfl⟩
              go_wp2_with fail
              refine (HWD.out _).mono ?_
              rintro e w' ⟨rfl, rfl⟩
              go_wp2_with fail
              go_ret2
              exact LayPost.bad HM2.out E.out (by decide) rfl
        · have E := Lib.hid (HBAD.out (fun h => kt (HMAY.out.1 h).2.2.1))
          rw [decide_eq_false kt] at HWT
          clear kt
          rcases hcase with rfl | ⟨k2, k3⟩
          all_goals
            go_wp2_with fail
            refine (HWT.out _).mono ?_
            rintro e w' ⟨rfl, rfl⟩
            go_wp2_with fail
            go_ret2
            exact LayPost.bad HM2.out E.out (by decide) rfl
  · have E := Lib.hid (HARG.out g1)
    have HM2 := Lib.hid hm2
    have HB2 := Lib.hid hb2
    clear hm2 hb2
    clear g1
    go_wp2_with fail
    go_ret2
    exact LayPost.bad HM2.out E.out (by decide) rfl
end
end Go.Proofs.Ytnfaafdgfafcjaa.Lane
