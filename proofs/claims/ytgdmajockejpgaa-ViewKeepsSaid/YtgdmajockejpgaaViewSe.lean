/- The walk of the reference's Of (layer 18). -/
import Derived.Test.YtgdmajockejpgaaViewT
import Derived.Test.YtgdmajockejpgaaORepB
namespace Go.Proofs.Ytgdmajockejpgaa.View
open Go.RowKit Go.Fb
set_option linter.unusedVariables false
/-- The cells of the things so far: those that are seen as they stand, zero ones in place of the others. -/
def Css {α : Type} (R : Rep α) (w : World) (B : Nat) (z : α) (zc : List Value) (l : List α) (is : Nat → Bool) (i : Nat) (css : List (List Value)) : Prop :=
  css.length = i ∧ ∀ j (h : j < l.length) (h2 : j < css.length), if is j = true then R.cells w B l[j] css[j] else css[j] = zc
theorem Css.push {α : Type} {R : Rep α} {w : World} {B : Nat} {z : α} {zc : List Value} {l : List α} {is : Nat → Bool} {i : Nat} {css : List (List Value)} (h : Css R w B z zc l is i css) (hi : i < l.length) {cs : List Value} (hc : if is i = true then R.cells w B l[i] cs else cs = zc) : Css R w B z zc l is (i + 1) (css ++ [cs]) := by
  obtain ⟨h1, h2⟩ := h
  refine ⟨by simp [h1], fun j hj hj2 => ?_⟩
  by_cases e : j < css.length
  · rw [List.getElem_append_left e]; exact h2 j hj e
  · have : j = i := by simp at hj2; omega
    subst this
    rw [List.getElem_append_right (by omega)]
    simpa using hc
theorem Css.slice {α : Type} {R : Rep α} {w W : World} {B : Nat} {z : α} {zc : List Value} {l : List α} {is : Nat → Bool} {css : List (List Value)} {r : Option Nat} {A : Option Addr} {n cc : Nat} (h : Css R w B z zc l is l.length css) (hr : Row W R.size r A n cc css.flatten) (hs : 0 < R.size) (hn : n = l.length) (hB : B ≤ w.heap.size) (hW : New w W)
    (hz : R.cells W W.heap.size z zc) : SliceOf R W W.heap.size A n cc (upTo z l is l.length) := by
  obtain ⟨h1, h2⟩ := h
  have hel : ∀ j (hj : j < l.length), R.cells W W.heap.size ((upTo z l is l.length)[j]'(by rw [upTo_len]; exact hj)) (css[j]'(by omega)) := fun j hj => by
    have h3 := h2 j hj (by omega)
    simp only [upTo, List.getElem_map, List.getElem_range, hj, true_and]
    by_cases hi : is j = true
    · rw [if_pos hi] at h3
      rw [if_pos hi, getD_at _ _ _ hj]
      exact R.more (Nat.le_trans hB hW.size) (R.stays (fun p hp => hW.cell (Nat.lt_of_lt_of_le hp hB) id) h3)
    · rw [if_neg hi] at h3
      rw [if_neg hi, h3]
      exact hz
  have hlen : ∀ x ∈ css, (id x).length = R.size := fun x hx => by
    obtain ⟨j, hj, rfl⟩ := List.mem_iff_getElem.1 hx
    exact R.length (hel j (by omega))
  refine ⟨by rw [upTo_len]; exact hn, hr.le, hr.max, ?_⟩
  by_cases h0 : n = 0
  · exact .inl h0
  · obtain ⟨g, o, e1, e2, h5, h6⟩ := hr.at_pos (by have := hr.le; omega)
    refine .inr ⟨g, o, e2, hr.lt hs g e1, fun i hi => ?_⟩
    rw [upTo_len] at hi
    refine ⟨css[i]'(by omega), fun j hj => ?_, hel i hi⟩
    have hf := flatMap_get (f := id) css hlen i (by omega) j hj
    rw [Nat.add_assoc, h5 _ (by
      have : i * R.size + R.size ≤ n * R.size := by rw [← Nat.succ_mul]; exact Nat.mul_le_mul_right _ (by omega)
      omega)]
    simpa [List.flatMap_id] using hf
set_option maxHeartbeats 8000000 in
set_option maxRecDepth 100000 in
theorem rof_any {w : World} {B : Nat} {c : Config} {s : State} {v0 v1 v2 v3 v4 v5 v6 s0 s1 s2 : Value} (h : repConf.cells w B c [v0, v1, v2, v3, v4, v5, v6]) (hs : repState.cells w B s [s0, s1, s2]) (hB : B ≤ w.heap.size) (a : Int) (hwa : wfU a) (hf : Few s) :
    Calls Try.prog 10 #[.agg #[v0, v1, v2, v3, v4, v5, v6], .agg #[s0, s1, s2], .int .u64 a] w fun e w' => ∃ A1 n1 c1 A2 n2 c2, e = .returned (.agg #[.int .i64 s.tick, .slice A1 n1 c1, .slice A2 n2 c2]) ∧ repState.cells w' w'.heap.size (ofS c s a) [.int .i64 s.tick, .slice A1 n1 c1, .slice A2 n2 c2] ∧ New w w' := by
  have HPT := Lib.hid fun W (hW : New w W) i => rpart_any (repConf.stays (fun p hp => hW.cell (Nat.lt_of_lt_of_le hp hB) id) h) (Nat.le_trans hB hW.size) i a hwa
  have HSE := Lib.hid fun W (hW : New w W) i => rsees_any (repConf.stays (fun p hp => hW.cell (Nat.lt_of_lt_of_le hp hB) id) h) (Nat.le_trans hB hW.size) i a hwa
  obtain ⟨Al, nl, cl, u1, u2, u3, u4, u5, Ap, np, cp, e, ho, hl, hp⟩ := h
  simp only [List.cons.injEq, and_true] at e
  obtain ⟨rfl, rfl, rfl, rfl, rfl, rfl, rfl⟩ := e
  obtain ⟨o1, o2, o3, o4, o5⟩ := ho
  obtain ⟨Aa, na, ca, Ab, nb, cb, e, ha, hb⟩ := hs
  simp only [List.cons.injEq, and_true] at e
  obtain ⟨rfl, rfl, rfl⟩ := e
  have hna := ha.len
  have hnb := hb.len
  have hna2 : na ≤ 1048576 := by have := hf.parts; omega
  have hnb2 : nb ≤ 1048576 := by have := hf.procs; omega
  have ka := ha.bound
  have kb := hb.bound
  have RA := Lib.hid (sl_here ha hB)
  have RB := Lib.hid (sl_here hb hB)
  have b0 : Blk ((((w.alloc (.cells #[.slice Al nl cl, v1, v2, v3, v4, v5, .slice Ap np cp] 26)).alloc (.cells #[.int .i64 s.tick, .slice Aa na ca, .slice Ab nb cb] 30)).alloc (.cells #[.int .i64 0, .slice none 0 0, .slice none 0 0] 30)).alloc (.cells #[.int .i64 s.tick, .slice none 0 0, .slice none 0 0] 30)) w.heap.size 26 #[.slice Al nl cl, v1, v2, v3, v4, v5, .slice Ap np cp] := (((Blk.made _ _ _).alloc _).alloc _).alloc _
  have b1 : Blk ((((w.alloc (.cells #[.slice Al nl cl, v1, v2, v3, v4, v5, .slice Ap np cp] 26)).alloc (.cells #[.int .i64 s.tick, .slice Aa na ca, .slice Ab nb cb] 30)).alloc (.cells #[.int .i64 0, .slice none 0 0, .slice none 0 0] 30)).alloc (.cells #[.int .i64 s.tick, .slice none 0 0, .slice none 0 0] 30)) (w.heap.size + 1) 30 #[.int .i64 s.tick, .slice Aa na ca, .slice Ab nb cb] := ((Blk.made_at _ _ _ _ (by simp)).alloc _).alloc _
  have b2 : Blk ((((w.alloc (.cells #[.slice Al nl cl, v1, v2, v3, v4, v5, .slice Ap np cp] 26)).alloc (.cells #[.int .i64 s.tick, .slice Aa na ca, .slice Ab nb cb] 30)).alloc (.cells #[.int .i64 0, .slice none 0 0, .slice none 0 0] 30)).alloc (.cells #[.int .i64 s.tick, .slice none 0 0, .slice none 0 0] 30)) (w.heap.size + 2) 30 #[.int .i64 0, .slice none 0 0, .slice none 0 0] := (Blk.made_at _ _ _ _ (by simp)).alloc _
  have b3 : Blk ((((w.alloc (.cells #[.slice Al nl cl, v1, v2, v3, v4, v5, .slice Ap np cp] 26)).alloc (.cells #[.int .i64 s.tick, .slice Aa na ca, .slice Ab nb cb] 30)).alloc (.cells #[.int .i64 0, .slice none 0 0, .slice none 0 0] 30)).alloc (.cells #[.int .i64 s.tick, .slice none 0 0, .slice none 0 0] 30)) (w.heap.size + 3) 30 #[.int .i64 s.tick, .slice none 0 0, .slice none 0 0] := Blk.made_at _ _ _ _ (by simp)
  have hn : New w ((((w.alloc (.cells #[.slice Al nl cl, v1, v2, v3, v4, v5, .slice Ap np cp] 26)).alloc (.cells #[.int .i64 s.tick, .slice Aa na ca, .slice Ab nb cb] 30)).alloc (.cells #[.int .i64 0, .slice none 0 0, .slice none 0 0] 30)).alloc (.cells #[.int .i64 s.tick, .slice none 0 0, .slice none 0 0] 30)) := ((((Kept.refl _ _).alloc _).alloc _).alloc _).alloc _
  clear ha hb hl hp
  have B0 := Lib.hid b0
  have B1 := Lib.hid b1
  have B2 := Lib.hid b2
  have B3 := Lib.hid b3
  have HN := Lib.hid hn
  have HNA := Lib.hid hna
  have HNB := Lib.hid hnb
  have HF := Lib.hid hf
  have HWA := Lib.hid hwa
  clear b0 b1 b2 b3 hn hna hnb hf hwa
  go_enter Try.func10, Try.ntmps10
  go_upto_region 2 with (fail)
  generalize (((w.alloc (.cells #[.slice Al nl cl, v1, v2, v3, v4, v5, .slice Ap np cp] 26)).alloc (.cells #[.int .i64 s.tick, .slice Aa na ca, .slice Ab nb cb] 30)).alloc (.cells #[.int .i64 0, .slice none 0 0, .slice none 0 0] 30)).alloc (.cells #[.int .i64 s.tick, .slice none 0 0, .slice none 0 0] 30) = w1 at *
  have hb3l := B3.out.lt
  have HBW : Hid (w.heap.size + 3 < w1.heap.size) := Lib.hid hb3l
  clear hb3l
  generalize hbw : w.heap.size = b at *
  have HBE : Hid (w.heap.size = b) := Lib.hid hbw
  have hB' : B ≤ w.heap.size := by rw [hbw]; exact hB
  clear hbw
  have z1 := B1.out.cell 1
  have z2 := B1.out.cell 2
  simp only [List.getElem?_toArray, List.getElem?_cons_zero, List.getElem?_cons_succ] at z1 z2
  go_wp2_with fail
  go_loopw [8] (fun t wr => ∃ (i : Nat) (r : Option Nat) (A : Option Addr) (cc : Nat) (css : List (List Value)), i ≤ na ∧ t = .int .i64 i ∧ Row wr 6 r A i cc css.flatten ∧ Css repPart w B zPart zPartC s.parts (fun j => partB c.labels j a) i css ∧ (∀ k, r = some k → w1.heap.size ≤ k) ∧ Blk wr (b + 3) 30 #[.int .i64 s.tick, .slice A i cc, .slice none 0 0] ∧ Kept (fun k => k = b + 3) w1 wr) (fun t _ => (na - intOf t).toNat)
  case atStart => exact ⟨0, none, none, 0, [], Nat.zero_le _, rfl, Row.nil _ _, ⟨rfl, fun j h h2 => absurd h2 (Nat.not_lt_zero _)⟩, (fun k e => by cases e), B3.out, Kept.refl _ _⟩
  case round =>
    obtain ⟨i, r, A, cc, css, hi, rfl, hrow, hcss, hfr, hbo, hkr⟩ := hrel
    have hg0 := HBW.out
    have hnr : New w wr := HN.out.step hkr fun k hk e => by have := HBE.out; omega
    have hb1 := B1.out.kept hkr (fun e => by omega)
    have z1 := hb1.cell 1
    have z2 := hb1.cell 2
    simp only [List.getElem?_toArray, List.getElem?_cons_zero, List.getElem?_cons_succ] at z1 z2
    by_cases hlt : i < na
    · have hiL : i < s.parts.length := by have := HNA.out; omega
      obtain ⟨g, o, cs, rfl, hcl, hc⟩ := RA.out i hiL
      have hcw := (hc w (Kept.refl _ _)).2
      obtain ⟨p0, p1, p2, p3, p4, p5, p6, p7, p8, rfl, -⟩ := (hc wr hnr).2
      have HPUSH := Lib.hid fun cs' h => hcss.push (cs := cs') hiL h
      have HXC : Hid (∀ W, New w W → W.cell? ⟨g, o + i * 6, none⟩ = some (.int .i64 s.parts[i].cursor) ∧ W.cell? ⟨g, o + i * 6 + 1, none⟩ = some (.slice p0 p1 p2) ∧ W.cell? ⟨g, o + i * 6 + 2, none⟩ = some (.int .i64 s.parts[i].lost) ∧ W.cell? ⟨g, o + i * 6 + 3, none⟩ = some (.int .i64 s.parts[i].forbidden) ∧ W.cell? ⟨g, o + i * 6 + 4, none⟩ = some (.slice p3 p4 p5) ∧ W.cell? ⟨g, o + i * 6 + 5, none⟩ = some (.slice p6 p7 p8)) := Lib.hid fun W hW => by
        have h := (hc W hW).1
        change ∀ j', j' < 6 → W.cell? ⟨g, o + i * 6 + j', none⟩ = _ at h
        exact ⟨h 0 (by decide), h 1 (by decide), h 2 (by decide), h 3 (by decide), h 4 (by decide), h 5 (by decide)⟩
      generalize s.parts[i] = x at *
      have e2 : (0 : Int) ≤ (i : Int) := by omega
      have e3 : (i : Int) < (na : Int) := by omega
      have hal : New wr (wr.alloc (.cells #[.int .i64 0, .slice none 0 0, .int .i64 0, .int .i64 0, .slice none 0 0, .slice none 0 0] 43)) := (Kept.refl _ _).alloc _
      have hbx := Blk.made wr 43 #[.int .i64 0, .slice none 0 0, .int .i64 0, .int .i64 0, .slice none 0 0, .slice none 0 0]
      have hkb := hrow.bound
      have HKR := Lib.hid hkr
      have HROW := Lib.hid hrow
      have HCSS := Lib.hid hcss
      have HFR := Lib.hid hfr
      have HBO := Lib.hid hbo
      have HNR := Lib.hid hnr
      have HAL := Lib.hid hal
      have HBX := Lib.hid hbx
      have HCW := Lib.hid hcw
      have HB1 := Lib.hid hb1
      clear hkr hrow hcss hfr hbo hnr hal hbx hcw hb1
      clear hc hcl hiL
      go_upto_region 6 with (fail)
      generalize wr.alloc (.cells #[.int .i64 0, .slice none 0 0, .int .i64 0, .int .i64 0, .slice none 0 0, .slice none 0 0] 43) = w6 at *
      have hk6 : Kept (fun k => k = b + 3) w1 w6 := HKR.out.trans (HAL.out.mono fun _ _ h => h.elim)
      have hb0 := B0.out.kept hk6 (fun e => by omega)
      have z0 := hb0.cell 0
      have z1 := hb0.cell 1
      have z2 := hb0.cell 2
      have z3 := hb0.cell 3
      have z4 := hb0.cell 4
      have z5 := hb0.cell 5
      have z6 := hb0.cell 6
      simp only [List.getElem?_toArray, List.getElem?_cons_zero, List.getElem?_cons_succ] at z0 z1 z2 z3 z4 z5 z6
      have hpt := HPT.out w6 (HNR.out.trans HAL.out) i
      have HGX : Hid (wr.heap.size < w6.heap.size) := Lib.hid HBX.out.lt
      have HOX : Hid (b + 3 < wr.heap.size) := Lib.hid HBO.out.lt
      generalize hbxe : wr.heap.size = bx at *
      have HBXE : Hid (wr.heap.size = bx) := Lib.hid hbxe
      have HK6 := Lib.hid hk6
      clear hk6
      clear hbxe hb0
      cases hp : partB c.labels i a with
      | false =>
        rw [hp] at hpt
        have HPV := Lib.hid hp
        have HPT := Lib.hid hpt
        clear hpt
        clear hp
        go_wp2_with fail
        refine HPT.out.mono ?_
        rintro e w7 ⟨rfl, hm7⟩
        have hbv := HBX.out.kept hm7 id
        have HM7 := Lib.hid hm7
        clear hm7
        go_upto_region 8 with (fail)
        have HRW := Lib.hid (HROW.out.new (by decide) (HAL.out.trans HM7.out))
        have hbo8 := HBO.out.kept (HAL.out.trans HM7.out) id
        have t0 := hbo8.cell 1
        have tf := hbo8.free 1
        have y0 := hbv.cell 0
        have y1 := hbv.cell 1
        have y2 := hbv.cell 2
        have y3 := hbv.cell 3
        have y4 := hbv.cell 4
        have y5 := hbv.cell 5
        simp only [List.getElem?_toArray, List.getElem?_cons_zero, List.getElem?_cons_succ] at t0 y0 y1 y2 y3 y4 y5
        have HXT : Hid (∀ W, Kept (fun k => r = some k) w7 W → W.cell? ⟨b + 3, 1, none⟩ = some (.slice A i cc) ∧ W.frozen? ⟨b + 3, 1, none⟩ = false ∧ Blk W (b + 3) 30 #[.int .i64 s.tick, .slice A i cc, .slice none 0 0]) := Lib.hid fun W hW => by
          have h := hbo8.kept hW (fun e => by have := HFR.out _ e; omega)
          exact ⟨h.cell 1, h.free 1, h⟩
        have HKW := Lib.hid (HKR.out.trans ((HAL.out.trans HM7.out).mono fun _ _ h => h.elim))
        have HCS := Lib.hid (HPUSH.out _ (by rw [HPV.out]; rfl))
        clear hbo8 hbv
        go_wp2_with (at_builtin; refine wpList_append_one (cs := [.int .i64 0, .slice none 0 0, .int .i64 0, .int .i64 0, .slice none 0 0, .slice none 0 0]) tyParts rfl (.tmp 33) (.tmp 35) rfl rfl HRW.out rfl rfl rfl (by simp [Value.oneCell']) (by unfold maxLen; omega) (by omega) ?_; intro r2 A2x c2x w9 hr2 hk2 hn2; obtain ⟨t0, tf, hb9⟩ := HXT.out w9 hk2; have HR2 := Lib.hid hr2; have HK2 := Lib.hid hk2; have HN2 := Lib.hid hn2; have HB9 := Lib.hid hb9; clear hr2 hk2 hn2 hb9)
        go_roundw
        case rel =>
          have hk9 := (HKW.out.step HK2.out fun k hk e => by have := HFR.out k e; omega).setCell (p := ⟨b + 3, 1, none⟩) (.inr rfl) (.slice A2x (i + 1) c2x)
          have hb9 := HB9.out.set (i := 1) (.slice A2x (i + 1) c2x)
          simp [Array.setIfInBounds] at hb9
          refine ⟨i + 1, r2, A2x, c2x, css ++ [_], by omega, by go_num, ?_, HCS.out, fun k e => ?_, hb9, hk9⟩
          · rw [List.flatten_append, List.flatten_singleton]
            refine HR2.out.of_kept (by decide) (Kept.set1 w9 (b + 3) 1 _) fun k e e' => ?_
            rcases HN2.out k e with h | h
            · have := HFR.out k h; omega
            · have := HKW.out.size; omega
          · rcases HN2.out k e with h | h
            · exact HFR.out k h
            · have := HKW.out.size; omega
        case measure => simp [intOf]; omega
      | true =>
        rw [hp] at hpt
        have HPV := Lib.hid hp
        have HPT := Lib.hid hpt
        clear hpt
        clear hp
        go_wp2_with fail
        refine HPT.out.mono ?_
        rintro e w7 ⟨rfl, hm7⟩
        have hbv := HBX.out.kept hm7 id
        have y0 := hbv.cell 0
        have q0 := hbv.free 0
        have y1 := hbv.cell 1
        have q1 := hbv.free 1
        have y2 := hbv.cell 2
        have q2 := hbv.free 2
        have y3 := hbv.cell 3
        have q3 := hbv.free 3
        have y4 := hbv.cell 4
        have q4 := hbv.free 4
        have y5 := hbv.cell 5
        have q5 := hbv.free 5
        obtain ⟨x0, x1, x2, x3, x4, x5⟩ := HXC.out w7 (HNR.out.trans (HAL.out.trans hm7))
        have hb1w := HB1.out.kept (HAL.out.trans hm7) id
        have z1 := hb1w.cell 1
        simp only [List.getElem?_toArray, List.getElem?_cons_zero, List.getElem?_cons_succ] at z1 y0 y1 y2 y3 y4 y5
        have hbv2 : Blk ((((((w7.setCell ⟨bx, 0, none⟩ (.int .i64 x.cursor)).setCell ⟨bx, 1, none⟩ (.slice p0 p1 p2)).setCell ⟨bx, 2, none⟩ (.int .i64 x.lost)).setCell ⟨bx, 3, none⟩ (.int .i64 x.forbidden)).setCell ⟨bx, 4, none⟩ (.slice p3 p4 p5)).setCell ⟨bx, 5, none⟩ (.slice p6 p7 p8)) bx 43 #[.int .i64 x.cursor, .slice p0 p1 p2, .int .i64 x.lost, .int .i64 x.forbidden, .slice p3 p4 p5, .slice p6 p7 p8] := hbv.setAll [.int .i64 x.cursor, .slice p0 p1 p2, .int .i64 x.lost, .int .i64 x.forbidden, .slice p3 p4 p5, .slice p6 p7 p8] rfl
        have hkv : Kept (fun k => k = bx) w7 ((((((w7.setCell ⟨bx, 0, none⟩ (.int .i64 x.cursor)).setCell ⟨bx, 1, none⟩ (.slice p0 p1 p2)).setCell ⟨bx, 2, none⟩ (.int .i64 x.lost)).setCell ⟨bx, 3, none⟩ (.int .i64 x.forbidden)).setCell ⟨bx, 4, none⟩ (.slice p3 p4 p5)).setCell ⟨bx, 5, none⟩ (.slice p6 p7 p8)) := Kept.setCells (G := fun k => k = bx) [.int .i64 x.cursor, .slice p0 p1 p2, .int .i64 x.lost, .int .i64 x.forbidden, .slice p3 p4 p5, .slice p6 p7 p8] 0 w7 (Kept.refl _ _) (.inr rfl)
        have hm8 : New wr ((((((w7.setCell ⟨bx, 0, none⟩ (.int .i64 x.cursor)).setCell ⟨bx, 1, none⟩ (.slice p0 p1 p2)).setCell ⟨bx, 2, none⟩ (.int .i64 x.lost)).setCell ⟨bx, 3, none⟩ (.int .i64 x.forbidden)).setCell ⟨bx, 4, none⟩ (.slice p3 p4 p5)).setCell ⟨bx, 5, none⟩ (.slice p6 p7 p8)) := (HAL.out.trans hm7).step hkv fun k hk e => by have := HBXE.out; omega
        have HM7 := Lib.hid hm7
        have HM8 := Lib.hid hm8
        have HBV2 := Lib.hid hbv2
        have HKV := Lib.hid hkv
        clear hm7 hm8 hbv2 hkv
        clear hbv hb1w
        go_upto_region 8 with (fail)
        clear x0 y0 q0 x1 y1 q1 x2 y2 q2 x3 y3 q3 x4 y4 q4 x5 y5 q5
        generalize (((((w7.setCell ⟨bx, 0, none⟩ (.int .i64 x.cursor)).setCell ⟨bx, 1, none⟩ (.slice p0 p1 p2)).setCell ⟨bx, 2, none⟩ (.int .i64 x.lost)).setCell ⟨bx, 3, none⟩ (.int .i64 x.forbidden)).setCell ⟨bx, 4, none⟩ (.slice p3 p4 p5)).setCell ⟨bx, 5, none⟩ (.slice p6 p7 p8) = w8 at *
        have hbv := HBV2.out
        have HRW := Lib.hid (HROW.out.new (by decide) HM8.out)
        have hbo8 := HBO.out.kept HM8.out id
        have t0 := hbo8.cell 1
        have tf := hbo8.free 1
        have y0 := hbv.cell 0
        have y1 := hbv.cell 1
        have y2 := hbv.cell 2
        have y3 := hbv.cell 3
        have y4 := hbv.cell 4
        have y5 := hbv.cell 5
        simp only [List.getElem?_toArray, List.getElem?_cons_zero, List.getElem?_cons_succ] at t0 y0 y1 y2 y3 y4 y5
        have HXT : Hid (∀ W, Kept (fun k => r = some k) w8 W → W.cell? ⟨b + 3, 1, none⟩ = some (.slice A i cc) ∧ W.frozen? ⟨b + 3, 1, none⟩ = false ∧ Blk W (b + 3) 30 #[.int .i64 s.tick, .slice A i cc, .slice none 0 0]) := Lib.hid fun W hW => by
          have h := hbo8.kept hW (fun e => by have := HFR.out _ e; omega)
          exact ⟨h.cell 1, h.free 1, h⟩
        have HKW := Lib.hid (HKR.out.trans (HM8.out.mono fun _ _ h => h.elim))
        have HCS := Lib.hid (HPUSH.out _ (by rw [HPV.out]; exact HCW.out))
        clear hbo8 hbv
        go_wp2_with (at_builtin; refine wpList_append_one (cs := [.int .i64 x.cursor, .slice p0 p1 p2, .int .i64 x.lost, .int .i64 x.forbidden, .slice p3 p4 p5, .slice p6 p7 p8]) tyParts rfl (.tmp 33) (.tmp 35) rfl rfl HRW.out rfl rfl rfl (by simp [Value.oneCell']) (by unfold maxLen; omega) (by omega) ?_; intro r2 A2x c2x w9 hr2 hk2 hn2; obtain ⟨t0, tf, hb9⟩ := HXT.out w9 hk2; have HR2 := Lib.hid hr2; have HK2 := Lib.hid hk2; have HN2 := Lib.hid hn2; have HB9 := Lib.hid hb9; clear hr2 hk2 hn2 hb9)
        go_roundw
        case rel =>
          have hk9 := (HKW.out.step HK2.out fun k hk e => by have := HFR.out k e; omega).setCell (p := ⟨b + 3, 1, none⟩) (.inr rfl) (.slice A2x (i + 1) c2x)
          have hb9 := HB9.out.set (i := 1) (.slice A2x (i + 1) c2x)
          simp [Array.setIfInBounds] at hb9
          refine ⟨i + 1, r2, A2x, c2x, css ++ [_], by omega, by go_num, ?_, HCS.out, fun k e => ?_, hb9, hk9⟩
          · rw [List.flatten_append, List.flatten_singleton]
            refine HR2.out.of_kept (by decide) (Kept.set1 w9 (b + 3) 1 _) fun k e e' => ?_
            rcases HN2.out k e with h | h
            · have := HFR.out k h; omega
            · have := HKW.out.size; omega
          · rcases HN2.out k e with h | h
            · exact HFR.out k h
            · have := HKW.out.size; omega
        case measure => simp [intOf]; omega
    · obtain rfl : na = i := by omega
      obtain ⟨wd, hwd⟩ : ∃ wd, wd = wr := ⟨_, rfl⟩
      subst hwd
      obtain ⟨r1, hr1⟩ : ∃ r1, r1 = r := ⟨_, rfl⟩
      subst hr1
      obtain ⟨A1, hA1⟩ : ∃ A1, A1 = A := ⟨_, rfl⟩
      subst hA1
      obtain ⟨c1, hc1⟩ : ∃ c1, c1 = cc := ⟨_, rfl⟩
      subst hc1
      have hb0d := B0.out.kept hkr (fun e => by omega)
      have hb2d := B2.out.kept hkr (fun e => by omega)
      have HGD : Hid (w1.heap.size ≤ wd.heap.size) := Lib.hid hkr.size
      obtain ⟨n1, hn1⟩ : ∃ n1, n1 = na := ⟨_, rfl⟩
      have HN1' := Lib.hid hn1
      rw [← hn1] at hbo
      have hk1 := hrow.bound
      have HND := Lib.hid hnr
      have B0D := Lib.hid hb0d
      have B1D := Lib.hid hb1
      have B2D := Lib.hid hb2d
      have B3D := Lib.hid hbo
      have HROWP := Lib.hid hrow
      have HCSSP := Lib.hid hcss
      have HFRP := Lib.hid hfr
      clear hnr hb0d hb1 hb2d hbo hrow hcss hfr
      clear hkr hn1
      go_wp2_with fail
      go_loopw [10] (fun t wr => ∃ (i : Nat) (r : Option Nat) (A : Option Addr) (cc : Nat) (css : List (List Value)), i ≤ nb ∧ t = .int .i64 i ∧ Row wr 15 r A i cc css.flatten ∧ Css repProc w B zProc zProcC s.procs (fun j => seesB c j a) i css ∧ (∀ k, r = some k → wd.heap.size ≤ k) ∧ Blk wr (b + 3) 30 #[.int .i64 s.tick, .slice A1 n1 c1, .slice A i cc] ∧ Kept (fun k => k = b + 3) wd wr) (fun t _ => (nb - intOf t).toNat)
      case atStart => exact ⟨0, none, none, 0, [], Nat.zero_le _, rfl, Row.nil _ _, ⟨rfl, fun j h h2 => absurd h2 (Nat.not_lt_zero _)⟩, (fun k e => by cases e), B3D.out, Kept.refl _ _⟩
      case round =>
        obtain ⟨i, r, A, cc, css, hi, rfl, hrow, hcss, hfr, hbo, hkr⟩ := hrel
        have hg0 := HBW.out
        have hnr : New w wr := HND.out.step hkr fun k hk e => by have := HBE.out; omega
        have hb1 := B1D.out.kept hkr (fun e => by omega)
        have z1 := hb1.cell 1
        have z2 := hb1.cell 2
        simp only [List.getElem?_toArray, List.getElem?_cons_zero, List.getElem?_cons_succ] at z1 z2
        by_cases hlt : i < nb
        · have hiL : i < s.procs.length := by have := HNB.out; omega
          obtain ⟨g, o, cs, rfl, hcl, hc⟩ := RB.out i hiL
          have hcw := (hc w (Kept.refl _ _)).2
          obtain ⟨p0, p1, p2, rfl, -⟩ := (hc wr hnr).2
          have HPUSH := Lib.hid fun cs' h => hcss.push (cs := cs') hiL h
          have HXC : Hid (∀ W, New w W → W.cell? ⟨g, o + i * 15, none⟩ = some (.int .i64 s.procs[i].state) ∧ W.cell? ⟨g, o + i * 15 + 1, none⟩ = some (.int .i64 s.procs[i].pc) ∧ W.cell? ⟨g, o + i * 15 + 2, none⟩ = some (.int .i64 s.procs[i].r0) ∧ W.cell? ⟨g, o + i * 15 + 3, none⟩ = some (.int .i64 s.procs[i].r1) ∧ W.cell? ⟨g, o + i * 15 + 4, none⟩ = some (.int .i64 s.procs[i].r2) ∧ W.cell? ⟨g, o + i * 15 + 5, none⟩ = some (.int .i64 s.procs[i].r3) ∧ W.cell? ⟨g, o + i * 15 + 6, none⟩ = some (.int .i64 s.procs[i].r4) ∧ W.cell? ⟨g, o + i * 15 + 7, none⟩ = some (.int .i64 s.procs[i].r5) ∧ W.cell? ⟨g, o + i * 15 + 8, none⟩ = some (.int .i64 s.procs[i].r6) ∧ W.cell? ⟨g, o + i * 15 + 9, none⟩ = some (.int .i64 s.procs[i].r7) ∧ W.cell? ⟨g, o + i * 15 + 10, none⟩ = some (.int .i64 s.procs[i].cursor) ∧ W.cell? ⟨g, o + i * 15 + 11, none⟩ = some (.int .i64 s.procs[i].timer) ∧ W.cell? ⟨g, o + i * 15 + 12, none⟩ = some (.bool s.procs[i].fired) ∧ W.cell? ⟨g, o + i * 15 + 13, none⟩ = some (.int .i64 s.procs[i].wake) ∧ W.cell? ⟨g, o + i * 15 + 14, none⟩ = some (.slice p0 p1 p2)) := Lib.hid fun W hW => by
            have h := (hc W hW).1
            change ∀ j', j' < 15 → W.cell? ⟨g, o + i * 15 + j', none⟩ = _ at h
            exact ⟨h 0 (by decide), h 1 (by decide), h 2 (by decide), h 3 (by decide), h 4 (by decide), h 5 (by decide), h 6 (by decide), h 7 (by decide), h 8 (by decide), h 9 (by decide), h 10 (by decide), h 11 (by decide), h 12 (by decide), h 13 (by decide), h 14 (by decide)⟩
          generalize s.procs[i] = x at *
          have e2 : (0 : Int) ≤ (i : Int) := by omega
          have e3 : (i : Int) < (nb : Int) := by omega
          have hal : New wr (wr.alloc (.cells #[.int .i64 0, .int .i64 0, .int .i64 0, .int .i64 0, .int .i64 0, .int .i64 0, .int .i64 0, .int .i64 0, .int .i64 0, .int .i64 0, .int .i64 0, .int .i64 0, .bool false, .int .i64 0, .slice none 0 0] 49)) := (Kept.refl _ _).alloc _
          have hbx := Blk.made wr 49 #[.int .i64 0, .int .i64 0, .int .i64 0, .int .i64 0, .int .i64 0, .int .i64 0, .int .i64 0, .int .i64 0, .int .i64 0, .int .i64 0, .int .i64 0, .int .i64 0, .bool false, .int .i64 0, .slice none 0 0]
          have hkb := hrow.bound
          have HKR := Lib.hid hkr
          have HROW := Lib.hid hrow
          have HCSS := Lib.hid hcss
          have HFR := Lib.hid hfr
          have HBO := Lib.hid hbo
          have HNR := Lib.hid hnr
          have HAL := Lib.hid hal
          have HBX := Lib.hid hbx
          have HCW := Lib.hid hcw
          have HB1 := Lib.hid hb1
          clear hkr hrow hcss hfr hbo hnr hal hbx hcw hb1
          clear hc hcl hiL
          go_upto_region 13 with (fail)
          generalize wr.alloc (.cells #[.int .i64 0, .int .i64 0, .int .i64 0, .int .i64 0, .int .i64 0, .int .i64 0, .int .i64 0, .int .i64 0, .int .i64 0, .int .i64 0, .int .i64 0, .int .i64 0, .bool false, .int .i64 0, .slice none 0 0] 49) = w6 at *
          have hk6 : Kept (fun k => k = b + 3) wd w6 := HKR.out.trans (HAL.out.mono fun _ _ h => h.elim)
          have hb0 := B0D.out.kept hk6 (fun e => by omega)
          have z0 := hb0.cell 0
          have z1 := hb0.cell 1
          have z2 := hb0.cell 2
          have z3 := hb0.cell 3
          have z4 := hb0.cell 4
          have z5 := hb0.cell 5
          have z6 := hb0.cell 6
          simp only [List.getElem?_toArray, List.getElem?_cons_zero, List.getElem?_cons_succ] at z0 z1 z2 z3 z4 z5 z6
          have hpt := HSE.out w6 (HNR.out.trans HAL.out) i
          have HGX : Hid (wr.heap.size < w6.heap.size) := Lib.hid HBX.out.lt
          have HOX : Hid (b + 3 < wr.heap.size) := Lib.hid HBO.out.lt
          generalize hbxe : wr.heap.size = bx at *
          have HBXE : Hid (wr.heap.size = bx) := Lib.hid hbxe
          have HK6 := Lib.hid hk6
          clear hk6
          clear hbxe hb0
          cases hp : seesB c i a with
          | false =>
            rw [hp] at hpt
            have HPV := Lib.hid hp
            have HPT := Lib.hid hpt
            clear hpt
            clear hp
            go_wp2_with fail
            refine HPT.out.mono ?_
            rintro e w7 ⟨rfl, hm7⟩
            have hbv := HBX.out.kept hm7 id
            have HM7 := Lib.hid hm7
            clear hm7
            go_upto_region 15 with (fail)
            have HRW := Lib.hid (HROW.out.new (by decide) (HAL.out.trans HM7.out))
            have hbo8 := HBO.out.kept (HAL.out.trans HM7.out) id
            have t0 := hbo8.cell 2
            have tf := hbo8.free 2
            have y0 := hbv.cell 0
            have y1 := hbv.cell 1
            have y2 := hbv.cell 2
            have y3 := hbv.cell 3
            have y4 := hbv.cell 4
            have y5 := hbv.cell 5
            have y6 := hbv.cell 6
            have y7 := hbv.cell 7
            have y8 := hbv.cell 8
            have y9 := hbv.cell 9
            have y10 := hbv.cell 10
            have y11 := hbv.cell 11
            have y12 := hbv.cell 12
            have y13 := hbv.cell 13
            have y14 := hbv.cell 14
            simp only [List.getElem?_toArray, List.getElem?_cons_zero, List.getElem?_cons_succ] at t0 y0 y1 y2 y3 y4 y5 y6 y7 y8 y9 y10 y11 y12 y13 y14
            have HXT : Hid (∀ W, Kept (fun k => r = some k) w7 W → W.cell? ⟨b + 3, 2, none⟩ = some (.slice A i cc) ∧ W.frozen? ⟨b + 3, 2, none⟩ = false ∧ Blk W (b + 3) 30 #[.int .i64 s.tick, .slice A1 n1 c1, .slice A i cc]) := Lib.hid fun W hW => by
              have h := hbo8.kept hW (fun e => by have := HFR.out _ e; have := HGD.out; omega)
              exact ⟨h.cell 2, h.free 2, h⟩
            have HKW := Lib.hid (HKR.out.trans ((HAL.out.trans HM7.out).mono fun _ _ h => h.elim))
            have HCS := Lib.hid (HPUSH.out _ (by rw [HPV.out]; rfl))
            clear hbo8 hbv
            go_wp2_with (at_builtin; refine wpList_append_one (cs := [.int .i64 0, .int .i64 0, .int .i64 0, .int .i64 0, .int .i64 0, .int .i64 0, .int .i64 0, .int .i64 0, .int .i64 0, .int .i64 0, .int .i64 0, .int .i64 0, .bool false, .int .i64 0, .slice none 0 0]) tyProcs rfl (.tmp 56) (.tmp 58) rfl rfl HRW.out rfl rfl rfl (by simp [Value.oneCell']) (by unfold maxLen; omega) (by omega) ?_; intro r2 A2x c2x w9 hr2 hk2 hn2; obtain ⟨t0, tf, hb9⟩ := HXT.out w9 hk2; have HR2 := Lib.hid hr2; have HK2 := Lib.hid hk2; have HN2 := Lib.hid hn2; have HB9 := Lib.hid hb9; clear hr2 hk2 hn2 hb9)
            go_roundw
            case rel =>
              have hk9 := (HKW.out.step HK2.out fun k hk e => by have := HFR.out k e; have := HGD.out; omega).setCell (p := ⟨b + 3, 2, none⟩) (.inr rfl) (.slice A2x (i + 1) c2x)
              have hb9 := HB9.out.set (i := 2) (.slice A2x (i + 1) c2x)
              simp [Array.setIfInBounds] at hb9
              refine ⟨i + 1, r2, A2x, c2x, css ++ [_], by omega, by go_num, ?_, HCS.out, fun k e => ?_, hb9, hk9⟩
              · rw [List.flatten_append, List.flatten_singleton]
                refine HR2.out.of_kept (by decide) (Kept.set1 w9 (b + 3) 2 _) fun k e e' => ?_
                rcases HN2.out k e with h | h
                · have := HFR.out k h; have := HGD.out; omega
                · have := HKW.out.size; have := HGD.out; omega
              · rcases HN2.out k e with h | h
                · exact HFR.out k h
                · have := HKW.out.size; omega
            case measure => simp [intOf]; omega
          | true =>
            rw [hp] at hpt
            have HPV := Lib.hid hp
            have HPT := Lib.hid hpt
            clear hpt
            clear hp
            go_wp2_with fail
            refine HPT.out.mono ?_
            rintro e w7 ⟨rfl, hm7⟩
            have hbv := HBX.out.kept hm7 id
            have y0 := hbv.cell 0
            have q0 := hbv.free 0
            have y1 := hbv.cell 1
            have q1 := hbv.free 1
            have y2 := hbv.cell 2
            have q2 := hbv.free 2
            have y3 := hbv.cell 3
            have q3 := hbv.free 3
            have y4 := hbv.cell 4
            have q4 := hbv.free 4
            have y5 := hbv.cell 5
            have q5 := hbv.free 5
            have y6 := hbv.cell 6
            have q6 := hbv.free 6
            have y7 := hbv.cell 7
            have q7 := hbv.free 7
            have y8 := hbv.cell 8
            have q8 := hbv.free 8
            have y9 := hbv.cell 9
            have q9 := hbv.free 9
            have y10 := hbv.cell 10
            have q10 := hbv.free 10
            have y11 := hbv.cell 11
            have q11 := hbv.free 11
            have y12 := hbv.cell 12
            have q12 := hbv.free 12
            have y13 := hbv.cell 13
            have q13 := hbv.free 13
            have y14 := hbv.cell 14
            have q14 := hbv.free 14
            obtain ⟨x0, x1, x2, x3, x4, x5, x6, x7, x8, x9, x10, x11, x12, x13, x14⟩ := HXC.out w7 (HNR.out.trans (HAL.out.trans hm7))
            have hb1w := HB1.out.kept (HAL.out.trans hm7) id
            have z2 := hb1w.cell 2
            simp only [List.getElem?_toArray, List.getElem?_cons_zero, List.getElem?_cons_succ] at z2 y0 y1 y2 y3 y4 y5 y6 y7 y8 y9 y10 y11 y12 y13 y14
            have hbv2 : Blk (((((((((((((((w7.setCell ⟨bx, 0, none⟩ (.int .i64 x.state)).setCell ⟨bx, 1, none⟩ (.int .i64 x.pc)).setCell ⟨bx, 2, none⟩ (.int .i64 x.r0)).setCell ⟨bx, 3, none⟩ (.int .i64 x.r1)).setCell ⟨bx, 4, none⟩ (.int .i64 x.r2)).setCell ⟨bx, 5, none⟩ (.int .i64 x.r3)).setCell ⟨bx, 6, none⟩ (.int .i64 x.r4)).setCell ⟨bx, 7, none⟩ (.int .i64 x.r5)).setCell ⟨bx, 8, none⟩ (.int .i64 x.r6)).setCell ⟨bx, 9, none⟩ (.int .i64 x.r7)).setCell ⟨bx, 10, none⟩ (.int .i64 x.cursor)).setCell ⟨bx, 11, none⟩ (.int .i64 x.timer)).setCell ⟨bx, 12, none⟩ (.bool x.fired)).setCell ⟨bx, 13, none⟩ (.int .i64 x.wake)).setCell ⟨bx, 14, none⟩ (.slice p0 p1 p2)) bx 49 #[.int .i64 x.state, .int .i64 x.pc, .int .i64 x.r0, .int .i64 x.r1, .int .i64 x.r2, .int .i64 x.r3, .int .i64 x.r4, .int .i64 x.r5, .int .i64 x.r6, .int .i64 x.r7, .int .i64 x.cursor, .int .i64 x.timer, .bool x.fired, .int .i64 x.wake, .slice p0 p1 p2] := hbv.setAll [.int .i64 x.state, .int .i64 x.pc, .int .i64 x.r0, .int .i64 x.r1, .int .i64 x.r2, .int .i64 x.r3, .int .i64 x.r4, .int .i64 x.r5, .int .i64 x.r6, .int .i64 x.r7, .int .i64 x.cursor, .int .i64 x.timer, .bool x.fired, .int .i64 x.wake, .slice p0 p1 p2] rfl
            have hkv : Kept (fun k => k = bx) w7 (((((((((((((((w7.setCell ⟨bx, 0, none⟩ (.int .i64 x.state)).setCell ⟨bx, 1, none⟩ (.int .i64 x.pc)).setCell ⟨bx, 2, none⟩ (.int .i64 x.r0)).setCell ⟨bx, 3, none⟩ (.int .i64 x.r1)).setCell ⟨bx, 4, none⟩ (.int .i64 x.r2)).setCell ⟨bx, 5, none⟩ (.int .i64 x.r3)).setCell ⟨bx, 6, none⟩ (.int .i64 x.r4)).setCell ⟨bx, 7, none⟩ (.int .i64 x.r5)).setCell ⟨bx, 8, none⟩ (.int .i64 x.r6)).setCell ⟨bx, 9, none⟩ (.int .i64 x.r7)).setCell ⟨bx, 10, none⟩ (.int .i64 x.cursor)).setCell ⟨bx, 11, none⟩ (.int .i64 x.timer)).setCell ⟨bx, 12, none⟩ (.bool x.fired)).setCell ⟨bx, 13, none⟩ (.int .i64 x.wake)).setCell ⟨bx, 14, none⟩ (.slice p0 p1 p2)) := Kept.setCells (G := fun k => k = bx) [.int .i64 x.state, .int .i64 x.pc, .int .i64 x.r0, .int .i64 x.r1, .int .i64 x.r2, .int .i64 x.r3, .int .i64 x.r4, .int .i64 x.r5, .int .i64 x.r6, .int .i64 x.r7, .int .i64 x.cursor, .int .i64 x.timer, .bool x.fired, .int .i64 x.wake, .slice p0 p1 p2] 0 w7 (Kept.refl _ _) (.inr rfl)
            have hm8 : New wr (((((((((((((((w7.setCell ⟨bx, 0, none⟩ (.int .i64 x.state)).setCell ⟨bx, 1, none⟩ (.int .i64 x.pc)).setCell ⟨bx, 2, none⟩ (.int .i64 x.r0)).setCell ⟨bx, 3, none⟩ (.int .i64 x.r1)).setCell ⟨bx, 4, none⟩ (.int .i64 x.r2)).setCell ⟨bx, 5, none⟩ (.int .i64 x.r3)).setCell ⟨bx, 6, none⟩ (.int .i64 x.r4)).setCell ⟨bx, 7, none⟩ (.int .i64 x.r5)).setCell ⟨bx, 8, none⟩ (.int .i64 x.r6)).setCell ⟨bx, 9, none⟩ (.int .i64 x.r7)).setCell ⟨bx, 10, none⟩ (.int .i64 x.cursor)).setCell ⟨bx, 11, none⟩ (.int .i64 x.timer)).setCell ⟨bx, 12, none⟩ (.bool x.fired)).setCell ⟨bx, 13, none⟩ (.int .i64 x.wake)).setCell ⟨bx, 14, none⟩ (.slice p0 p1 p2)) := (HAL.out.trans hm7).step hkv fun k hk e => by have := HBXE.out; omega
            have HM7 := Lib.hid hm7
            have HM8 := Lib.hid hm8
            have HBV2 := Lib.hid hbv2
            have HKV := Lib.hid hkv
            clear hm7 hm8 hbv2 hkv
            clear hbv hb1w
            go_upto_region 15 with (fail)
            clear x0 y0 q0 x1 y1 q1 x2 y2 q2 x3 y3 q3 x4 y4 q4 x5 y5 q5 x6 y6 q6 x7 y7 q7 x8 y8 q8 x9 y9 q9 x10 y10 q10 x11 y11 q11 x12 y12 q12 x13 y13 q13 x14 y14 q14
            generalize ((((((((((((((w7.setCell ⟨bx, 0, none⟩ (.int .i64 x.state)).setCell ⟨bx, 1, none⟩ (.int .i64 x.pc)).setCell ⟨bx, 2, none⟩ (.int .i64 x.r0)).setCell ⟨bx, 3, none⟩ (.int .i64 x.r1)).setCell ⟨bx, 4, none⟩ (.int .i64 x.r2)).setCell ⟨bx, 5, none⟩ (.int .i64 x.r3)).setCell ⟨bx, 6, none⟩ (.int .i64 x.r4)).setCell ⟨bx, 7, none⟩ (.int .i64 x.r5)).setCell ⟨bx, 8, none⟩ (.int .i64 x.r6)).setCell ⟨bx, 9, none⟩ (.int .i64 x.r7)).setCell ⟨bx, 10, none⟩ (.int .i64 x.cursor)).setCell ⟨bx, 11, none⟩ (.int .i64 x.timer)).setCell ⟨bx, 12, none⟩ (.bool x.fired)).setCell ⟨bx, 13, none⟩ (.int .i64 x.wake)).setCell ⟨bx, 14, none⟩ (.slice p0 p1 p2) = w8 at *
            have hbv := HBV2.out
            have HRW := Lib.hid (HROW.out.new (by decide) HM8.out)
            have hbo8 := HBO.out.kept HM8.out id
            have t0 := hbo8.cell 2
            have tf := hbo8.free 2
            have y0 := hbv.cell 0
            have y1 := hbv.cell 1
            have y2 := hbv.cell 2
            have y3 := hbv.cell 3
            have y4 := hbv.cell 4
            have y5 := hbv.cell 5
            have y6 := hbv.cell 6
            have y7 := hbv.cell 7
            have y8 := hbv.cell 8
            have y9 := hbv.cell 9
            have y10 := hbv.cell 10
            have y11 := hbv.cell 11
            have y12 := hbv.cell 12
            have y13 := hbv.cell 13
            have y14 := hbv.cell 14
            simp only [List.getElem?_toArray, List.getElem?_cons_zero, List.getElem?_cons_succ] at t0 y0 y1 y2 y3 y4 y5 y6 y7 y8 y9 y10 y11 y12 y13 y14
            have HXT : Hid (∀ W, Kept (fun k => r = some k) w8 W → W.cell? ⟨b + 3, 2, none⟩ = some (.slice A i cc) ∧ W.frozen? ⟨b + 3, 2, none⟩ = false ∧ Blk W (b + 3) 30 #[.int .i64 s.tick, .slice A1 n1 c1, .slice A i cc]) := Lib.hid fun W hW => by
              have h := hbo8.kept hW (fun e => by have := HFR.out _ e; have := HGD.out; omega)
              exact ⟨h.cell 2, h.free 2, h⟩
            have HKW := Lib.hid (HKR.out.trans (HM8.out.mono fun _ _ h => h.elim))
            have HCS := Lib.hid (HPUSH.out _ (by rw [HPV.out]; exact HCW.out))
            clear hbo8 hbv
            go_wp2_with (at_builtin; refine wpList_append_one (cs := [.int .i64 x.state, .int .i64 x.pc, .int .i64 x.r0, .int .i64 x.r1, .int .i64 x.r2, .int .i64 x.r3, .int .i64 x.r4, .int .i64 x.r5, .int .i64 x.r6, .int .i64 x.r7, .int .i64 x.cursor, .int .i64 x.timer, .bool x.fired, .int .i64 x.wake, .slice p0 p1 p2]) tyProcs rfl (.tmp 56) (.tmp 58) rfl rfl HRW.out rfl rfl rfl (by simp [Value.oneCell']) (by unfold maxLen; omega) (by omega) ?_; intro r2 A2x c2x w9 hr2 hk2 hn2; obtain ⟨t0, tf, hb9⟩ := HXT.out w9 hk2; have HR2 := Lib.hid hr2; have HK2 := Lib.hid hk2; have HN2 := Lib.hid hn2; have HB9 := Lib.hid hb9; clear hr2 hk2 hn2 hb9)
            go_roundw
            case rel =>
              have hk9 := (HKW.out.step HK2.out fun k hk e => by have := HFR.out k e; have := HGD.out; omega).setCell (p := ⟨b + 3, 2, none⟩) (.inr rfl) (.slice A2x (i + 1) c2x)
              have hb9 := HB9.out.set (i := 2) (.slice A2x (i + 1) c2x)
              simp [Array.setIfInBounds] at hb9
              refine ⟨i + 1, r2, A2x, c2x, css ++ [_], by omega, by go_num, ?_, HCS.out, fun k e => ?_, hb9, hk9⟩
              · rw [List.flatten_append, List.flatten_singleton]
                refine HR2.out.of_kept (by decide) (Kept.set1 w9 (b + 3) 2 _) fun k e e' => ?_
                rcases HN2.out k e with h | h
                · have := HFR.out k h; have := HGD.out; omega
                · have := HKW.out.size; have := HGD.out; omega
              · rcases HN2.out k e with h | h
                · exact HFR.out k h
                · have := HKW.out.size; omega
            case measure => simp [intOf]; omega
        · obtain rfl : nb = i := by omega
          have hrp := HROWP.out.of_kept (by decide) hkr (fun k e e' => by have := HFRP.out k e; omega)
          have hb2f := B2D.out.kept hkr (fun e => by omega)
          have z0 := hbo.cell 0
          have z1 := hbo.cell 1
          have z2 := hbo.cell 2
          have y0 := hb2f.cell 0
          have y1 := hb2f.cell 1
          have y2 := hb2f.cell 2
          have q0 := hb2f.free 0
          have q1 := hb2f.free 1
          have q2 := hb2f.free 2
          simp only [List.getElem?_toArray, List.getElem?_cons_zero, List.getElem?_cons_succ] at z0 z1 z2 y0 y1 y2
          have hkb := hrow.bound
          have HNR := Lib.hid hnr
          have HRP := Lib.hid hrp
          have HB2F := Lib.hid hb2f
          have HROW := Lib.hid hrow
          have HCSS := Lib.hid hcss
          have HFR := Lib.hid hfr
          clear hnr hrp hb2f hrow hcss hfr
          clear hbo hkr hb1
          go_wp2_with fail
          have hbf : Blk (((wr.setCell ⟨b + 2, 0, none⟩ (.int .i64 s.tick)).setCell ⟨b + 2, 1, none⟩ (.slice A1 n1 c1)).setCell ⟨b + 2, 2, none⟩ (.slice A nb cc)) (b + 2) 30 #[.int .i64 s.tick, .slice A1 n1 c1, .slice A nb cc] := HB2F.out.setAll [.int .i64 s.tick, .slice A1 n1 c1, .slice A nb cc] rfl
          have hkf : Kept (fun k => k = b + 2) wr (((wr.setCell ⟨b + 2, 0, none⟩ (.int .i64 s.tick)).setCell ⟨b + 2, 1, none⟩ (.slice A1 n1 c1)).setCell ⟨b + 2, 2, none⟩ (.slice A nb cc)) := ((Kept.set1 wr (b + 2) 0 _).trans (Kept.set1 _ (b + 2) 1 _)).trans (Kept.set1 _ (b + 2) 2 _)
          generalize ((wr.setCell ⟨b + 2, 0, none⟩ (.int .i64 s.tick)).setCell ⟨b + 2, 1, none⟩ (.slice A1 n1 c1)).setCell ⟨b + 2, 2, none⟩ (.slice A nb cc) = wF at *
          have y0 := hbf.cell 0
          have y1 := hbf.cell 1
          have y2 := hbf.cell 2
          simp only [List.getElem?_toArray, List.getElem?_cons_zero, List.getElem?_cons_succ] at y0 y1 y2
          have k5 := HBE.out
          have k6 := HBW.out
          have k7 := HGD.out
          have hnf := HNR.out.step hkf fun k hk e => by omega
          have hr1' := HRP.out.of_kept (by decide) hkf fun k e e' => by have := HFRP.out k e; omega
          have hr2' := HROW.out.of_kept (by decide) hkf fun k e e' => by have := HFR.out k e; omega
          obtain rfl : n1 = na := HN1'.out
          refine bodyPost_ret (v := .agg #[.int .i64 s.tick, .slice A1 n1 c1, .slice A nb cc]) (by simp [results, Try.results10, go_sem, y0, y1, y2]) rfl ⟨A1, n1, c1, A, nb, cc, rfl, ⟨_, _, _, _, _, _, rfl, ?_, ?_⟩, hnf⟩
          · refine Css.slice (R := repPart) (w := w) (B := B) (zc := zPartC) (css := _) ?_ hr1' (by decide) HNA.out hB' hnf ⟨none, 0, 0, none, 0, 0, none, 0, 0, rfl, SliceOf.nil _ _ _, SliceOf.nil _ _ _, SliceOf.nil _ _ _⟩
            have := HCSSP.out
            rw [HNA.out] at this
            exact this
          · refine Css.slice (R := repProc) (w := w) (B := B) (zc := zProcC) (css := _) ?_ hr2' (by decide) HNB.out hB' hnf ⟨none, 0, 0, rfl, SliceOf.nil _ _ _⟩
            have := HCSS.out
            rw [HNB.out] at this
            exact this

end Go.Proofs.Ytgdmajockejpgaa.View
