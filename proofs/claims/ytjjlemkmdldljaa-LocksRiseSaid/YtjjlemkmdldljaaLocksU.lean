/- The walk of package locks' Give (layer 12). -/
import Derived.Test.YtjjlemkmdldljaaLocksT
import Derived.StillTailTactics
import Derived.RegionTactic
namespace Go.Proofs.Ytjjlemkmdldljaa.Locks
open Go.RowKit Go.Fb
set_option linter.unusedVariables false
theorem run_from1m {P : Program} (T E s : Nat) (hT : P.underlying T = some (.slice E)) (hs : ∀ W, (sizeOf E).run P W = .ok s W) (g o n c : Nat) (hc : n + 1 ≤ c) :
    ∃ A1, (A1 = some ⟨g, o + s, none⟩ ∨ n = 0) ∧ ∀ W, (Instr.slice T (.slice (some ⟨g, o, none⟩) (n + 1) c) (some (.int .i64 1)) (some (.int .i64 ((n : Int) + 1))) (some (.int .i64 ((n : Int) + 1)))).run P W = .ok (.slice A1 n n) W := by
  have he : P.elem T = E := by simp [Program.elem, hT]
  refine ⟨if n = 0 then some ⟨g, o, none⟩ else some ⟨g, o + s, none⟩, ?_, fun W => ?_⟩
  · by_cases h : n = 0
    · exact .inr h
    · rw [if_neg h]; exact .inl rfl
  · have := run_slice_lhm (P := P) W T (some ⟨g, o, none⟩) (n + 1) c (by rw [he]; exact hT) .i64 .i64 .i64 1 ((n : Int) + 1) ((n : Int) + 1) (by decide) (by omega) (by omega) (by omega)
    have e1 : ((n : Int) + 1).toNat = n + 1 := by omega
    rw [this, he, hs]
    simp [Result.andThen, sliced, add_eq, e1]
theorem tail_row {w : World} {r : Option Nat} {A : Option Addr} {gq oq m c : Nat} {y : Int} {ys : List Int} {A1 : Option Addr} (h : Row w 1 r A (m + 1) c ((y :: ys).map (Value.int .i64))) (hr : r = some gq) (hA : A = some ⟨gq, oq, none⟩) (hm : m = ys.length) (hA1 : A1 = some ⟨gq, oq + 1, none⟩ ∨ m = 0) :
    ∃ r', Row w 1 r' A1 m m (ys.map (Value.int .i64)) ∧ ∀ k, r' = some k → r = some k := by
  subst hr; subst hA
  have hb := h.bound
  by_cases h0 : m = 0
  · have e2 : ys = [] := List.eq_nil_of_length_eq_zero (by omega)
    exact ⟨none, ⟨by rw [e2, h0]; rfl, .inl ⟨rfl, h0, h0⟩⟩, by simp⟩
  · obtain ⟨g', o', e1, e2, hr'⟩ := h.cut (lo := 1) (hi := m + 1) (c' := m) (by omega) (Nat.le_refl _) (by omega) (by omega) (by omega)
    injection e2 with e2
    injection e2 with e3 e4
    subst e3; subst e4
    refine ⟨some gq, ?_, fun k hk => hk⟩
    rcases hA1 with e | e
    · rw [e]
      rw [show ((y :: ys).map (Value.int .i64)).drop (1 * 1) = ys.map (Value.int .i64) from rfl, show m + 1 - 1 = m by omega, List.take_of_length_le (by simp; omega)] at hr'
      exact hr'
    · omega
section
variable {w : World} {b : Nat} {F : Nat → Prop} {L : List (Int × List Int)}
theorem give_bad (h : At w b F L) (n p : Int) (he : wrongN L.length n p ≠ 0) : Calls Try.prog 14 #[.pointer (some ⟨b, 0, none⟩), .int .i64 n, .int .i64 p] w (Ends w b F L (.tuple #[.int .i64 0, .int .i64 (wrongN L.length n p)])) := by
  have hw := wrong_any h n p
  generalize wrongN L.length n p = x at *
  have hx : (x != 0) = true := by simpa using he
  have H := Lib.hid h
  have HW := Lib.hid hw
  clear h hw
  clear he
  go_enter Try.func14, Try.ntmps14
  go_wp2_with fail
  refine HW.out.mono ?_
  rintro e w' ⟨rfl, rfl⟩
  go_wp2_with fail
  go_ret2
  exact Ends.now H.out (Kept.refl _ _)
def giveAt (x : Int × List Int) (p : Int) : Int × List Int := if x.1 ≠ p then x else match x.2 with
  | [] => (-1, [])
  | y :: ys => (y, ys)
set_option maxHeartbeats 1000000 in
theorem give_good (h : At w b F L) (k : Nat) (p : Int) (hk : k < L.length) (hp0 : 0 ≤ p) : Calls Try.prog 14 #[.pointer (some ⟨b, 0, none⟩), .int .i64 (k : Int), .int .i64 p] w (Ends w b F (L.set k (giveAt L[k] p)) (.tuple #[.int .i64 (giveAt L[k] p).1, .int .i64 0])) := by
  have hw := wrong_any h k p
  rw [show wrongN L.length k p = 0 by unfold wrongN; rw [if_neg (by omega), if_neg (by omega)]] at hw
  have H := Lib.hid h
  obtain ⟨⟨r, A, c, X, rfl, hp, h1, h2⟩, h3, h4⟩ := h
  have hkX : k < X.length := by simpa using hk
  have hab : (X.map ab)[k] = (X[k].own, X[k].q) := by simp [ab]
  rw [hab]
  have hm : X[k] ∈ X := List.getElem_mem hkX
  obtain ⟨g, o, hr, hA, -⟩ := hp.at_ k hkX
  have hpos : k < X.length := hkX
  obtain ⟨N, hN⟩ : ∃ N, N = X.length := ⟨_, rfl⟩
  have hbd := hp.row.bound
  have hb2 := (hp.qs _ hm).bound
  rw [← hN] at hbd hpos
  have y0 := hp.blk.cell 0
  simp only [List.getElem?_toArray, List.getElem?_cons_zero] at y0
  rw [hA, ← hN] at y0
  obtain ⟨x0, x1, x2, x3⟩ := row_here hp.row k hkX hr hA
  have hset : (X.map ab).set k (X[k].own, X[k].q) = X.map ab := by rw [← hab]; exact List.set_getElem_self _
  clear hab
  by_cases ho : X[k].own = p
  · rw [ho] at x0
    cases hq : X[k].q with
    | nil =>
      have ht : giveAt (X[k].own, []) p = (-1, []) := by unfold giveAt; rw [if_neg (by simpa using ho)]
      rw [ht]
      rw [hq] at x1
      generalize hxA : X[k].A = xA at *
      generalize hxc : X[k].c = xc at *
      have HW := Lib.hid hw
      have H1 := Lib.hid h1
      have H2 := Lib.hid h2
      have H3 := Lib.hid h3
      have H4 := Lib.hid h4
      have HP := Lib.hid hp
      have HR := Lib.hid hr
      have HA := Lib.hid hA
      have HM := Lib.hid hm
      have HN := Lib.hid hN
      have HO := Lib.hid ho
      have HT := Lib.hid ht
      have HSET := Lib.hid hset
      have HQ := Lib.hid hq
      have HXA := Lib.hid hxA
      have HXC := Lib.hid hxc
      clear hw h1 h2 h3 h4 hp hr hA hm hN ho ht hset hq hxA hxc
      clear hb2
      go_enter Try.func14, Try.ntmps14
      go_wp2_with fail
      refine HW.out.mono ?_
      rintro e w' ⟨rfl, rfl⟩
      go_wp2_with fail
      go_ret2
      have hp' := HP.out.put_own hkX HR.out HA.out (-1)
      have hk' : Kept F w (w.setCell ⟨g, o + k * 2, none⟩ (.int .i64 (-1))) := (Kept.refl _ _).setCell (.inr (H1.out g HR.out)) _
      refine ⟨rfl, ?_, hk'⟩
      have e := Parts.ends H.out hp' (fun k hk => .inl (H1.out k hk)) (fun x hx k hk => ?_) hk'.size
      · rw [List.map_set] at e
        rw [show ab { X[k] with own := -1 } = (-1, []) by simp [ab, HQ.out]] at e
        exact e
      · rcases mem_set hx with rfl | hx
        · exact .inl (H2.out _ HM.out k hk)
        · exact .inl (H2.out _ hx k hk)
    | cons y ys =>
      have ht : giveAt (X[k].own, y :: ys) p = (y, ys) := by unfold giveAt; rw [if_neg (by simpa using ho)]
      rw [ht]
      rw [hq, List.length_cons] at x1
      rw [hq, List.length_cons] at hb2
      have hrow := hp.qs _ hm
      rw [hq, List.length_cons] at hrow
      obtain ⟨gq, oq, hrq, hAq, hce, -⟩ := hrow.at_pos (by omega)
      rw [hAq] at x1
      have q0 : w.cell? ⟨gq, oq, none⟩ = some (.int .i64 y) := by have := hce 0 (by omega); simpa using this
      obtain ⟨m, hmq⟩ : ∃ m, m = ys.length := ⟨_, rfl⟩
      rw [← hmq] at x1 hb2 hrow
      generalize hxc : X[k].c = xc at *
      obtain ⟨A1, hA1, hsl⟩ := run_from1m (P := Try.prog) 35 3 1 Try.underlying35 (fun W => by kernel_rfl) gq oq m xc hb2.1
      have hgg : ¬ gq = g := fun e => (hp.d2 _ hm gq hrq).2 (by rw [hr, e])
      have hp' := hp.put_own hkX hr hA y
      have hgs : ({ X[k] with own := y } : Lk).r = some gq := hrq
      have HW := Lib.hid hw
      have H1 := Lib.hid h1
      have H2 := Lib.hid h2
      have H3 := Lib.hid h3
      have H4 := Lib.hid h4
      have HP := Lib.hid hp
      have HR := Lib.hid hr
      have HA := Lib.hid hA
      have HM := Lib.hid hm
      have HN := Lib.hid hN
      have HO := Lib.hid ho
      have HT := Lib.hid ht
      have HSET := Lib.hid hset
      have HQ := Lib.hid hq
      have HXC := Lib.hid hxc
      have HMQ := Lib.hid hmq
      have HRQ := Lib.hid hrq
      have HAQ := Lib.hid hAq
      have HA1 := Lib.hid hA1
      have HP' := Lib.hid hp'
      have HROW := Lib.hid hrow
      have HGS := Lib.hid hgs
      clear hw h1 h2 h3 h4 hp hr hA hm hN ho ht hset hq hxc hmq hrq hAq hA1 hp' hrow hgs
      clear hce
      go_enter Try.func14, Try.ntmps14
      go_wp2_with fail
      refine HW.out.mono ?_
      rintro e w' ⟨rfl, rfl⟩
      go_wp2_with fail
      have y1 : (w.setCell ⟨g, o + k * 2, none⟩ (.int .i64 y)).cell? ⟨g, o + k * 2 + 1, none⟩ = some (.slice (some ⟨gq, oq, none⟩) (m + 1) xc) := (World.cell?_setCell_other _ _ _ _ (by intro e; injection e with _ e; omega)).trans x1
      have y2 : (w.setCell ⟨g, o + k * 2, none⟩ (.int .i64 y)).cell? ⟨g, o + k * 2, none⟩ = some (.int .i64 y) := World.cell?_setCell_same' _ _ _ (by rw [x0]; rfl)
      have y3 := (row_here HP'.out.row k (by simpa using hkX) HR.out HA.out).2.2.2
      have hk1 : Kept F w (w.setCell ⟨g, o + k * 2, none⟩ (.int .i64 y)) := (Kept.refl _ _).setCell (.inr (H1.out g HR.out)) _
      obtain ⟨rq, hrq1, hrq2⟩ := tail_row (((HROW.out).of_kept (by decide) (Kept.set1 w g (o + k * 2) (.int .i64 y)) (fun k h e => by subst e; rw [HRQ.out] at h; injection h with h; exact hgg h))) HRQ.out HAQ.out HMQ.out HA1.out
      have hp2 := HP'.out.put_queue (j := k) (q' := ys) (r' := rq) (A' := A1) (c' := m) (w2 := (w.setCell ⟨g, o + k * 2, none⟩ (.int .i64 y)).drew) (by simpa using hkX) HR.out HA.out (by rw [← HMQ.out]; exact Row.drewN hrq1 1) ((Kept.refl _ _).drew) (fun k' hk' => .inl (by rw [List.getElem_set_self]; exact hrq2 k' hk'))
      rw [← HMQ.out] at hp2
      generalize w.setCell ⟨g, o + k * 2, none⟩ (.int .i64 y) = W2 at *
      have HP2 := Lib.hid hp2
      have HK1 := Lib.hid hk1
      have HRQ1 := Lib.hid hrq1
      have HRQ2 := Lib.hid hrq2
      clear hp2 hk1 hrq1 hrq2
      clear x0 x1 x2 x3 q0
      go_still_tail 18, (by kernel_rfl)
      change wpList _ _ _ _ _ W2.drew
      go_wp2_with fail
      go_ret2
      have hk' : Kept F w (W2.drew.setCell ⟨g, o + k * 2 + 1, none⟩ (.slice A1 m m)) := (HK1.out.drew).setCell (.inr (H1.out g HR.out)) _
      refine ⟨rfl, ?_, hk'⟩
      have e := Parts.ends H.out HP2.out (fun k hk => .inl (H1.out k hk)) (fun x hx k' hk => ?_) hk'.size
      · rw [List.map_set, List.map_set, List.set_set] at e
        rw [show ab ⟨((X.set k { X[k] with own := y })[k]'(by simpa using hkX)).own, rq, A1, m, ys⟩ = (y, ys) by simp [ab]] at e
        exact e
      · rcases mem_set hx with rfl | hx
        · exact .inl (H2.out _ HM.out k' (HRQ2.out k' hk))
        · rcases mem_set hx with rfl | hx
          · exact .inl (H2.out _ HM.out k' hk)
          · exact .inl (H2.out _ hx k' hk)
  · have ht : giveAt (X[k].own, X[k].q) p = (X[k].own, X[k].q) := if_pos ho
    rw [ht, hset]
    generalize hv : X[k].own = v at *
    generalize hxA : X[k].A = xA at *
    generalize hxc : X[k].c = xc at *
    generalize hxq : X[k].q = xq at *
    have hv2 : (v != p) = true := by simpa using ho
    have HW := Lib.hid hw
    have H1 := Lib.hid h1
    have H2 := Lib.hid h2
    have H3 := Lib.hid h3
    have H4 := Lib.hid h4
    have HP := Lib.hid hp
    have HR := Lib.hid hr
    have HA := Lib.hid hA
    have HM := Lib.hid hm
    have HN := Lib.hid hN
    have HT := Lib.hid ht
    have HSET := Lib.hid hset
    have HV := Lib.hid hv
    have HXA := Lib.hid hxA
    have HXC := Lib.hid hxc
    have HXQ := Lib.hid hxq
    clear hw h1 h2 h3 h4 hp hr hA hm hN ht hset hv hxA hxc hxq
    clear hb2
    go_enter Try.func14, Try.ntmps14
    go_wp2_with fail
    refine HW.out.mono ?_
    rintro e w' ⟨rfl, rfl⟩
    go_wp2_with fail
    go_ret2
    exact Ends.now H.out (Kept.refl _ _)
end
end Go.Proofs.Ytjjlemkmdldljaa.Locks
