/- The walk of the reference's Take (layer 12). -/
import Derived.Test.YtjjlemkmdldljaaLocksL
namespace Go.Proofs.Ytjjlemkmdldljaa.Locks
open Go.RowKit Go.Fb
set_option linter.unusedVariables false
/-- append of something to an empty slice, as one step of a region that draws. -/
theorem step_copy {P : Program} {w W : World} {t tx e : TypeId} {size bytes : Nat} (ty : SliceTy P t e size bytes) (hN : New w W) {ops : Array Oper} {o : Oper} {a : Act} {K : Act → World → Prop} {Q : Exit → Act → World → Prop} {E : Prop} (hgd : o.guard = none) (s x : Operand)
    (ho : o.op = .call { callee := .builtin .append, args := #[s, x], argTypes := #[t, tx] }) {A : Option Addr} (hs : a.eval s = .slice A 0 0)
    {vx : Value} {m : Nat} {news : List Value} (hx : a.eval x = vx) (hsrc : ∀ W', New w W' → Go.Src P size tx vx m news W') (h63 : m ≤ maxLen) (hbytes : m * bytes ≤ 140737488355328)
    (h : ∀ r' A' c' w', Row w' size r' A' m c' news → New w w' → New W w' → (∀ k, r' = some k → w.heap.size ≤ k) → K (a.put o.dst (.slice A' m c')) w') :
    if Region.wanted o (yielded ops a.tmps) = true then Oper.wp P o a W K Q else E := by
  refine step_append_row ty hgd s x ho hs (row_nil W size A) hx (hsrc W hN) (by omega) (by rw [Nat.zero_add]; exact hbytes) fun r' A' c' w' h1 h2 h3 => ?_
  have hk : New W w' := h2.mono fun k _ h => by cases h
  rw [Nat.zero_add, List.nil_append] at h1
  rw [Nat.zero_add]
  exact h r' A' c' w' h1 (hN.trans hk) hk fun k e => (h3 k e).elim (fun h => by cases h) fun h => Nat.le_trans hN.size h
/-- append of one thing that lies in a block of its own, to a row that is new. -/
theorem step_more {P : Program} {w W : World} {t e : TypeId} {bytes : Nat} (ty : SliceTy P t e 1 bytes) (hN : New w W) {ops : Array Oper} {o : Oper} {a : Act} {K : Act → World → Prop} {Q : Exit → Act → World → Prop} {E : Prop} (hgd : o.guard = none) (s x : Operand)
    (ho : o.op = .call { callee := .builtin .append, args := #[s, x], argTypes := #[t, t] }) {r : Option Nat} {A : Option Addr} {n c : Nat} {xs : List Value} (hs : a.eval s = .slice A n c) (hrow : Row W 1 r A n c xs) (hf : ∀ k, r = some k → w.heap.size ≤ k)
    {g c0 : Nat} (hx : a.eval x = .slice (some ⟨g, 0, none⟩) 1 c0) {v : Value} (hc : W.cell? ⟨g, 0, none⟩ = some v) (hv : v.oneCell' = true) (h63 : n + 1 ≤ maxLen) (hbytes : (n + 1) * bytes ≤ 140737488355328)
    (h : ∀ r' A' c' w', Row w' 1 r' A' (n + 1) c' (xs ++ [v]) → New w w' → (∀ k, r' = some k → w.heap.size ≤ k) → K (a.put o.dst (.slice A' (n + 1) c')) w') :
    if Region.wanted o (yielded ops a.tmps) = true then Oper.wp P o a W K Q else E := by
  refine step_append_row ty hgd s x ho hs hrow hx (Go.Src.ofSlice W ty.under _ 1 c0 [v] (by simp) (fun j u hj => ?_) (by simpa using hv)) h63 hbytes fun r' A' c' w' h1 h2 h3 => ?_
  · cases j with
    | zero => simp at hj; subst hj; rw [add_eq]; exact hc
    | succ j => simp at hj
  · exact h r' A' c' w' h1 (hN.step h2 fun k hk e => by have := hf k e; omega) fun k e => (h3 k e).elim (fun h => hf k h) fun h => Nat.le_trans hN.size h
section
variable {w w' : World} {b : Nat} {F : Nat → Prop} {L : List (Int × List Int)}
theorem rtake_bad (h : RAt w b F L) (n p : Int) (he : wrongN L.length n p ≠ 0) : Calls Try.prog 29 #[.pointer (some ⟨b, 0, none⟩), .int .i64 n, .int .i64 p] w (REnds w b F L (.tuple #[.bool false, .int .i64 (wrongN L.length n p)])) := by
  have hw := asked_any h n p
  generalize wrongN L.length n p = x at *
  have hx : (x != 0) = true := by simpa using he
  have H := Lib.hid h
  have HW := Lib.hid hw
  clear h hw
  clear he
  go_enter Try.func29, Try.ntmps29
  go_wp2_with fail
  refine HW.out.mono ?_
  rintro e w' ⟨rfl, rfl⟩
  go_wp2_with fail
  go_ret2
  exact REnds.now H.out (Kept.refl _ _)
theorem rtake_waits (h : RAt w b F L) (n p : Int) (he : wrongN L.length n p = 0) (hq : (waitAt L p).2 = true) : Calls Try.prog 29 #[.pointer (some ⟨b, 0, none⟩), .int .i64 n, .int .i64 p] w (REnds w b F L (.tuple #[.bool false, .int .i64 20])) := by
  have hw := asked_any h n p
  have hwt := rwaits_any h p
  rw [he] at hw
  rw [hq] at hwt
  generalize (waitAt L p).1 = x at *
  have H := Lib.hid h
  have HW := Lib.hid hw
  have HWT := Lib.hid hwt
  clear h hw hwt
  clear he hq
  go_enter Try.func29, Try.ntmps29
  go_wp2_with fail
  refine HW.out.mono ?_
  rintro e w' ⟨rfl, rfl⟩
  go_wp2_with fail
  refine HWT.out.mono ?_
  rintro e w1 ⟨rfl, rfl⟩
  go_wp2_with fail
  go_ret2
  exact REnds.now H.out (Kept.refl _ _)
theorem map_same1 (L : List (Int × List Int)) (k : Nat) (hk : k < L.length) (x : Int × List Int) (h : x.1 = L[k].1) : (L.set k x).map (·.1) = L.map (·.1) := by
  rw [List.map_set, h]
  have : L[k].1 = (L.map (·.1))[k]'(by simpa using hk) := by simp
  rw [this, List.set_getElem_self]
set_option maxHeartbeats 4000000 in
theorem rtake_good (h : RAt w b F L) (k : Nat) (p : Int) (hk : k < L.length) (hp0 : 0 ≤ p) (hq : (waitAt L p).2 = false) (hlen : L[k].2.length ≤ 1048576) : Calls Try.prog 29 #[.pointer (some ⟨b, 0, none⟩), .int .i64 (k : Int), .int .i64 p] w (REnds w b F (L.set k (takeAt L[k] p)) (.tuple #[.bool (decide ((takeAt L[k] p).1 = p)), .int .i64 0])) := by
  have hw := asked_any h k p
  rw [show wrongN L.length k p = 0 by unfold wrongN; rw [if_neg (by omega), if_neg (by omega)]] at hw
  have hwt := rwaits_any h p
  rw [hq] at hwt
  generalize (waitAt L p).1 = x at *
  have H := Lib.hid h
  obtain ⟨⟨ro, Ao, co, rq, Aq, cq, Y, hp, hY⟩, h4⟩ := h
  obtain ⟨y0, y1, -, -, b1, b2, b3, b4⟩ := hp.cells
  obtain ⟨g, o, hro, rfl, x0, xf⟩ := hp.own_at k hk
  rw [map_own_getD L k hk] at x0
  obtain ⟨g2, o2, hy, hrq, rfl, x2, x2f⟩ := hp.queue_at k hk
  obtain ⟨_, hqk⟩ := RAt.q_at hp hY k hk
  have hg2b : ¬ g2 = b := fun e => hp.b2 (by rw [hrq, e])
  have hpos : k < L.length := hk
  obtain ⟨N, hN⟩ : ∃ N, N = L.length := ⟨_, rfl⟩
  rw [← hN] at y0 y1 b1 b3 hpos
  have e2 : (0 : Int) ≤ (k : Int) := by omega
  have e3 : (k : Int) < (N : Int) := by omega
  obtain ⟨v, hv⟩ : ∃ v, v = L[k].1 := ⟨_, rfl⟩
  rw [← hv] at x0
  by_cases ho : v = -1 ∨ v = p
  · have ht : takeAt L[k] p = (p, L[k].2) := by
      unfold takeAt
      rcases ho with ho | ho
      · rw [if_pos (by rw [← hv]; exact ho)]
      · by_cases h' : L[k].1 = -1
        · rw [if_pos h']
        · rw [if_neg h', if_pos (by rw [← hv]; exact ho)]
          exact Prod.ext (by rw [← hv]; exact ho) rfl
    rw [ht, show decide ((p, L[k].2).1 = p) = true from decide_eq_true rfl]
    have hpk := hp.set_own hro rfl k hk p
    have hend := RParts.ends (L' := L.set k (p, L[k].2)) H.out (hpk.mono fun j hj => .inl hj) (by simp) (map_set1 L k (p, L[k].2)).symm (by rw [hY, map_same2 L k hk (p, L[k].2) rfl])
    have hk0 : Kept F w (w.setCell ⟨g, o + k, none⟩ (.int .i64 p)) := (Kept.refl _ _).setCell (.inr (hp.f1 g hro)) _
    by_cases h1 : v = -1
    · subst h1
      have HW := Lib.hid hw
      have HWT := Lib.hid hwt
      have H4 := Lib.hid h4
      have HP := Lib.hid hp
      have HY := Lib.hid hY
      have HRO := Lib.hid hro
      have HRQ := Lib.hid hrq
      have HQK := Lib.hid hqk
      have HN := Lib.hid hN
      have HV := Lib.hid hv
      have HT := Lib.hid ht
      have HPK := Lib.hid hpk
      have HEND := Lib.hid hend
      have HK0 := Lib.hid hk0
      clear hw hwt h4 hp hY hro hrq hqk hN hv ht hpk hend hk0
      clear hq hlen ho
      go_enter Try.func29, Try.ntmps29
      go_wp2_with fail
      refine HW.out.mono ?_
      rintro e w' ⟨rfl, rfl⟩
      go_wp2_with fail
      refine HWT.out.mono ?_
      rintro e w1 ⟨rfl, rfl⟩
      go_wp2_with fail
      go_ret2
      exact ⟨rfl, HEND.out, HK0.out⟩
    · have h2 : v = p := ho.resolve_left h1
      subst h2
      have h1' : (v == -1) = false := by simpa using h1
      have HW := Lib.hid hw
      have HWT := Lib.hid hwt
      have H4 := Lib.hid h4
      have HP := Lib.hid hp
      have HY := Lib.hid hY
      have HRO := Lib.hid hro
      have HRQ := Lib.hid hrq
      have HQK := Lib.hid hqk
      have HN := Lib.hid hN
      have HV := Lib.hid hv
      have HT := Lib.hid ht
      have HPK := Lib.hid hpk
      have HEND := Lib.hid hend
      have HK0 := Lib.hid hk0
      clear hw hwt h4 hp hY hro hrq hqk hN hv ht hpk hend hk0
      clear hq hlen ho h1
      go_enter Try.func29, Try.ntmps29
      go_wp2_with fail
      refine HW.out.mono ?_
      rintro e w' ⟨rfl, rfl⟩
      go_wp2_with fail
      refine HWT.out.mono ?_
      rintro e w1 ⟨rfl, rfl⟩
      go_wp2_with fail
      go_ret2
      exact ⟨rfl, HEND.out, HK0.out⟩
  · have n1 : ¬ v = -1 := fun e => ho (.inl e)
    have n2 : ¬ v = p := fun e => ho (.inr e)
    have ht : takeAt L[k] p = (v, L[k].2 ++ [p]) := by unfold takeAt; rw [if_neg (by rw [← hv]; exact n1), if_neg (by rw [← hv]; exact n2), hv]
    rw [ht, show decide ((v, L[k].2 ++ [p]).1 = p) = false from decide_eq_false n2]
    have hqrow := hp.told.el _ (List.getElem_mem hy)
    generalize hAq : Y[k].A = Aq at *
    generalize hcq : Y[k].c = ccq at *
    generalize hrr : Y[k].r = rr at *
    rw [hqk] at hqrow x2
    obtain ⟨q, hqq⟩ : ∃ q, q = L[k].2 := ⟨_, rfl⟩
    rw [← hqq] at hqrow x2 hlen ⊢
    obtain ⟨m, hm⟩ : ∃ m, m = q.length := ⟨_, rfl⟩
    rw [← hm] at hqrow x2 hlen
    have hqb := hqrow.bound
    have n1' : (v == -1) = false := by simpa using n1
    have n2' : (v == p) = false := by simpa using n2
    have ne1 := World.new_ne w _ y1
    have ne2 := World.new_ne w _ x2
    have hlt2 := (lt_of_cell x2).1
    have HSRC := Lib.hid (fun W (hW : New w W) => row_src' (P := Try.prog) (T := 35) Try.underlying35 (hqrow.new (by decide) hW))
    have HALL := Lib.hid (fun W (hW : New w W) => And.intro ((hW.cell (p := ⟨b, 1, none⟩) (lt_of_cell y1).1 id).trans y1) (And.intro ((hW.cell (p := ⟨g2, o2 + k, none⟩) hlt2 id).trans x2) ((hW.frozen (p := ⟨g2, o2 + k, none⟩) hlt2 id).trans x2f)))
    have HW := Lib.hid hw
    have HWT := Lib.hid hwt
    have H4 := Lib.hid h4
    have HP := Lib.hid hp
    have HY := Lib.hid hY
    have HRO := Lib.hid hro
    have HRQ := Lib.hid hrq
    have HQK := Lib.hid hqk
    have HN := Lib.hid hN
    have HV := Lib.hid hv
    have HT := Lib.hid ht
    have HAQ := Lib.hid hAq
    have HCQ := Lib.hid hcq
    have HRR := Lib.hid hrr
    have HQQ := Lib.hid hqq
    have HM := Lib.hid hm
    have HQROW := Lib.hid hqrow
    clear hw hwt h4 hp hY hro hrq hqk hN hv ht hAq hcq hrr hqq hm hqrow
    clear hq ho n1 n2
    go_enter Try.func29, Try.ntmps29
    go_wp2_with fail
    refine HW.out.mono ?_
    rintro e w' ⟨rfl, rfl⟩
    go_wp2_with fail
    refine HWT.out.mono ?_
    rintro e w1 ⟨rfl, rfl⟩
    go_upto_region 10 with (fail)
    clear y0 x0 xf
    have HFIN : Hid (∀ w5 r5 A5 c5, Row w5 1 r5 A5 (m + 1) c5 (q.map (Value.int .i64) ++ [.int .i64 p]) → New w w5 → (∀ j, r5 = some j → w.heap.size ≤ j) →
        RAt (w5.setCell ⟨g2, o2 + k, none⟩ (.slice A5 (m + 1) c5)) b (grow F w (w5.setCell ⟨g2, o2 + k, none⟩ (.slice A5 (m + 1) c5))) (L.set k (v, q ++ [p])) ∧ Kept F w (w5.setCell ⟨g2, o2 + k, none⟩ (.slice A5 (m + 1) c5))) := Lib.hid fun w5 r5 A5 c5 hR5 hN5 hF5 => by
      have hys : Row w5 1 r5 A5 (q ++ [p]).length c5 ((q ++ [p]).map (Value.int .i64)) := by rw [List.length_append, ← HM.out, List.map_append]; exact hR5
      have hp5 := HP.out.set_queue HRQ.out rfl k hk hN5 (y := ⟨0, r5, A5, c5, q ++ [p]⟩) hys hF5 (G := fun j => F j ∨ w.heap.size ≤ j) (fun j h => .inl h) (fun j h => .inr (hF5 j h))
      have hkf : Kept F w (w5.setCell ⟨g2, o2 + k, none⟩ (slC ⟨0, r5, A5, c5, q ++ [p]⟩)) := (hN5.mono fun _ _ h => h.elim).setCell (.inr (HP.out.f2 g2 HRQ.out)) _
      have hend := RParts.ends (L' := L.set k (v, q ++ [p])) H.out hp5 (by simp) (map_same1 L k hk (v, q ++ [p]) HV.out).symm (map_set2 L Y HY.out k _ _ rfl)
      rw [show slC ⟨0, r5, A5, c5, q ++ [p]⟩ = .slice A5 (m + 1) c5 by simp [slC, HM.out]] at hkf hend
      exact ⟨hend, hkf⟩
    have kA : New w (w.alloc (.cells #[] 3)) := (Kept.refl _ _).alloc _
    have kB : New w (w.alloc (.cells #[.int .i64 p] 3)) := (Kept.refl _ _).alloc _
    obtain ⟨pA1, pA2, pA3⟩ := HALL.out _ kA
    obtain ⟨pB1, pB2, pB3⟩ := HALL.out _ kB
    obtain ⟨pC1, pC2, pC3⟩ := HALL.out _ (kA.alloc (.cells #[.int .i64 p] 3))
    obtain ⟨pD1, pD2, pD3⟩ := HALL.out _ (kB.alloc (.cells #[] 3))
    clear kA kB
    go_region_law (first
        | (show (if Region.wanted ⟨some 64, _, _, _, _, _⟩ _ = true then _ else _)
           refine step_copy (w := w) tyInts (by first | exact ((Kept.refl _ _).drew).alloc _ | exact (((Kept.refl _ _).drew).alloc _).alloc _ | exact ((Kept.refl _ _).alloc _).drew | exact (((Kept.refl _ _).alloc _).alloc _).drew) (by rfl) (.tmp 56) (.tmp 63) (by rfl) (by rfl) (by rfl) HSRC.out (by unfold maxLen; omega) (by omega) ?_
           intro r3 A3 c3 w3 hr3 hk3 hk3' hn3
           obtain ⟨q1, q2, q3⟩ := HALL.out w3 hk3
           obtain ⟨t1, t2, t3⟩ := HALL.out _ (hk3.alloc (.cells #[.int .i64 p] 3))
           have HR3 := Lib.hid hr3; have HF3 := Lib.hid hn3; have HN3 := Lib.hid hk3
           have HX := Lib.hid (fun g v (h : World.cell? _ ⟨g, 0, none⟩ = some v) => (hk3'.cell (p := ⟨g, 0, none⟩) (lt_of_cell h).1 id).trans h)
           clear hr3 hn3 hk3 hk3')
        | (show (if Region.wanted ⟨some 67, _, _, _, _, _⟩ _ = true then _ else _)
           first
             | (refine step_more (w := w) tyInts HN3.out (by rfl) (.tmp 64) (.tmp 66) (by rfl) (by rfl) HR3.out HF3.out (by rfl) (v := .int .i64 p) (HX.out _ _ ?_) (by simp [Value.oneCell']) (by unfold maxLen; omega) (by omega) ?_; · (simp; done))
             | (refine step_more (w := w) tyInts (HN3.out.alloc _) (by rfl) (.tmp 64) (.tmp 66) (by rfl) (by rfl) (HR3.out.new (by decide) ((Kept.refl _ _).alloc _)) HF3.out (by rfl) (v := .int .i64 p) ?_ (by simp [Value.oneCell']) (by unfold maxLen; omega) (by omega) ?_; · (simp; done))
             | fail
           intro r5 A5 c5 w5 hr5 hk5 hn5
           obtain ⟨s1, s2, s3⟩ := HALL.out w5 hk5
           have HR5 := Lib.hid hr5; have HF5 := Lib.hid hn5; have HN5 := Lib.hid hk5; clear hr5 hn5 hk5)
        | fail)
    all_goals
      obtain ⟨hend, hkf⟩ := HFIN.out w5 r5 A5 c5 HR5.out HN5.out HF5.out
      have HEND := Lib.hid hend
      have HKF := Lib.hid hkf
      clear hend hkf
      clear s1 s2 s3
      go_wp2_with fail
      go_ret2
      exact ⟨rfl, HEND.out, HKF.out⟩
end
end Go.Proofs.Ytjjlemkmdldljaa.Locks
