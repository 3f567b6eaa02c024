/- The walk of package locks' Take (layer 12). -/
import Derived.Test.YtjjlemkmdldljaaLocksZ
namespace Go.Proofs.Ytjjlemkmdldljaa.Locks
open Go.RowKit Go.Fb
set_option linter.unusedVariables false
section
variable {w : World} {b : Nat} {F : Nat → Prop} {L : List (Int × List Int)}
theorem Parts.ends {w' : World} {X' : List Lk} {r : Option Nat} {A : Option Addr} {c : Nat} (h : At w b F L) (hp : Parts w' b r A c X') (hr : ∀ k, r = some k → F k ∨ w.heap.size ≤ k) (hq : ∀ x ∈ X', ∀ k, x.r = some k → F k ∨ w.heap.size ≤ k) (hs : w.heap.size ≤ w'.heap.size) :
    At w' b (grow F w w') (X'.map ab) :=
  ⟨⟨r, A, c, X', rfl, hp, fun k hk => ⟨hr k hk, hp.row.lt (by decide) k hk⟩, fun x hx k hk => ⟨hq x hx k hk, (hp.qs x hx).lt (by decide) k hk⟩⟩, ⟨.inl h.fb, hp.blk.lt⟩, fun k hk => hk.2⟩
theorem mem_set {X : List Lk} {j : Nat} {y x : Lk} (h : x ∈ X.set j y) : x = y ∨ x ∈ X := (List.mem_or_eq_of_mem_set h).symm
theorem Ends.now {w' : World} {v : Value} (h : At w b F L) (hk : New w w') : Ends w b F L v (.returned v) w' := ⟨rfl, h.still hk, hk.mono fun _ _ h => h.elim⟩
theorem take_bad (h : At w b F L) (n p : Int) (he : wrongN L.length n p ≠ 0) : Calls Try.prog 13 #[.pointer (some ⟨b, 0, none⟩), .int .i64 n, .int .i64 p] w (Ends w b F L (.tuple #[.bool false, .int .i64 (wrongN L.length n p)])) := by
  have hw := wrong_any h n p
  generalize wrongN L.length n p = x at *
  have hx : (x != 0) = true := by simpa using he
  have H := Lib.hid h
  have HW := Lib.hid hw
  clear h hw
  clear he
  go_enter Try.func13, Try.ntmps13
  go_wp2_with fail
  refine HW.out.mono ?_
  rintro e w' ⟨rfl, rfl⟩
  go_wp2_with fail
  go_ret2
  exact Ends.now H.out (Kept.refl _ _)
theorem take_waits (h : At w b F L) (n p : Int) (he : wrongN L.length n p = 0) (hq : (waitAt L p).2 = true) : Calls Try.prog 13 #[.pointer (some ⟨b, 0, none⟩), .int .i64 n, .int .i64 p] w (Ends w b F L (.tuple #[.bool false, .int .i64 20])) := by
  have hw := wrong_any h n p
  have hwt := waits_any h p
  rw [he] at hw
  rw [hq] at hwt
  generalize (waitAt L p).1 = x at *
  have H := Lib.hid h
  have HW := Lib.hid hw
  have HWT := Lib.hid hwt
  clear h hw hwt
  clear he hq
  go_enter Try.func13, Try.ntmps13
  go_wp2_with fail
  refine HW.out.mono ?_
  rintro e w' ⟨rfl, rfl⟩
  go_wp2_with fail
  refine HWT.out.mono ?_
  rintro e w1 ⟨rfl, hk⟩
  have HK := Lib.hid hk
  clear hk
  go_wp2_with fail
  go_ret2
  exact Ends.now H.out HK.out
theorem wrong_zero {m : Nat} {n p : Int} (h : wrongN m n p = 0) : ∃ k : Nat, n = k ∧ k < m ∧ 0 ≤ p := by
  unfold wrongN at h
  by_cases h1 : n < 0 ∨ (m : Int) ≤ n
  · rw [if_pos h1] at h; cases h
  · rw [if_neg h1] at h
    by_cases h2 : p < 0
    · rw [if_pos h2] at h; cases h
    · exact ⟨n.toNat, by omega, by omega, by omega⟩
def takeAt (x : Int × List Int) (p : Int) : Int × List Int := if x.1 = -1 then (p, x.2) else if x.1 = p then x else (x.1, x.2 ++ [p])
set_option maxHeartbeats 1000000 in
theorem take_good (h : At w b F L) (k : Nat) (p : Int) (hk : k < L.length) (hp0 : 0 ≤ p) (hq : (waitAt L p).2 = false) (hlen : L[k].2.length ≤ 1048576) : Calls Try.prog 13 #[.pointer (some ⟨b, 0, none⟩), .int .i64 (k : Int), .int .i64 p] w (Ends w b F (L.set k (takeAt L[k] p)) (.tuple #[.bool (decide ((takeAt L[k] p).1 = p)), .int .i64 0])) := by
  have hw := wrong_any h k p
  rw [show wrongN L.length k p = 0 by unfold wrongN; rw [if_neg (by omega), if_neg (by omega)]] at hw
  have hwt := waits_any h p
  rw [hq] at hwt
  generalize (waitAt L p).1 = x at *
  have H := Lib.hid h
  obtain ⟨⟨r, A, c, X, rfl, hp, h1, h2⟩, h3, h4⟩ := h
  have hkX : k < X.length := by simpa using hk
  have hab : (X.map ab)[k] = (X[k].own, X[k].q) := by simp [ab]
  rw [hab] at hlen ⊢
  have hm : X[k] ∈ X := List.getElem_mem hkX
  obtain ⟨g, o, hr, hA, -⟩ := hp.at_ k hkX
  have HPW := Lib.hid (fun wr (hk : New w wr) => hp.new hk)
  have hpos : k < X.length := hkX
  obtain ⟨N, hN⟩ : ∃ N, N = X.length := ⟨_, rfl⟩
  have hbd := hp.row.bound
  have hb2 := (hp.qs _ hm).bound
  rw [← hN] at hbd hpos
  have hlen' : X[k].q.length ≤ 1048576 := hlen
  have HC := Lib.hid (fun wr (hk : New w wr) => show wr.cell? ⟨b, 0, none⟩ = some (.slice (some ⟨g, o, none⟩) N c) from by
    have hp := hp.new hk
    have c0 := hp.blk.cell 0
    simp only [List.getElem?_toArray, List.getElem?_cons_zero] at c0
    rw [c0, hA, ← hN])
  have hset : (X.map ab).set k (X[k].own, X[k].q) = X.map ab := by rw [← hab]; exact List.set_getElem_self _
  clear hab hlen
  by_cases ho : X[k].own = -1
  · have ht : takeAt (X[k].own, X[k].q) p = (p, X[k].q) := if_pos ho
    rw [ht]
    have HW := Lib.hid hw
    have HWT := Lib.hid hwt
    have H1 := Lib.hid h1
    have H2 := Lib.hid h2
    have H3 := Lib.hid h3
    have H4 := Lib.hid h4
    have HP := Lib.hid hp
    have HR := Lib.hid hr
    have HA := Lib.hid hA
    have HM := Lib.hid hm
    have HN := Lib.hid hN
    have HO := Lib.hid ho
    have HT := Lib.hid ht
    have HSET := Lib.hid hset
    clear hw hwt h1 h2 h3 h4 hp hr hA hm hN ho ht hset
    clear hq hlen' hb2
    go_enter Try.func13, Try.ntmps13
    go_wp2_with fail
    refine HW.out.mono ?_
    rintro e w' ⟨rfl, rfl⟩
    go_wp2_with fail
    refine HWT.out.mono ?_
    rintro e w1 ⟨rfl, hn1⟩
    have y0 := HC.out w1 hn1
    obtain ⟨x0, -, x2, -⟩ := row_here (HPW.out w1 hn1).row k hkX HR.out HA.out
    rw [HO.out] at x0
    have HN1 := Lib.hid hn1
    clear hn1
    go_wp2_with fail
    go_ret2
    have hp' := (HPW.out w1 HN1.out).put_own hkX HR.out HA.out p
    have hk' : Kept F w (w1.setCell ⟨g, o + k * 2, none⟩ (.int .i64 p)) := (HN1.out.mono fun _ _ h => h.elim).setCell (.inr (H1.out g HR.out)) _
    refine ⟨by simp, ?_, hk'⟩
    have e := Parts.ends H.out hp' (fun k hk => .inl (H1.out k hk)) (fun x hx k hk => ?_) hk'.size
    · rw [List.map_set] at e; exact e
    · rcases mem_set hx with rfl | hx
      · exact .inl (H2.out _ HM.out k hk)
      · exact .inl (H2.out _ hx k hk)
  · by_cases ho2 : X[k].own = p
    · have ht : takeAt (X[k].own, X[k].q) p = (X[k].own, X[k].q) := by unfold takeAt; rw [if_neg ho, if_pos ho2]
      rw [ht, hset]
      have hres : decide (X[k].own = p) = true := decide_eq_true ho2
      rw [show decide ((X[k].own, X[k].q).1 = p) = true from hres]
      have hne : ¬ p = -1 := by omega
      have HW := Lib.hid hw
      have HWT := Lib.hid hwt
      have H1 := Lib.hid h1
      have H2 := Lib.hid h2
      have H3 := Lib.hid h3
      have H4 := Lib.hid h4
      have HP := Lib.hid hp
      have HR := Lib.hid hr
      have HA := Lib.hid hA
      have HM := Lib.hid hm
      have HN := Lib.hid hN
      have HO := Lib.hid ho
      have HT := Lib.hid ht
      have HSET := Lib.hid hset
      have HO2 := Lib.hid ho2
      clear hw hwt h1 h2 h3 h4 hp hr hA hm hN ho ht hset ho2
      clear hq hlen' hb2 hres
      go_enter Try.func13, Try.ntmps13
      go_wp2_with fail
      refine HW.out.mono ?_
      rintro e w' ⟨rfl, rfl⟩
      go_wp2_with fail
      refine HWT.out.mono ?_
      rintro e w1 ⟨rfl, hn1⟩
      have y0 := HC.out w1 hn1
      obtain ⟨x0, -, -, -⟩ := row_here (HPW.out w1 hn1).row k hkX HR.out HA.out
      rw [HO2.out] at x0
      have HN1 := Lib.hid hn1
      clear hn1
      go_wp2_with fail
      go_ret2
      exact Ends.now H.out HN1.out
    · have ht : takeAt (X[k].own, X[k].q) p = (X[k].own, X[k].q ++ [p]) := by unfold takeAt; rw [if_neg ho, if_neg ho2]
      rw [ht]
      have hres : decide (X[k].own = p) = false := decide_eq_false ho2
      rw [show decide ((X[k].own, X[k].q ++ [p]).1 = p) = false from hres]
      obtain ⟨m, hmq⟩ : ∃ m, m = X[k].q.length := ⟨_, rfl⟩
      rw [← hmq] at hlen' hb2
      obtain ⟨v, hv⟩ : ∃ v, v = X[k].own := ⟨_, rfl⟩
      rw [← hv] at ho ho2
      obtain ⟨xA, hxA⟩ : ∃ v, v = X[k].A := ⟨_, rfl⟩
      obtain ⟨xc, hxc⟩ : ∃ v, v = X[k].c := ⟨_, rfl⟩
      rw [← hxc] at hb2
      have HW := Lib.hid hw
      have HWT := Lib.hid hwt
      have H1 := Lib.hid h1
      have H2 := Lib.hid h2
      have H3 := Lib.hid h3
      have H4 := Lib.hid h4
      have HP := Lib.hid hp
      have HR := Lib.hid hr
      have HA := Lib.hid hA
      have HM := Lib.hid hm
      have HN := Lib.hid hN
      have HT := Lib.hid ht
      have HSET := Lib.hid hset
      have HMQ := Lib.hid hmq
      have HV := Lib.hid hv
      have HXA := Lib.hid hxA
      have HXC := Lib.hid hxc
      clear hw hwt h1 h2 h3 h4 hp hr hA hm hN ht hset hmq hv hxA hxc
      clear hq hres
      go_enter Try.func13, Try.ntmps13
      go_wp2_with fail
      refine HW.out.mono ?_
      rintro e w' ⟨rfl, rfl⟩
      go_wp2_with fail
      refine HWT.out.mono ?_
      rintro e w1 ⟨rfl, hn1⟩
      have y0 := HC.out w1 hn1
      obtain ⟨x0, x1, x2, x3⟩ := row_here (HPW.out w1 hn1).row k hkX HR.out HA.out
      have hrow := (HPW.out w1 hn1).qs _ HM.out
      rw [← HV.out] at x0
      rw [← HXA.out, ← HMQ.out, ← HXC.out] at x1 hrow
      have HN1 := Lib.hid hn1
      have HROW := Lib.hid hrow
      clear hn1 hrow
      go_wp2_with (at_builtin; refine wpList_append_one (cs := [.int .i64 p]) tyInts rfl (.tmp 51) (.tmp 53) rfl rfl HROW.out rfl rfl rfl (by simp [Value.oneCell']) (by unfold maxLen; omega) (by omega) ?_; intro r2 A2 c2' w2 hr2 hk2 hn2; obtain ⟨z0, z1, z2, z3⟩ := row_here ((HPW.out w1 HN1.out).row.of_kept (by decide) hk2 (fun k h e => ((HPW.out w1 HN1.out).d2 _ HM.out k e).2 h)) k hkX HR.out HA.out; rw [← HV.out] at z0; have HR2 := Lib.hid hr2; have HK2 := Lib.hid hk2; have HN2 := Lib.hid hn2; clear hr2 hk2 hn2)
      go_ret2
      have hp' := (HPW.out w1 HN1.out).put_queue (q' := X[k].q ++ [p]) (r' := r2) (A' := A2) (c' := c2') (w2 := w2) hkX HR.out HA.out (by rw [List.length_append, List.map_append, ← HMQ.out]; exact HR2.out) HK2.out HN2.out
      rw [List.length_append, ← HMQ.out] at hp'
      have hk' : Kept F w (w2.setCell ⟨g, o + k * 2 + 1, none⟩ (.slice A2 (m + 1) c2')) := ((HN1.out.mono fun _ _ h => h.elim).step HK2.out fun k hk e => H2.out _ HM.out k e).setCell (.inr (H1.out g HR.out)) _
      refine ⟨by simp [Array.getD, ho2], ?_, hk'⟩
      have e := Parts.ends H.out hp' (fun k hk => .inl (H1.out k hk)) (fun x hx k hk => ?_) hk'.size
      · rw [List.map_set] at e; exact e
      · rcases mem_set hx with rfl | hx
        · rcases HN2.out k hk with e | e
          · exact .inl (H2.out _ HM.out k e)
          · exact .inr (Nat.le_trans HN1.out.size e)
        · exact .inl (H2.out _ hx k hk)
end
end Go.Proofs.Ytjjlemkmdldljaa.Locks
