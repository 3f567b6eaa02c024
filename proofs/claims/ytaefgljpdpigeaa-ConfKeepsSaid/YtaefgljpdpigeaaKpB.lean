/- The walk of the laws' wreck (layer 14): all lists of a config are written over, and grown. Printed by wip/tools/mkKw14.py. -/
import Derived.Test.YtaefgljpdpigeaaKpA
namespace Go.Proofs.Ytaefgljpdpigeaa.Conf
open Go.RowKit Go.Fb Go.CodeP Go.BytesP Go.ReaderP
set_option linter.unusedVariables false
/-- All lists have a mark alone. -/
def Marked (mk : Int) (c : Cf) : Prop := (∀ x ∈ c.labels, x = mk) ∧ (∀ x ∈ c.table, x = mk) ∧ ∀ i (h : i < c.procs.length), ∀ x ∈ c.procs[i].2, x = ⟨mk, i, 0, 0, 0⟩
/-- What wreck leaves. -/
def Wrecked (w w' : World) (e : Ending) (F : Nat → Prop) (mk : Int) : Prop :=
  ∃ (c : Cf) (Dl : Option Addr) (dl : Nat) (Dt : Option Addr) (dt : Nat) (Dp : Option Addr) (dp : Nat) (F' : Nat → Prop), e = .returned (.agg (confC c Dl dl Dt dt Dp dp).toArray) ∧ OwnC w' F' c Dl dl Dt dt Dp dp ∧ Marked mk c ∧ (∀ k, F' k → F k ∨ w.heap.size ≤ k) ∧ (∀ k, F' k → k < w'.heap.size) ∧ Kept F w w'
theorem osl_set {α : Type} {O : ORep α} {w : World} {F : Nat → Prop} {A : Option Addr} {n c : Nat} {l : List α} (h : OSl O w F A n c l) (hs : O.size = 1) {i : Nat} (hi : i < l.length) {x : α} {v : Value} (hx : O.own w (fun _ => False) x [v]) : ∃ g o u, A = some ⟨g, o, none⟩ ∧ w.cell? ⟨g, o + i, none⟩ = some u ∧ w.frozen? ⟨g, o + i, none⟩ = false ∧ OSl O (w.setCell ⟨g, o + i, none⟩ v) F A n c (l.set i x) ∧ Kept F w (w.setCell ⟨g, o + i, none⟩ v) := by
  obtain ⟨g, o, hA, hg, hlt, hc⟩ := h.at_some hi
  have h0 := hc 0 (by omega)
  rw [hs, Nat.mul_one, Nat.add_zero] at h0
  obtain ⟨u, hu⟩ := Option.isSome_iff_exists.1 h0.1
  exact ⟨g, o, u, hA, hu, h0.2, (h.set1 hs hi hA hx (fun _ e => e.elim)).mono (fun k e => by rcases e with e | e; exact e; exact e.elim), (Kept.refl _ _).setCell (.inr hg) _⟩
theorem marked_set {l : List Int} {k : Nat} {mk : Int} (hk : k < l.length) (h : ∀ j, j < k → l[j]? = some mk) : ∀ j, j < k + 1 → (l.set k mk)[j]? = some mk := fun j hj => by
  by_cases e : j = k
  · subst e; rw [List.getElem?_set_self hk]
  · rw [List.getElem?_set_ne (fun h => e h.symm)]; exact h j (by omega)
theorem marked_all {l : List Int} {mk : Int} (h : ∀ j, j < l.length → l[j]? = some mk) : ∀ x ∈ l, x = mk := fun x hx => by
  obtain ⟨i, hi, rfl⟩ := List.mem_iff_getElem.1 hx
  have := h i hi
  rw [List.getElem?_eq_getElem hi] at this
  exact Option.some.inj this
theorem marked_snoc {l : List Int} {mk : Int} (h : ∀ x ∈ l, x = mk) : ∀ x ∈ l ++ [mk], x = mk := fun x hx => by
  rcases List.mem_append.1 hx with hx | hx
  · exact h x hx
  · exact List.mem_singleton.1 hx
theorem ins_marked {l : List Ins} {k : Nat} {x : Ins} (hk : k < l.length) (h : ∀ j, j < k → l[j]? = some x) : ∀ j, j < k + 1 → (l.set k x)[j]? = some x := fun j hj => by
  by_cases e : j = k
  · subst e; rw [List.getElem?_set_self hk]
  · rw [List.getElem?_set_ne (fun h => e h.symm)]; exact h j (by omega)
theorem ins_all {l : List Ins} {x : Ins} (h : ∀ j, j < l.length → l[j]? = some x) : ∀ y ∈ l, y = x := fun y hy => by
  obtain ⟨i, hi, rfl⟩ := List.mem_iff_getElem.1 hy
  have := h i hi
  rw [List.getElem?_eq_getElem hi] at this
  exact Option.some.inj this
theorem procs_marked {L : List (Int × List Ins)} {k : Nat} {mk part : Int} {code : List Ins} (h : ∀ j, j < k → ∀ p, L[j]? = some p → ∀ x ∈ p.2, x = ⟨mk, j, 0, 0, 0⟩) (hc : ∀ y ∈ code, y = ⟨mk, k, 0, 0, 0⟩) : ∀ j, j < k + 1 → ∀ p, (L.set k (part, code))[j]? = some p → ∀ x ∈ p.2, x = ⟨mk, j, 0, 0, 0⟩ := fun j hj p hp x hx => by
  by_cases e : j = k
  · subst e
    by_cases hl : j < L.length
    · rw [List.getElem?_set_self hl] at hp
      injection hp with hp
      subst hp
      exact hc x hx
    · rw [List.getElem?_eq_none (by rw [List.length_set]; omega)] at hp
      cases hp
  · rw [List.getElem?_set_ne (fun h => e h.symm)] at hp; exact h j (by omega) p hp x hx
theorem wf_mark {mk : Int} {k : Nat} (h : (Lit.int .i64 mk).wf = true) (hk : k ≤ 1048576) : Code.Wf ⟨mk, k, 0, 0, 0⟩ :=
  ⟨h, by simp [Lit.wf, IntKind.min, IntKind.max, IntKind.signed, IntKind.bits]; omega, show (Lit.int .i64 0).wf = true by decide, show (Lit.int .i64 0).wf = true by decide, show (Lit.int .i64 0).wf = true by decide⟩
theorem procs_short {L : List (Int × List Ins)} {k b : Nat} {part : Int} {code : List Ins} (h : ∀ p ∈ L, p.2.length ≤ b) (hc : code.length ≤ b) : ∀ p ∈ L.set k (part, code), p.2.length ≤ b := fun p hp => by
  rcases List.mem_or_eq_of_mem_set hp with hp | rfl
  · exact h p hp
  · exact hc
theorem procs_push {L : List (Int × List Ins)} {k : Nat} {mk part : Int} {code : List Ins} (hq : L[k]? = some (part, code)) (h : ∀ (j : Nat) (p : Int × List Ins), L[j]? = some p → ∀ x ∈ p.2, x = ⟨mk, j, 0, 0, 0⟩) : ∀ (j : Nat) (p : Int × List Ins), (L.set k (part, code ++ [⟨mk, k, 0, 0, 0⟩]))[j]? = some p → ∀ x ∈ p.2, x = ⟨mk, j, 0, 0, 0⟩ := fun j p hp x hx => by
  by_cases e : j = k
  · subst e
    have hl : j < L.length := (List.getElem?_eq_some_iff.1 hq).1
    rw [List.getElem?_set_self hl] at hp
    injection hp with hp
    subst hp
    rcases List.mem_append.1 hx with hx | hx
    · exact h j _ hq x hx
    · exact List.mem_singleton.1 hx
  · rw [List.getElem?_set_ne (fun h => e h.symm)] at hp
    exact h j p hp x hx
section
variable {w : World} {F : Nat → Prop} {c : Cf} {Al At Ap : Option Addr} {cl ct cp : Nat} {mk : Int}
set_option maxRecDepth 100000 in
set_option maxHeartbeats 8000000 in
theorem wreck_any (h0 : 0 ≤ mk) (h1 : mk ≤ 1000) (h : OwnC w F c Al cl At ct Ap cp) (hF : ∀ k, F k → k < w.heap.size) (hfew : FewC c) : Calls Try.prog 17 #[.agg (confC c Al cl At ct Ap cp).toArray, .int .i64 mk] w fun e w' => Wrecked w w' e F mk := by
  unfold Wrecked
  obtain ⟨ls, tb, x2, x3, x4, x5, ps⟩ := c
  obtain ⟨Fl, Ft, Fp, hol, hot, hop, hsub, hdis⟩ := h
  obtain ⟨hf1, hf2, hf3, hf4⟩ := hfew
  unfold confC
  simp only at hf1 hf2 hf3 hf4 hol hot hop ⊢
  obtain ⟨ro, xs, Fi, hrow, hnp, hro, hFi, hFd, hown⟩ := hop
  have hbl := hol.bound
  have hbt := hot.bound
  have hbp := hrow.bound
  have k1 : New w (w.alloc (.cells #[.slice Al ls.length cl, .slice At tb.length ct, .int .i64 x2, .int .i64 x3, .int .i64 x4, .int .i64 x5, .slice Ap ps.length cp] 26)) := (Kept.refl _ _).alloc _
  have b1 := (Blk.made w 26 #[.slice Al ls.length cl, .slice At tb.length ct, .int .i64 x2, .int .i64 x3, .int .i64 x4, .int .i64 x5, .slice Ap ps.length cp]).alloc (.cells zeroC 26)
  have k2 := k1.alloc (.cells zeroC 26)
  have b2 := Blk.made (w.alloc (.cells #[.slice Al ls.length cl, .slice At tb.length ct, .int .i64 x2, .int .i64 x3, .int .i64 x4, .int .i64 x5, .slice Ap ps.length cp] 26)) 26 zeroC
  rw [← size1] at b2
  have hcw : w.heap.size ≤ w.heap.size := Nat.le_refl _
  have hne : w.heap.size + 1 ≠ w.heap.size := by omega
  have hrbw : w.heap.size ≤ w.heap.size + 1 := Nat.le_succ _
  have hFF : ∀ k, Fl k ∨ Ft k ∨ ro = some k ∨ (∃ i, Fi i k) → F k := fun k e => by
    rcases e with e | e | e | ⟨i, e⟩
    · exact hsub k (.inl e)
    · exact hsub k (.inr (.inl e))
    · exact hsub k (.inr (.inr (hro k e)))
    · exact hsub k (.inr (.inr (hFi i k e).1))
  have hst : Wk w ((w.alloc (.cells #[.slice Al ls.length cl, .slice At tb.length ct, .int .i64 x2, .int .i64 x3, .int .i64 x4, .int .i64 x5, .slice Ap ps.length cp] 26)).alloc (.cells zeroC 26)) F w.heap.size (w.heap.size + 1) #[.slice Al ls.length cl, .slice At tb.length ct, .int .i64 x2, .int .i64 x3, .int .i64 x4, .int .i64 x5, .slice Ap ps.length cp] Fl Ft (fun k => ro = some k) (fun k => ∃ i, Fi i k)
      (fun W => OSl u64O W Fl Al ls.length cl ls) (fun W => OSl i64O W Ft At tb.length ct tb) (fun W => Row W 2 ro Ap ps.length cp xs) (fun W => ∀ i (h : i < ps.length), procO.own W (Fi i) ps[i] ((xs.drop (i * 2)).take 2)) :=
    ⟨b1, b2, hol.new k2, hot.new k2, hrow.new (by decide) k2, fun i hi => procO.kept (hown i hi) k2 (fun _ _ e => e), fun a b d => a.kept b d, fun a b d => a.kept b d, fun a b d => a.of_kept (by decide) b d, fun a b d i hi => procO.kept (a i hi) b (fun k e => d k ⟨i, e⟩), fun k e => by
        have h1 := hFF k e
        have h2 := hF k h1
        have h3 := k2.size
        exact ⟨.inl h1, by omega, by omega, by omega⟩,
      fun k a b => ((hdis k).1 a).1 b, fun k a b => ((hdis k).1 a).2 (hro k b), fun k a ⟨i, b⟩ => ((hdis k).1 a).2 (hFi i k b).1, fun k a b => (hdis k).2 a (hro k b), fun k a ⟨i, b⟩ => (hdis k).2 a (hFi i k b).1, fun k a ⟨i, b⟩ => (hFi i k b).2 a, k2.mono fun _ _ e => e.elim⟩
  unfold zeroC at hst
  have wu : IntKind.u64.wrap mk = mk := IntWalk.u64_in _ (by omega)
  have hmw : (Lit.int .u64 mk).wf = true := by simp [Lit.wf, IntKind.min, IntKind.max, IntKind.signed, IntKind.bits]; omega
  have hmi : (Lit.int .i64 mk).wf = true := by simp [Lit.wf, IntKind.min, IntKind.max, IntKind.signed, IntKind.bits]; omega
  have HST := Lib.hid hst
  have HFI := Lib.hid hFi
  have HFD := Lib.hid hFd
  have HNP := Lib.hid hnp
  have HF4 := Lib.hid hf4
  have HFF := Lib.hid hFF
  have HMW := Lib.hid hmw
  have HMI := Lib.hid hmi
  clear hst hFi hFd hnp hf4 hFF hmw hmi
  clear k1 b1 k2 b2 hol hot hrow hown hro hsub hdis hF
  go_enter Try.func17, Try.ntmps17
  go_upto_region 1 with fail
  generalize World.alloc (World.alloc w _) _ = w1 at *
  generalize w.heap.size + 1 = rb at *
  have y0 := HST.out.blk.cell 0
  simp only [List.getElem?_toArray, List.getElem?_cons_zero] at  y0
  go_wp2_with fail
  clear y0
  go_loopw [15] (fun i wr => ∃ (k : Nat) (l : List Int), i = .int .i64 k ∧ k ≤ ls.length ∧ l.length = ls.length ∧ Wk w wr F w.heap.size rb #[.slice Al ls.length cl, .slice At tb.length ct, .int .i64 x2, .int .i64 x3, .int .i64 x4, .int .i64 x5, .slice Ap ps.length cp] Fl Ft (fun k => ro = some k) (fun k => ∃ i, Fi i k)
      (fun W => OSl u64O W Fl Al ls.length cl l) (fun W => OSl i64O W Ft At tb.length ct tb) (fun W => Row W 2 ro Ap ps.length cp xs) (fun W => ∀ i (h : i < ps.length), procO.own W (Fi i) ps[i] ((xs.drop (i * 2)).take 2)) ∧ Hid (∀ j, j < k → l[j]? = some mk)) (fun i _ => (ls.length - intOf i).toNat)
  case atStart => exact ⟨0, ls, rfl, Nat.zero_le _, rfl, HST.out, Lib.hid fun j hj => absurd hj (Nat.not_lt_zero _)⟩
  case round =>
    obtain ⟨k, l, rfl, hk, hll, hst, hmark⟩ := hrel
    clear HST
    by_cases hlt : k < ls.length
    · have y0 := hst.blk.cell 0
      simp only [List.getElem?_toArray, List.getElem?_cons_zero] at  y0
      obtain ⟨g, o, u, rfl, c0, f0, hset, hkk⟩ := osl_set (i := k) hst.q0 rfl (by omega) (x := mk) (v := .int .u64 mk) ⟨rfl, HMW.out⟩
      have hnew := hst.mod0 (S' := Fl) (Q' := fun W => OSl u64O W Fl (some ⟨g, o, none⟩) ls.length cl (l.set k mk)) hkk hset (fun a b d => a.kept b d) (fun k e => .inl e) (fun j e => by have := (hst.own j (.inl e)).2.2.2; have := hkk.size; omega)
      have HM2 := Lib.hid (marked_set (by omega) hmark.out)
      have HNEW := Lib.hid hnew
      clear hnew
      clear hst hset hkk hmark
      go_wp2_with fail
      exact ⟨⟨k + 1, l.set k mk, by go_num, by omega, by rw [List.length_set]; exact hll, HNEW.out, HM2⟩, by simp [intOf]; omega⟩
    · obtain rfl : k = ls.length := by omega
      have HML := Lib.hid (marked_all (l := l) (fun j hj => hmark.out j (by omega)))
      clear hmark hlt hk
      have y1 := hst.blk.cell 1
      simp only [List.getElem?_toArray, List.getElem?_cons_zero, List.getElem?_cons_succ] at y1
      have HLL := Lib.hid hll
      have HST := Lib.hid hst
      clear hst hll
      go_wp2_with fail
      clear y1
      go_loopw [28] (fun i wr => ∃ (k : Nat) (t : List Int), i = .int .i64 k ∧ k ≤ tb.length ∧ t.length = tb.length ∧ Wk w wr F w.heap.size rb #[.slice Al ls.length cl, .slice At tb.length ct, .int .i64 x2, .int .i64 x3, .int .i64 x4, .int .i64 x5, .slice Ap ps.length cp] Fl Ft (fun k => ro = some k) (fun k => ∃ i, Fi i k)
          (fun W => OSl u64O W Fl Al ls.length cl l) (fun W => OSl i64O W Ft At tb.length ct t) (fun W => Row W 2 ro Ap ps.length cp xs) (fun W => ∀ i (h : i < ps.length), procO.own W (Fi i) ps[i] ((xs.drop (i * 2)).take 2)) ∧ Hid (∀ j, j < k → t[j]? = some mk)) (fun i _ => (tb.length - intOf i).toNat)
      case atStart => exact ⟨0, tb, rfl, Nat.zero_le _, rfl, HST.out, Lib.hid fun j hj => absurd hj (Nat.not_lt_zero _)⟩
      case round =>
        obtain ⟨k, t, rfl, hk, hll, hst, hmark⟩ := hrel
        clear HST
        by_cases hlt : k < tb.length
        · have y1 := hst.blk.cell 1
          simp only [List.getElem?_toArray, List.getElem?_cons_zero, List.getElem?_cons_succ] at y1
          obtain ⟨g, o, u, rfl, c0, f0, hset, hkk⟩ := osl_set (i := k) hst.q1 rfl (by omega) (x := mk) (v := .int .i64 mk) ⟨rfl, HMI.out⟩
          have hnew := hst.mod1 (S' := Ft) (Q' := fun W => OSl i64O W Ft (some ⟨g, o, none⟩) tb.length ct (t.set k mk)) hkk hset (fun a b d => a.kept b d) (fun k e => .inl e) (fun j e => by have := (hst.own j (.inr (.inl e))).2.2.2; have := hkk.size; omega)
          have HM2 := Lib.hid (marked_set (by omega) hmark.out)
          have HNEW := Lib.hid hnew
          clear hnew
          clear hst hset hkk hmark
          go_wp2_with fail
          exact ⟨⟨k + 1, t.set k mk, by go_num, by omega, by rw [List.length_set]; exact hll, HNEW.out, HM2⟩, by simp [intOf]; omega⟩
        · obtain rfl : k = tb.length := by omega
          have HMT := Lib.hid (marked_all (l := t) (fun j hj => hmark.out j (by omega)))
          have HLT := Lib.hid hll
          clear hmark hlt hk hll
          go_upto_region 11 with fail
          obtain ⟨r0, hrow0, hr0⟩ := Row.of_make (T := 37) (size := 2) wr [] 0 rfl (by decide)
          rw [show ([] : List Value).toArray = #[] from rfl] at hrow0
          have ka : New wr (wr.alloc (.cells #[] 37)) := (Kept.refl _ _).alloc _
          have hxl := hst.q2.length
          have hone : ∀ u ∈ xs, u.oneCell' = true := fun u hu => by
            obtain ⟨j, hj, rfl⟩ := List.mem_iff_getElem.1 hu
            obtain ⟨A', c', e, -⟩ := hst.q3 (j / 2) (by omega)
            have e2 : ((xs.drop (j / 2 * 2)).take 2)[j % 2]? = some xs[j] := by
              rw [drop_take_get (Nat.mod_lt _ (by decide)), List.getElem?_eq_getElem (by omega)]
              congr 2
              omega
            rw [e] at e2
            have hm := Nat.mod_lt j (show 2 > 0 by decide)
            rcases (by omega : j % 2 = 0 ∨ j % 2 = 1) with e3 | e3 <;> (rw [e3] at e2; simp only [List.getElem?_cons_zero, List.getElem?_cons_succ, Option.some.injEq] at e2; rw [← e2]; rfl)
          have hsrc := (hst.q2.new (by decide) ka).src (P := Try.prog) (t := 24) Try.underlying24 hone
          have y6 := hst.blk.cell 6
          have z6 := (hst.blk.kept ka id).cell 6
          simp only [List.getElem?_toArray, List.getElem?_cons_zero, List.getElem?_cons_succ] at y6 z6
          have HST := Lib.hid hst
          have HROW0 := Lib.hid hrow0
          have HSRC := Lib.hid hsrc
          have KA := Lib.hid ka
          have HR0 := Lib.hid hr0
          clear hst hrow0 hsrc ka hr0
          clear hone hxl
          go_wp2_with (at_builtin; refine wpList_append_row tyProc rfl (.tmp 37) (.tmp 39) rfl rfl HROW0.out rfl HSRC.out (by unfold maxLen; omega) (by omega) ?_; intro r7 A7 c7 w7 hr7 hk7 hn7; rw [Nat.zero_add, List.nil_append] at hr7; rw [Nat.zero_add]; have HR7 := Lib.hid hr7; have HK7 := Lib.hid hk7; have HN7 := Lib.hid hn7; clear hr7 hk7 hn7)
          clear y6 z6
          have e0 : ∀ k, r0 = some k → wr.heap.size ≤ k := fun k hk => by rw [HR0.out k hk]; exact Nat.le_refl _
          have e1 := wide_row (r2 := r7) (r3 := r7) KA.out e0 HK7.out HN7.out (Kept.refl _ _) (fun k hk => .inl hk)
          have hst7 := HST.out.mod3 (w2 := w7) (S' := fun k => (∃ i, Fi i k) ∨ r7 = some k) (Q' := fun W => OSl procO W (fun k => (∃ i, Fi i k) ∨ r7 = some k) A7 ps.length c7 ps) (e1.1.mono fun _ _ e => e.elim)
            ⟨r7, xs, Fi, HR7.out, rfl, fun k e => .inr e, fun i k e => ⟨.inl ⟨i, e⟩, fun e' => by have := e1.2 k e'; have := (HST.out.own k (.inr (.inr (.inr ⟨i, e⟩)))).2.2.2; omega⟩, HFD.out, (HST.out.new e1.1).q3⟩
            (fun a b d => a.kept b d) (fun k e => by
              rcases e with e | e
              · exact .inl e
              · exact .inr (e1.2 k e)) (fun k e => by
              rcases e with e | e
              · have := (HST.out.own k (.inr (.inr (.inr e)))).2.2.2; have := e1.1.size; omega
              · exact HR7.out.lt (by decide) k e)
          have hst8 := hst7.mod2 (w2 := w7) (S' := fun k => ro = some k) (Q' := fun W => ∃ xs, Row W 2 ro Ap ps.length cp xs) (Kept.refl _ _) ⟨xs, hst7.q2⟩ (fun ⟨xs, a⟩ b d => ⟨xs, a.of_kept (by decide) b d⟩) (fun k e => .inl e) (fun k e => (hst7.own k (.inr (.inr (.inl e)))).2.2.2)
          generalize (fun k => (∃ i, Fi i k) ∨ r7 = some k) = S3 at *
          have HST8 := Lib.hid hst8
          clear HST HFI HFD HR7 HK7 HN7 HROW0 HR0 HSRC KA e0 e1 hst7 hst8
          go_loopw [43] (fun i wr => ∃ (k : Nat) (L : List (Int × List Ins)), i = .int .i64 k ∧ k ≤ ps.length ∧ L.length = ps.length ∧ Hid (∀ p ∈ L, p.2.length ≤ 1048576) ∧ Wk w wr F w.heap.size rb #[.slice Al ls.length cl, .slice At tb.length ct, .int .i64 x2, .int .i64 x3, .int .i64 x4, .int .i64 x5, .slice Ap ps.length cp] Fl Ft (fun k => ro = some k) S3 (fun W => OSl u64O W Fl Al ls.length cl l) (fun W => OSl i64O W Ft At tb.length ct t) (fun W => ∃ xs, Row W 2 ro Ap ps.length cp xs) (fun W => OSl procO W S3 A7 ps.length c7 L) ∧ Hid (∀ j, j < k → ∀ p, L[j]? = some p → ∀ x ∈ p.2, x = ⟨mk, j, 0, 0, 0⟩)) (fun i _ => (ps.length - intOf i).toNat)
          case atStart => exact ⟨0, ps, rfl, Nat.zero_le _, rfl, HF4, HST8.out, Lib.hid fun j hj => absurd hj (Nat.not_lt_zero _)⟩
          case round =>
            obtain ⟨k, L, rfl, hk, hLl, hLs, hst, hmark⟩ := hrel
            clear HST8
            by_cases hlt : k < ps.length
            · have hkL : k < L.length := by omega
              obtain ⟨g, o, cs, Fk, hA, -, -, hown, hc⟩ := hst.q3.at_ k hkL
              obtain ⟨Ac, cc, rfl, hos, -⟩ := hown
              have hcb := hos.bound
              have hm : L[k].2.length ≤ 1048576 := hLs.out _ (List.getElem_mem hkL)
              subst hA
              have c1 := (hc 1 (by decide)).1
              simp only [List.getElem?_cons_zero, List.getElem?_cons_succ] at c1
              change wr.cell? ⟨g, o + k * 2 + 1, none⟩ = _ at c1
              generalize hLk : L[k] = pc at *
              obtain ⟨part, code⟩ := pc
              simp only at c1 hm hcb
              have HLK := Lib.hid hLk
              have HST := Lib.hid hst
              have hiw : IntKind.i64.wrap (k : Int) = k := IntWalk.i64_in _ (by omega)
              clear hc hos hst hLk hiw
              go_wp2_with fail
              clear c1
              go_loopw [52] (fun i wr => ∃ (s : Nat) (code' : List Ins), i = .int .i64 s ∧ s ≤ code.length ∧ code'.length = code.length ∧ Wk w wr F w.heap.size rb #[.slice Al ls.length cl, .slice At tb.length ct, .int .i64 x2, .int .i64 x3, .int .i64 x4, .int .i64 x5, .slice Ap ps.length cp] Fl Ft (fun k => ro = some k) S3 (fun W => OSl u64O W Fl Al ls.length cl l) (fun W => OSl i64O W Ft At tb.length ct t) (fun W => ∃ xs, Row W 2 ro Ap ps.length cp xs) (fun W => OSl procO W S3 (some ⟨g, o, none⟩) ps.length c7 (L.set k (part, code'))) ∧ Hid (∀ j, j < s → code'[j]? = some ⟨mk, k, 0, 0, 0⟩)) (fun i _ => (code.length - intOf i).toNat)
              case atStart =>
                refine ⟨0, code, rfl, Nat.zero_le _, rfl, ?_, Lib.hid fun j hj => absurd hj (Nat.not_lt_zero _)⟩
                rw [show L.set k (part, code) = L by rw [← HLK.out]; exact List.set_getElem_self _]
                exact HST.out
              case round =>
                obtain ⟨s, code', rfl, hs, hcl, hst, hmk⟩ := hrel
                clear HST
                by_cases hls : s < code.length
                · have hwfx : Code.Wf ⟨mk, k, 0, 0, 0⟩ := wf_mark HMI.out (by omega)
                  have hcx := hst.blk.lt
                  obtain ⟨g', o', cc', u0, u1, u2, u3, u4, c1, v0, v1, v2, v3, v4, f0, f1, f2, f3, f4, hkk, hset⟩ := proc_set2 hst.q3 (i := k) (by rw [List.length_set]; exact hkL) (List.getElem_set_self _) (k := s) (by omega) hwfx (fun j e => (hst.own j (.inr (.inr (.inr e)))).2.2.2)
                  rw [List.set_set] at hset
                  have hnew := hst.mod3 (S' := S3) (Q' := fun W => OSl procO W S3 (some ⟨g, o, none⟩) ps.length c7 (L.set k (part, code'.set s ⟨mk, k, 0, 0, 0⟩))) hkk hset (fun a b d => a.kept b d) (fun k e => .inl e) (fun j e => by have := (hst.own j (.inr (.inr (.inr e)))).2.2.2; have := hkk.size; omega)
                  have HM2 := Lib.hid (ins_marked (by omega) hmk.out)
                  rw [hcl] at c1
                  have HNEW := Lib.hid hnew
                  clear hnew
                  clear hst hset hkk hmk hwfx
                  go_wp2_with fail
                  exact ⟨⟨s + 1, code'.set s ⟨mk, k, 0, 0, 0⟩, by go_num, by omega, by rw [List.length_set]; exact hcl, HNEW.out, HM2⟩, by simp [intOf]; omega⟩
                · obtain rfl : s = code.length := by omega
                  have HALL := Lib.hid (ins_all (l := code') (fun j hj => hmk.out j (by omega)))
                  have HM2 := Lib.hid (procs_marked (part := part) hmark.out HALL.out)
                  have HS2 := Lib.hid (procs_short (k := k) (part := part) hLs.out (show code'.length ≤ 1048576 by omega))
                  have HST := Lib.hid hst
                  clear hst hmk hls hs
                  go_wp2_with fail
                  exact ⟨⟨k + 1, L.set k (part, code'), by go_num, by omega, by rw [List.length_set]; exact hLl, HS2, HST.out, HM2⟩, by simp [intOf]; omega⟩
            · obtain rfl : k = ps.length := by omega
              have HMP := Lib.hid (show ∀ (j : Nat) (p : Int × List Ins), L[j]? = some p → ∀ x ∈ p.2, x = ⟨mk, j, 0, 0, 0⟩ from fun j p hp x hx => hmark.out j (by have := (List.getElem?_eq_some_iff.1 hp).1; omega) p hp x hx)
              have HST := Lib.hid hst
              have HLL3 := Lib.hid hLl
              have HLS3 := Lib.hid (show ∀ p ∈ L, p.2.length ≤ 1048576 + 3 * 0 from hLs.out)
              clear hst hmark hlt hk hLl hLs
              go_wp2_with fail
              go_loopw [69] (fun i wr => ∃ (k : Nat) (L : List (Int × List Ins)) (S3 : Nat → Prop), i = .int .i64 k ∧ k ≤ ps.length ∧ L.length = ps.length ∧ Hid (∀ p ∈ L, p.2.length ≤ 1048576 + 3 * k) ∧ Wk w wr F w.heap.size rb #[.slice Al ls.length cl, .slice At tb.length ct, .int .i64 x2, .int .i64 x3, .int .i64 x4, .int .i64 x5, .slice Ap ps.length cp] Fl Ft (fun k => ro = some k) S3 (fun W => OSl u64O W Fl Al ls.length cl l) (fun W => OSl i64O W Ft At tb.length ct t) (fun W => ∃ xs, Row W 2 ro Ap ps.length cp xs) (fun W => OSl procO W S3 A7 ps.length c7 L) ∧ Hid (∀ (j : Nat) (p : Int × List Ins), L[j]? = some p → ∀ x ∈ p.2, x = ⟨mk, j, 0, 0, 0⟩)) (fun i _ => (ps.length - intOf i).toNat)
              case atStart => exact ⟨0, L, S3, rfl, Nat.zero_le _, HLL3.out, HLS3, HST.out, HMP⟩
              case round =>
                clear HMP HST HLL3 HLS3
                obtain ⟨k, L, S3, rfl, hk, hLl, hLs, hst, hmark⟩ := hrel
                by_cases hlt : k < ps.length
                · have HST := Lib.hid hst
                  have HLS3 := Lib.hid (show ∀ p ∈ L, p.2.length ≤ 1048576 + (3 * k + 0) from hLs.out)
                  have HMP := hmark
                  have HLL3 := Lib.hid hLl
                  clear hst hLs hmark hLl
                  go_wp2_with fail
                  go_loopw [72] (fun i wr => ∃ (s : Nat) (L : List (Int × List Ins)) (S3 : Nat → Prop), i = .int .i64 s ∧ s ≤ 3 ∧ L.length = ps.length ∧ Hid (∀ p ∈ L, p.2.length ≤ 1048576 + (3 * k + s)) ∧ Wk w wr F w.heap.size rb #[.slice Al ls.length cl, .slice At tb.length ct, .int .i64 x2, .int .i64 x3, .int .i64 x4, .int .i64 x5, .slice Ap ps.length cp] Fl Ft (fun k => ro = some k) S3 (fun W => OSl u64O W Fl Al ls.length cl l) (fun W => OSl i64O W Ft At tb.length ct t) (fun W => ∃ xs, Row W 2 ro Ap ps.length cp xs) (fun W => OSl procO W S3 A7 ps.length c7 L) ∧ Hid (∀ (j : Nat) (p : Int × List Ins), L[j]? = some p → ∀ x ∈ p.2, x = ⟨mk, j, 0, 0, 0⟩)) (fun i _ => (3 - intOf i).toNat)
                  case atStart => exact ⟨0, L, S3, rfl, by omega, HLL3.out, HLS3, HST.out, HMP⟩
                  case round =>
                    clear HMP HST HLL3 HLS3
                    obtain ⟨s, L, S3, rfl, hs, hLl, hLs, hst, hmark⟩ := hrel
                    by_cases hls : s < 3
                    · have hkL : k < L.length := by omega
                      obtain ⟨g, o, -, -, hA, -⟩ := hst.q3.at_ k hkL
                      subst hA
                      have hm : L[k].2.length ≤ 1048576 + (3 * k + s) := hLs.out _ (List.getElem_mem hkL)
                      have hLk? : L[k]? = some L[k] := List.getElem?_eq_getElem hkL
                      have hpush := fun part code hq => proc_push2 hst.q3 (i := k) hkL (part := part) (code := code) hq (x := ⟨mk, k, 0, 0, 0⟩) (wf_mark HMI.out (by omega)) (fun j e => (hst.own j (.inr (.inr (.inr e)))).2.2.2)
                      generalize hLk : L[k] = pc at *
                      obtain ⟨part, code⟩ := pc
                      simp only at hm
                      obtain ⟨r1, xs1, Ac, cc, c1, hrow, hg, f1, hr1, hclose⟩ := hpush part code rfl
                      have hcb := hrow.bound
                      have HM2 := Lib.hid (procs_push (mk := mk) hLk? hmark.out)
                      have HS2 := Lib.hid (procs_short (k := k) (part := part) (code := code ++ [⟨mk, k, 0, 0, 0⟩]) (b := 1048576 + (3 * k + (s + 1))) (fun p hp => by have := hLs.out p hp; omega) (by rw [List.length_append, List.length_singleton]; omega))
                      have HST := Lib.hid hst
                      have HROW := Lib.hid hrow
                      have HR1 := Lib.hid hr1
                      have HCLOSE := Lib.hid hclose
                      clear hst hrow hr1 hclose
                      clear hpush hLk? hLs hmark hLk hg
                      go_wp2_with (first
                        | (at_builtin
                           refine wpList_append_one (cs := [.int .i64 mk, .int .i64 k, .int .i64 0, .int .i64 0, .int .i64 0]) Code.tyIns rfl (.tmp 80) (.tmp 84) rfl rfl HROW.out rfl rfl rfl (by simp [Value.oneCell']) (by unfold maxLen; omega) (by omega) ?_
                           intro r6 A6 c6 w6 hr6 hk6 hn6
                           obtain ⟨d1, d2, d3, d4⟩ := HCLOSE.out w6 r6 A6 c6 hr6 hk6 hn6
                           have HD3 := Lib.hid d3
                           have HD4 := Lib.hid d4
                           have HR6 := Lib.hid hr6
                           have HN6 := Lib.hid hn6
                           have HK6 := Lib.hid hk6
                           clear d3 d4 hr6 hn6 hk6)
                        | fail)
                      have hnew := HST.out.mod3 (S' := fun j => S3 j ∨ r6 = some j) (Q' := fun W => OSl procO W (fun j => S3 j ∨ r6 = some j) (some ⟨g, o, none⟩) ps.length c7 (L.set k (part, code ++ [⟨mk, k, 0, 0, 0⟩]))) HD3.out HD4.out (fun a b d => a.kept b d)
                        (fun j e => by
                          rcases e with e | e
                          · exact .inl e
                          · rcases HN6.out j e with e' | e'
                            · exact .inl (HR1.out j e').1
                            · exact .inr e')
                        (fun j e => by
                          have hsz := HK6.out.size
                          have hsq : (w6.setCell ⟨g, o + k * 2 + 1, none⟩ (.slice A6 (code.length + 1) c6)).heap.size = w6.heap.size := (size_set _ _ _).symm
                          rw [hsq]
                          rcases e with e | e
                          · have := (HST.out.own j (.inr (.inr (.inr e)))).2.2.2; omega
                          · exact HR6.out.lt (by decide) j e)
                      exact ⟨⟨s + 1, L.set k (part, code ++ [⟨mk, k, 0, 0, 0⟩]), _, by go_num, by omega, by rw [List.length_set]; exact hLl, HS2, hnew, HM2⟩, by simp [intOf]; omega⟩
                    · obtain rfl : s = 3 := by omega
                      have HST := Lib.hid hst
                      have HS2 := Lib.hid (show ∀ p ∈ L, p.2.length ≤ 1048576 + 3 * (k + 1) from fun p hp => by have := hLs.out p hp; omega)
                      have HM2 := hmark
                      clear hst hLs hmark hls hs
                      go_wp2_with fail
                      exact ⟨⟨k + 1, L, S3, by go_num, by omega, hLl, HS2, HST.out, HM2⟩, by simp [intOf]; omega⟩
                · obtain rfl : k = ps.length := by omega
                  have HST := Lib.hid hst
                  have HMP := hmark
                  have HLL3 := Lib.hid hLl
                  clear hst hmark hLl hLs hlt hk
                  go_wp2_with fail
                  go_loopw [90] (fun i wr => ∃ (s : Nat) (Al : Option Addr) (cl : Nat) (l : List Int) (At : Option Addr) (ct : Nat) (t : List Int) (ro : Option Nat) (Ap : Option Addr) (no cp : Nat) (S0 S1 : Nat → Prop), i = .int .i64 s ∧ s ≤ 3 ∧ l.length ≤ 1048576 + s ∧ t.length ≤ 1048576 + s ∧ no ≤ 1048576 + s ∧ Wk w wr F w.heap.size rb #[.slice Al l.length cl, .slice At t.length ct, .int .i64 x2, .int .i64 x3, .int .i64 x4, .int .i64 x5, .slice Ap no cp] S0 S1 (fun k => ro = some k) S3 (fun W => OSl u64O W S0 Al l.length cl l) (fun W => OSl i64O W S1 At t.length ct t) (fun W => ∃ xs, Row W 2 ro Ap no cp xs) (fun W => OSl procO W S3 A7 ps.length c7 L) ∧ Hid (∀ x ∈ l, x = mk) ∧ Hid (∀ x ∈ t, x = mk)) (fun i _ => (3 - intOf i).toNat)
                  case atStart =>
                    have e1 := HLL.out
                    have e2 := HLT.out
                    have hst := HST.out
                    rw [← e1, ← e2] at hst
                    exact ⟨0, Al, cl, l, At, ct, t, ro, Ap, ps.length, cp, Fl, Ft, rfl, by omega, by omega, by omega, by omega, hst, HML, HMT⟩
                  case round =>
                    clear HML HMT HST HLL HLT hbl hbt hbp
                    obtain ⟨s, Al, cl, l, At, ct, t, ro, Ap, no, cp, S0, S1, rfl, hs, hl3, ht3, hn3, hst, HML, HMT⟩ := hrel
                    by_cases hls : s < 3
                    · obtain ⟨r0, xs0, hrow, hr0, hclose⟩ := hst.q0.rows
                      have hcb := hrow.bound
                      have y0 := hst.blk.cell 0
                      simp only [List.getElem?_toArray, List.getElem?_cons_zero] at y0
                      have HML2 := Lib.hid (marked_snoc HML.out)
                      have HST := Lib.hid hst
                      have HROW := Lib.hid hrow
                      have HR0 := Lib.hid hr0
                      clear hst hrow hr0
                      have HCL := Lib.hid (fun w' r' A' c' F' => @hclose w' r' A' c' mk [.int .u64 mk] (fun _ => False) F')
                      clear hclose
                      go_upto_region 32 with (first
                        | (at_builtin
                           refine wpList_append_one (cs := [.int .u64 mk]) tyU64 rfl (.tmp 93) (.tmp 96) rfl rfl HROW.out rfl rfl rfl (by simp [Value.oneCell']) (by unfold maxLen; omega) (by omega) ?_
                           intro r6 A6 c6 w6 hr6 hk6 hn6
                           have hos := HCL.out w6 r6 A6 c6 (fun k => S0 k ∨ r6 = some k) hr6 hk6 hn6 (fun k e => (HST.out.own k (.inl e)).2.2.2) ⟨rfl, HMW.out⟩ (fun _ e => e.elim) (fun k e => .inl e) (fun _ e => e.elim) (fun k e => .inr e)
                           have hnew := HST.out.mod0 (w2 := w6) (S' := fun k => S0 k ∨ r6 = some k) (Q' := fun W => OSl u64O W (fun k => S0 k ∨ r6 = some k) A6 (l.length + 1) c6 (l ++ [mk])) (hk6.mono fun k _ e => HR0.out k e) hos (fun a b d => a.kept b d)
                             (fun k e => by rcases e with e | e; exact .inl e; rcases hn6 k e with e' | e'; exact .inl (HR0.out k e'); exact .inr e') (fun k e => by rcases e with e | e; have := (HST.out.own k (.inl e)).2.2.2; have := hk6.size; omega; exact hr6.lt (by decide) k e)
                           have q0 := hnew.blk.cell 0
                           have q1 := hnew.blk.free 0
                           simp only [List.getElem?_toArray, List.getElem?_cons_zero] at q0
                           have HNEW := Lib.hid hnew
                           clear hos hnew hr6 hk6 hn6)
                        | fail)
                      have hst1 := HNEW.out.store hcw hne 0 (.slice A6 (l.length + 1) c6)
                      simp only [List.setIfInBounds_toArray, List.set_cons_zero] at hst1
                      rw [show l.length + 1 = (l ++ [mk]).length by rw [List.length_append]; rfl] at hst1 ⊢
                      have hl4 : (l ++ [mk]).length ≤ 1048576 + (s + 1) := by rw [List.length_append]; simp only [List.length_singleton]; omega
                      clear q0 q1 y0 HNEW HST HROW HR0 HCL HML
                      generalize World.setCell w6 ⟨w.heap.size, 0, none⟩ _ = wa at *
                      generalize (fun k => S0 k ∨ r6 = some k) = S0' at *
                      obtain ⟨r0', xs1, hrow, hr0, hclose⟩ := hst1.q1.rows
                      have hcb := hrow.bound
                      have y1 := hst1.blk.cell 1
                      simp only [List.getElem?_toArray, List.getElem?_cons_zero, List.getElem?_cons_succ] at y1
                      have HMT2 := Lib.hid (marked_snoc HMT.out)
                      have HST1 := Lib.hid hst1
                      have HROW := Lib.hid hrow
                      have HR0 := Lib.hid hr0
                      clear hst1 hrow hr0
                      have HCL := Lib.hid (fun w' r' A' c' F' => @hclose w' r' A' c' mk [.int .i64 mk] (fun _ => False) F')
                      clear hclose
                      go_upto_region 33 with (first
                        | (at_builtin
                           refine wpList_append_one (cs := [.int .i64 mk]) tyInt rfl (.tmp 100) (.tmp 102) rfl rfl HROW.out rfl rfl rfl (by simp [Value.oneCell']) (by unfold maxLen; omega) (by omega) ?_
                           intro rb6 Ab6 cb6 wb6 hr6 hk6 hn6
                           have hos := HCL.out wb6 rb6 Ab6 cb6 (fun k => S1 k ∨ rb6 = some k) hr6 hk6 hn6 (fun k e => (HST1.out.own k (.inr (.inl e))).2.2.2) ⟨rfl, HMI.out⟩ (fun _ e => e.elim) (fun k e => .inl e) (fun _ e => e.elim) (fun k e => .inr e)
                           have hnew := HST1.out.mod1 (w2 := wb6) (S' := fun k => S1 k ∨ rb6 = some k) (Q' := fun W => OSl i64O W (fun k => S1 k ∨ rb6 = some k) Ab6 (t.length + 1) cb6 (t ++ [mk])) (hk6.mono fun k _ e => HR0.out k e) hos (fun a b d => a.kept b d)
                             (fun k e => by rcases e with e | e; exact .inl e; rcases hn6 k e with e' | e'; exact .inl (HR0.out k e'); exact .inr e') (fun k e => by rcases e with e | e; have := (HST1.out.own k (.inr (.inl e))).2.2.2; have := hk6.size; omega; exact hr6.lt (by decide) k e)
                           have q0 := hnew.blk.cell 1
                           have q1 := hnew.blk.free 1
                           simp only [List.getElem?_toArray, List.getElem?_cons_zero, List.getElem?_cons_succ] at q0
                           have HNEW := Lib.hid hnew
                           clear hos hnew hr6 hk6 hn6)
                        | fail)
                      have hst2 := HNEW.out.store hcw hne 1 (.slice Ab6 (t.length + 1) cb6)
                      simp only [List.setIfInBounds_toArray, List.set_cons_zero, List.set_cons_succ] at hst2
                      rw [show t.length + 1 = (t ++ [mk]).length by rw [List.length_append]; rfl] at hst2 ⊢
                      have ht4 : (t ++ [mk]).length ≤ 1048576 + (s + 1) := by rw [List.length_append]; simp only [List.length_singleton]; omega
                      clear q0 q1 y1 HNEW HST1 HROW HR0 HCL HMT
                      generalize World.setCell wb6 ⟨w.heap.size, 1, none⟩ _ = wb at *
                      generalize (fun k => S1 k ∨ rb6 = some k) = S1' at *
                      obtain ⟨xs2, hrow⟩ := hst2.q2
                      have hcb := hrow.bound
                      have y6 := hst2.blk.cell 6
                      simp only [List.getElem?_toArray, List.getElem?_cons_zero, List.getElem?_cons_succ] at y6
                      have HST2 := Lib.hid hst2
                      have HROW := Lib.hid hrow
                      clear hst2 hrow
                      go_wp2_with (first
                        | (at_builtin
                           refine wpList_append_one (cs := [.int .i64 mk, .slice none 0 0]) tyProc rfl (.tmp 106) (.tmp 109) rfl rfl HROW.out rfl rfl rfl (by simp [Value.oneCell']) (by unfold maxLen; omega) (by omega) ?_
                           intro rc6 Ac6 cc6 wc6 hr6 hk6 hn6
                           have hnew := HST2.out.mod2 (w2 := wc6) (S' := fun k => rc6 = some k) (Q' := fun W => ∃ xs, Row W 2 rc6 Ac6 (no + 1) cc6 xs) hk6 ⟨_, hr6⟩ (fun ⟨xs, a⟩ b d => ⟨xs, a.of_kept (by decide) b d⟩)
                             (fun k e => hn6 k e) (fun k e => hr6.lt (by decide) k e)
                           have q0 := hnew.blk.cell 6
                           have q1 := hnew.blk.free 6
                           simp only [List.getElem?_toArray, List.getElem?_cons_zero, List.getElem?_cons_succ] at q0
                           have HNEW := Lib.hid hnew
                           clear hnew hr6 hk6 hn6)
                        | fail)
                      have hst3 := HNEW.out.store hcw hne 6 (.slice Ac6 (no + 1) cc6)
                      simp only [List.setIfInBounds_toArray, List.set_cons_zero, List.set_cons_succ] at hst3
                      exact ⟨⟨s + 1, A6, c6, l ++ [mk], Ab6, cb6, t ++ [mk], rc6, Ac6, no + 1, cc6, S0', S1', by go_num, by omega, hl4, ht4, by omega, hst3, HML2, HMT2⟩, by simp [intOf]; omega⟩
                    · obtain rfl : s = 3 := by omega
                      have y6 := hst.blk.cell 6
                      simp only [List.getElem?_toArray, List.getElem?_cons_zero, List.getElem?_cons_succ] at y6
                      have HST := Lib.hid hst
                      clear hst hls hs
                      go_wp2_with fail
                      clear y6
                      go_loopw [116] (fun i wr => ∃ (k : Nat), i = .int .i64 k ∧ k ≤ no ∧ Wk w wr F w.heap.size rb #[.slice Al l.length cl, .slice At t.length ct, .int .i64 x2, .int .i64 x3, .int .i64 x4, .int .i64 x5, .slice Ap no cp] S0 S1 (fun k => ro = some k) S3 (fun W => OSl u64O W S0 Al l.length cl l) (fun W => OSl i64O W S1 At t.length ct t) (fun W => ∃ xs, Row W 2 ro Ap no cp xs) (fun W => OSl procO W S3 A7 ps.length c7 L)) (fun i _ => (no - intOf i).toNat)
                      case atStart => exact ⟨0, rfl, Nat.zero_le _, HST.out⟩
                      case round =>
                        obtain ⟨k, rfl, hk, hst⟩ := hrel
                        clear HST
                        by_cases hlt : k < no
                        · obtain ⟨xs2, hrow⟩ := hst.q2
                          obtain ⟨g, o, e1, rfl, h5, h6⟩ := hrow.at_pos (by have := hrow.le; omega)
                          have hle := hrow.le
                          have p0 := h6 (k * 2) (by omega)
                          have p1 := h6 (k * 2 + 1) (by omega)
                          obtain ⟨u0, v0⟩ := Option.isSome_iff_exists.1 p0.1
                          obtain ⟨u1, v1⟩ := Option.isSome_iff_exists.1 p1.1
                          have f0 := p0.2
                          have f1 := p1.2
                          rw [← Nat.add_assoc] at v1 f1
                          have y6 := hst.blk.cell 6
                          simp only [List.getElem?_toArray, List.getElem?_cons_zero, List.getElem?_cons_succ] at y6
                          have hs1 := (hrow.set (j := k * 2) rfl (by omega) (.int .i64 mk)).set (j := k * 2 + 1) rfl (by omega) (.slice none 0 0)
                          rw [← Nat.add_assoc] at hs1
                          have hnew := hst.mod2 (S' := fun k => ro = some k) (Q' := fun W => ∃ xs, Row W 2 ro (some ⟨g, o, none⟩) no cp xs) (((Kept.refl _ _).setCell (.inr e1) _).setCell (.inr e1) _) ⟨_, hs1⟩ (fun ⟨xs, a⟩ b d => ⟨xs, a.of_kept (by decide) b d⟩) (fun j e => .inl e) (fun j e => hs1.lt (by decide) j e)
                          have HNEW := Lib.hid hnew
                          clear hnew
                          clear hst hrow h5 h6 p0 p1 hs1
                          go_wp2_with fail
                          exact ⟨⟨k + 1, by go_num, by omega, HNEW.out⟩, by simp [intOf]; omega⟩
                        · have q0 := hst.blk.cell 6
                          have q1 := hst.blk.free 6
                          simp only [List.getElem?_toArray, List.getElem?_cons_zero, List.getElem?_cons_succ] at q0
                          have hst9 := hst.store hcw hne 6 (.slice A7 ps.length c7)
                          simp only [List.setIfInBounds_toArray, List.set_cons_zero, List.set_cons_succ] at hst9
                          have hge : no ≤ k := by omega
                          have HST9 := Lib.hid hst9
                          have HP := HMP
                          clear hst hst9 hlt hk
                          go_upto_region 41 with fail
                          have hst9 := HST9.out
                          clear q0 q1 HST9
                          generalize World.setCell wr ⟨w.heap.size, 6, none⟩ _ = w9 at *
                          have hcb9 := hst9.blk
                          have hres9 := hst9.resB
                          unfold zeroC at hres9
                          have y0 := hcb9.cell 0
                          have y1 := hcb9.cell 1
                          have y2 := hcb9.cell 2
                          have y3 := hcb9.cell 3
                          have y4 := hcb9.cell 4
                          have y5 := hcb9.cell 5
                          have y6 := hcb9.cell 6
                          simp only [List.getElem?_toArray, List.getElem?_cons_zero, List.getElem?_cons_succ] at y0 y1 y2 y3 y4 y5 y6
                          have u0 := hres9.cell 0
                          have u1 := hres9.cell 1
                          have u2 := hres9.cell 2
                          have u3 := hres9.cell 3
                          have u4 := hres9.cell 4
                          have u5 := hres9.cell 5
                          have u6 := hres9.cell 6
                          simp only [List.getElem?_toArray, List.getElem?_cons_zero, List.getElem?_cons_succ] at u0 u1 u2 u3 u4 u5 u6
                          have g0 := hres9.free 0
                          have g1 := hres9.free 1
                          have g2 := hres9.free 2
                          have g3 := hres9.free 3
                          have g4 := hres9.free 4
                          have g5 := hres9.free 5
                          have g6 := hres9.free 6
                          have hb10 := set7_blk hres9 (.slice Al l.length cl) (.slice At t.length ct) (.int .i64 x2) (.int .i64 x3) (.int .i64 x4) (.int .i64 x5) (.slice A7 ps.length c7)
                          have hk10 := set7_kept w9 rb (.slice Al l.length cl) (.slice At t.length ct) (.int .i64 x2) (.int .i64 x3) (.int .i64 x4) (.int .i64 x5) (.slice A7 ps.length c7)
                          unfold set7 at hb10 hk10
                          have HB10 := Lib.hid hb10
                          have HK10 := Lib.hid hk10
                          have HST9 := Lib.hid hst9
                          clear hb10 hk10 hst9
                          clear hres9 hcb9
                          go_wp2_with fail
                          have hb10 := HB10.out
                          have hk10 := HK10.out
                          clear y0 y1 y2 y3 y4 y5 y6 g0 g1 g2 g3 g4 g5 g6 u0 u1 u2 u3 u4 u5 u6 HB10 HK10
                          generalize World.setCell _ ⟨rb, 6, none⟩ _ = W at *
                          have y0 := hb10.cell 0
                          have y1 := hb10.cell 1
                          have y2 := hb10.cell 2
                          have y3 := hb10.cell 3
                          have y4 := hb10.cell 4
                          have y5 := hb10.cell 5
                          have y6 := hb10.cell 6
                          simp only [List.getElem?_toArray, List.getElem?_cons_zero, List.getElem?_cons_succ] at y0 y1 y2 y3 y4 y5 y6
                          refine bodyPost_ret (v := .agg #[.slice Al l.length cl, .slice At t.length ct, .int .i64 x2, .int .i64 x3, .int .i64 x4, .int .i64 x5, .slice A7 ps.length c7]) (by simp [results, Try.results17, go_sem, y0, y1, y2, y3, y4, y5, y6]) rfl ?_
                          have hLl := HLL3.out
                          have ho := HST9.out.own
                          have hsW := hk10.size
                          refine ⟨⟨l, t, x2, x3, x4, x5, L⟩, Al, cl, At, ct, A7, c7, fun k => S0 k ∨ S1 k ∨ S3 k, by simp only [confC, hLl], ⟨S0, S1, S3, HST9.out.q0.kept hk10 (fun k e => (ho k (.inl e)).2.2.1), HST9.out.q1.kept hk10 (fun k e => (ho k (.inr (.inl e))).2.2.1), by simp only [hLl]; exact HST9.out.q3.kept hk10 (fun k e => (ho k (.inr (.inr (.inr e)))).2.2.1), fun k e => e, fun k => ⟨fun a => ⟨HST9.out.d01 k a, HST9.out.d03 k a⟩, HST9.out.d13 k⟩⟩, ⟨HML.out, HMT.out, fun i hi x hx => HP.out i _ (List.getElem?_eq_getElem hi) x hx⟩, fun k e => ?_, fun k e => ?_, HST9.out.keep.step hk10 fun k hk e => by omega⟩
                          · rcases e with e | e | e
                            · exact (ho k (.inl e)).1
                            · exact (ho k (.inr (.inl e))).1
                            · exact (ho k (.inr (.inr (.inr e)))).1
                          · rcases e with e | e | e
                            · have := (ho k (.inl e)).2.2.2; omega
                            · have := (ho k (.inr (.inl e))).2.2.2; omega
                            · have := (ho k (.inr (.inr (.inr e)))).2.2.2; omega
end
end Go.Proofs.Ytaefgljpdpigeaa.Conf

/- The walk of the laws' marked (layer 14): all lists of a config have a mark alone. -/
namespace Go.Proofs.Ytaefgljpdpigeaa.Conf
open Go.RowKit Go.Fb Go.CodeP Go.BytesP Go.ReaderP
set_option linter.unusedVariables false
section
variable {w : World} {B : Nat} {c : Cf} {Al At Ap : Option Addr} {cl ct cp : Nat} {mk : Int}
set_option maxRecDepth 100000 in
set_option maxHeartbeats 4000000 in
theorem lawmarked_any (h0 : 0 ≤ mk) (h1 : mk ≤ 1000) (h : ReadC B w c Al cl At ct Ap cp) (hB : B ≤ w.heap.size) (hm : Marked mk c) : Calls Try.prog 21 #[.agg (confC c Al cl At ct Ap cp).toArray, .int .i64 mk] w fun e w' => e = .returned (.bool true) ∧ New w w' := by
  obtain ⟨ls, tb, x2, x3, x4, x5, ps⟩ := c
  obtain ⟨hl, ht, hp⟩ := h
  obtain ⟨m1, m2, m3⟩ := hm
  unfold confC
  simp only at hl ht hp m1 m2 m3 ⊢
  have hbl := hl.bound
  have hbt := ht.bound
  have hbp := hp.bound
  have ka : New w (w.alloc (.cells #[.slice Al ls.length cl, .slice At tb.length ct, .int .i64 x2, .int .i64 x3, .int .i64 x4, .int .i64 x5, .slice Ap ps.length cp] 26)) := (Kept.refl _ _).alloc _
  have hbk := Blk.made w 26 #[.slice Al ls.length cl, .slice At tb.length ct, .int .i64 x2, .int .i64 x3, .int .i64 x4, .int .i64 x5, .slice Ap ps.length cp]
  have hl1 := hl.kept ka hB (fun _ _ h => h)
  have ht1 := ht.kept ka hB (fun _ _ h => h)
  have hp1 := hp.kept ka hB (fun _ _ h => h)
  have wu : IntKind.u64.wrap mk = mk := IntWalk.u64_in _ (by omega)
  have KA := Lib.hid ka
  have HBK := Lib.hid hbk
  have HL1 := Lib.hid hl1
  have HT1 := Lib.hid ht1
  have HP1 := Lib.hid hp1
  have M1 := Lib.hid m1
  have M2 := Lib.hid m2
  have M3 := Lib.hid m3
  clear ka hbk hl1 ht1 hp1 m1 m2 m3
  clear hl ht hp
  go_enter Try.func21, Try.ntmps21
  go_upto_region 1 with fail
  have hka := KA.out
  have hbk := HBK.out
  clear KA HBK
  generalize World.alloc w _ = w1 at *
  have hw1 := hka.size
  have y0 := hbk.cell 0
  have y1 := hbk.cell 1
  have y6 := hbk.cell 6
  simp only [List.getElem?_toArray, List.getElem?_cons_zero, List.getElem?_cons_succ] at y0 y1 y6
  have HKA := Lib.hid hka
  have HBK := Lib.hid hbk
  clear hka hbk
  go_wp2_with fail
  go_loopw [16] (fun i wr => ∃ k : Nat, i = .int .i64 k ∧ k ≤ ls.length ∧ wr = w1) (fun i _ => (ls.length - intOf i).toNat)
  case atStart => exact ⟨0, rfl, Nat.zero_le _, rfl⟩
  case round =>
    obtain ⟨k, rfl, hk, rfl⟩ := hrel
    by_cases hlt : k < ls.length
    · obtain ⟨g, o, rfl, -, hcs⟩ := HL1.out.ints (by omega)
      have c0 := hcs k hlt
      rw [M1.out _ (List.getElem_mem hlt)] at c0
      clear hcs
      go_wp2_with fail
      exact ⟨⟨k + 1, by go_num, by omega, by first | rfl | trivial⟩, by simp [intOf]; omega⟩
    · obtain rfl : k = ls.length := by omega
      go_wp2_with fail
      go_loopw [28] (fun i wz => ∃ k : Nat, i = .int .i64 k ∧ k ≤ tb.length ∧ wz = wr) (fun i _ => (tb.length - intOf i).toNat)
      case atStart => exact ⟨0, rfl, Nat.zero_le _, rfl⟩
      case round =>
        obtain ⟨k, rfl, hk, rfl⟩ := hrel
        by_cases hlt : k < tb.length
        · obtain ⟨g, o, rfl, -, hcs⟩ := HT1.out.ints (by omega)
          have c0 := hcs k hlt
          rw [M2.out _ (List.getElem_mem hlt)] at c0
          clear hcs
          go_wp2_with fail
          exact ⟨⟨k + 1, by go_num, by omega, by first | rfl | trivial⟩, by simp [intOf]; omega⟩
        · obtain rfl : k = tb.length := by omega
          go_wp2_with fail
          have hBw : B ≤ wr.heap.size := by omega
          go_loopw [39] (fun i wz => ∃ k : Nat, i = .int .i64 k ∧ k ≤ ps.length ∧ New wr wz) (fun i _ => (ps.length - intOf i).toNat)
          case atStart => exact ⟨0, rfl, Nat.zero_le _, Kept.refl _ _⟩
          case round =>
            clear y0 y1 y6 hlt
            obtain ⟨k, rfl, hk, hn⟩ := hrel
            by_cases hlt : k < ps.length
            · obtain ⟨b, o, rfl, -, hc⟩ := proc_at (HP1.out.kept hn hBw (fun _ _ h => h)) (by omega)
              obtain ⟨Ac, cc, ⟨e1, e2⟩, hcode, -⟩ := hc k hlt
              have hall := M3.out k hlt
              generalize ps[k] = q at *
              obtain ⟨part, code⟩ := q
              simp only at e1 e2 hcode hall
              have hcb := hcode.bound
              have kb : New wr (wr.alloc (.cells #[.int .i64 part, .slice Ac code.length cc] 37)) := (Kept.refl _ _).alloc _
              have hpb := Blk.made wr 37 #[.int .i64 part, .slice Ac code.length cc]
              have hBr : B ≤ wr.heap.size := Nat.le_trans hBw hn.size
              have hcode2 := hcode.kept kb hBr (fun _ _ h => h)
              have HN2 := Lib.hid (hn.trans kb)
              have HALL := Lib.hid hall
              have hBr2 : B ≤ (wr.alloc (.cells #[.int .i64 part, .slice Ac code.length cc] 37)).heap.size := Nat.le_trans hBr kb.size
              have HCODE2 := Lib.hid hcode2
              have HPB := Lib.hid hpb
              clear hcode2 hpb
              clear hc hcode hn kb hall
              go_upto_region 16 with fail
              clear e1 e2
              have hpb := HPB.out
              clear HPB
              generalize World.alloc wr _ = wp at *
              generalize wr.heap.size = pb at *
              have y1 := hpb.cell 1
              simp only [List.getElem?_toArray, List.getElem?_cons_zero, List.getElem?_cons_succ] at y1
              clear hpb
              go_wp2_with fail
              clear y1
              go_loopw [47] (fun i wz => ∃ t : Nat, i = .int .i64 t ∧ t ≤ code.length ∧ New wp wz) (fun i _ => (code.length - intOf i).toNat)
              case atStart => exact ⟨0, rfl, Nat.zero_le _, Kept.refl _ _⟩
              case round =>
                obtain ⟨t, rfl, ht, hn⟩ := hrel
                by_cases hlt2 : t < code.length
                · obtain ⟨b2, o2, rfl, -, hci⟩ := Code.ins_at (HCODE2.out.kept hn hBr2 (fun _ _ h => h)) (by omega)
                  obtain ⟨c0, c1, c2, c3, c4⟩ := hci t hlt2
                  rw [HALL.out _ (List.getElem_mem hlt2)] at c0 c1 c2 c3 c4
                  simp only at c0 c1 c2 c3 c4
                  have kx : New wr (wr.alloc (.cells #[.int .i64 mk, .int .i64 k, .int .i64 0, .int .i64 0, .int .i64 0] 62)) := (Kept.refl _ _).alloc _
                  have HN3 := Lib.hid (hn.trans kx)
                  clear hci hn kx
                  go_wp2_with fail
                  exact ⟨⟨t + 1, by go_num, by omega, HN3.out⟩, by simp [intOf]; omega⟩
                · obtain rfl : t = code.length := by omega
                  have HN3 := Lib.hid (HN2.out.trans hn)
                  clear hn
                  go_wp2_with fail
                  exact ⟨⟨k + 1, by go_num, by omega, HN3.out⟩, by simp [intOf]; omega⟩
            · obtain rfl : k = ps.length := by omega
              have HN3 := Lib.hid (HKA.out.trans hn)
              clear hn
              go_wp2_with fail
              go_ret
              exact ⟨rfl, HN3.out⟩
end
end Go.Proofs.Ytaefgljpdpigeaa.Conf
