/- The walk of package view's copyPart (layer 18). -/
import Derived.Test.YtgdmajockejpgaaViewO
import Derived.Deep.RegionHeld3
namespace Go.Proofs.Ytgdmajockejpgaa.View
open Go.RowKit Go.Fb
set_option linter.unusedVariables false
/-- Two rows behind both calls. -/
structure Two (w1 wz : World) (s1 s2 : Nat) (r1 : Option Nat) (A1 : Option Addr) (n1 c1 : Nat) (xs1 : List Value) (r2 : Option Nat) (A2 : Option Addr) (n2 c2 : Nat) (xs2 : List Value) : Prop where
  row1 : Row wz s1 r1 A1 n1 c1 xs1
  row2 : Row wz s2 r2 A2 n2 c2 xs2
  f1 : ∀ k, r1 = some k → w1.heap.size ≤ k
  f2 : ∀ k, r2 = some k → w1.heap.size ≤ k
  ne : ∀ k, r1 = some k → r2 ≠ some k
  new : New w1 wz
theorem two_mk {w1 wa wz : World} {s1 s2 : Nat} {r1 : Option Nat} {A1 : Option Addr} {n1 c1 : Nat} {xs1 : List Value} {r2 : Option Nat} {A2 : Option Addr} {n2 c2 : Nat} {xs2 : List Value} (h1 : Row wa s1 r1 A1 n1 c1 xs1) (f1 : ∀ k, r1 = some k → w1.heap.size ≤ k) (hn : New w1 wa)
    (h2 : Row wz s2 r2 A2 n2 c2 xs2) (f2 : ∀ k, r2 = some k → wa.heap.size ≤ k) (hz : New wa wz) (p1 : 0 < s1) (p2 : 0 < s2) : Two w1 wz s1 s2 r1 A1 n1 c1 xs1 r2 A2 n2 c2 xs2 :=
  ⟨h1.new p1 hz, h2, f1, fun k e => Nat.le_trans hn.size (f2 k e), fun k e e' => by have := h1.lt p1 k e; have := f2 k e'; omega, hn.trans hz⟩
theorem Two.swap {w1 wz : World} {s1 s2 : Nat} {r1 : Option Nat} {A1 : Option Addr} {n1 c1 : Nat} {xs1 : List Value} {r2 : Option Nat} {A2 : Option Addr} {n2 c2 : Nat} {xs2 : List Value} (h : Two w1 wz s1 s2 r1 A1 n1 c1 xs1 r2 A2 n2 c2 xs2) : Two w1 wz s2 s1 r2 A2 n2 c2 xs2 r1 A1 n1 c1 xs1 :=
  ⟨h.row2, h.row1, h.f2, h.f1, fun k e e' => h.ne k e' e, h.new⟩
set_option maxHeartbeats 4000000 in
theorem copyPart_any {w : World} {B : Nat} {x : Part} {v0 v1 v2 v3 v4 v5 : Value} (h : repPart.cells w B x [v0, v1, v2, v3, v4, v5]) (hB : B ≤ w.heap.size) (hs1 : x.log.length ≤ 1048576) (hs2 : x.owners.length ≤ 1048576) (hs3 : x.queues.length ≤ 1048576) (hs4 : ∀ q ∈ x.queues, q.length ≤ 1048576) :
    Calls Try.prog 18 #[.agg #[v0, v1, v2, v3, v4, v5]] w fun e w' => ∃ cs, e = .returned (.agg cs.toArray) ∧ partO.own w' (fun k => w.heap.size ≤ k ∧ k < w'.heap.size) x cs ∧ New w w' := by
  obtain ⟨Al, nl, cl, Ao, no, co, Aq, nq, cq, e, hl, ho, hq⟩ := h
  simp only [List.cons.injEq, and_true] at e
  obtain ⟨rfl, rfl, rfl, rfl, rfl, rfl⟩ := e
  have h1 := hl.len
  have h2 := ho.len
  have h3 := hq.len
  obtain ⟨ll, el, hl⟩ := hl.known
  obtain ⟨lo, eo, ho⟩ := ho.known
  obtain ⟨lq, eq, hq⟩ := hq.known
  have hfl := flat_known (f := entC) hl fun h => h.1
  have hfo := flat_known (f := fun x => [Value.int .i64 x]) ho fun h => h.1
  rw [el] at hfl
  rw [eo] at hfo
  have HC1 := Lib.hid fun W (hW : New w W) => cloneEnts (hl.kept hW hB fun _ _ h => h) (Nat.le_trans hB hW.size) (by omega)
  have HC2 := Lib.hid fun W (hW : New w W) => cloneInts (ho.kept hW hB fun _ _ h => h) (Nat.le_trans hB hW.size) (by omega)
  have HC3 := Lib.hid fun W (hW : New w W) => cloneQus (hq.kept hW hB fun _ _ h => h) (Nat.le_trans hB hW.size) (by omega)
  rw [hfl] at HC1
  rw [hfo] at HC2
  have kl := hl.bound
  have ko := ho.bound
  have kq := hq.bound
  have b1 : Blk ((w.alloc (.cells #[.int .i64 x.cursor, .slice Al nl cl, .int .i64 x.lost, .int .i64 x.forbidden, .slice Ao no co, .slice Aq nq cq] 43)).alloc (.cells #[.int .i64 0, .slice none 0 0, .int .i64 0, .int .i64 0, .slice none 0 0, .slice none 0 0] 43)) w.heap.size 43 #[.int .i64 x.cursor, .slice Al nl cl, .int .i64 x.lost, .int .i64 x.forbidden, .slice Ao no co, .slice Aq nq cq] := (Blk.made _ _ _).alloc _
  have b2 : Blk ((w.alloc (.cells #[.int .i64 x.cursor, .slice Al nl cl, .int .i64 x.lost, .int .i64 x.forbidden, .slice Ao no co, .slice Aq nq cq] 43)).alloc (.cells #[.int .i64 0, .slice none 0 0, .int .i64 0, .int .i64 0, .slice none 0 0, .slice none 0 0] 43)) (w.heap.size + 1) 43 #[.int .i64 0, .slice none 0 0, .int .i64 0, .int .i64 0, .slice none 0 0, .slice none 0 0] := Blk.made_at _ _ _ _ (by simp)
  have hn : New w ((w.alloc (.cells #[.int .i64 x.cursor, .slice Al nl cl, .int .i64 x.lost, .int .i64 x.forbidden, .slice Ao no co, .slice Aq nq cq] 43)).alloc (.cells #[.int .i64 0, .slice none 0 0, .int .i64 0, .int .i64 0, .slice none 0 0, .slice none 0 0] 43)) := ((Kept.refl _ _).alloc _).alloc _
  have B1 := Lib.hid b1
  have B2 := Lib.hid b2
  have HN := Lib.hid hn
  have H1 := Lib.hid h1
  have H2 := Lib.hid h2
  have H3 := Lib.hid h3
  have EL := Lib.hid el
  have EO := Lib.hid eo
  have EQ := Lib.hid eq
  have HQ := Lib.hid hq
  have HS1 := Lib.hid hs1
  have HS2 := Lib.hid hs2
  have HS3 := Lib.hid hs3
  have HS4 := Lib.hid hs4
  clear b1 b2 hn h1 h2 h3 el eo eq hq hs1 hs2 hs3 hs4
  clear hl ho hfl hfo
  go_enter Try.func18, Try.ntmps18
  go_upto_region 1 with (fail)
  generalize (w.alloc (.cells #[.int .i64 x.cursor, .slice Al nl cl, .int .i64 x.lost, .int .i64 x.forbidden, .slice Ao no co, .slice Aq nq cq] 43)).alloc (.cells #[.int .i64 0, .slice none 0 0, .int .i64 0, .int .i64 0, .slice none 0 0, .slice none 0 0] 43) = w1 at *
  have z1 := B1.out.cell 1
  have z4 := B1.out.cell 4
  have f1 := B1.out.free 1
  have f4 := B1.out.free 4
  simp only [List.getElem?_toArray, List.getElem?_cons_zero, List.getElem?_cons_succ] at z1 z4
  generalize hbw : w.heap.size = b at *
  have hB' : B ≤ w.heap.size := by rw [hbw]; exact hB
  have HBW : Hid (w.heap.size ≤ b) := Lib.hid (Nat.le_of_eq hbw)
  have HBW2 : Hid (b = w.heap.size) := Lib.hid hbw.symm
  clear hbw
  have HC1 := Lib.hid fun W (hW : New w1 W) => HC1.out W (HN.out.trans hW)
  have HC2 := Lib.hid fun W (hW : New w1 W) => HC2.out W (HN.out.trans hW)
  go_region_with
    (first
      | (go_at_call 28; refine (HC1.out _ (by first | exact HM2.out | exact Kept.refl _ _ | exact (Kept.refl _ _).drew)).mono ?_; rintro e wa ⟨r1, A1, c1, rfl, hr1, hf1, hm1⟩; have hM : New w1 wa := (by first | exact HM2.out.trans hm1 | exact hm1 | exact ((Kept.refl _ _).drew).trans hm1); have hb := B1.out.kept hM id; have z1 := hb.cell 1; have z4 := hb.cell 4; have f1 := hb.free 1; have f4 := hb.free 4; simp only [List.getElem?_toArray, List.getElem?_cons_zero, List.getElem?_cons_succ] at z1 z4; have HR1 := Lib.hid hr1; have HF1 : Hid (∀ k, r1 = some k → _ ≤ k) := Lib.hid hf1; have HM1 := Lib.hid hM; clear hr1 hf1 hm1 hM hb)
      | (go_at_call 29; refine (HC2.out _ (by first | exact HM1.out | exact Kept.refl _ _ | exact (Kept.refl _ _).drew)).mono ?_; rintro e wa ⟨r2, A2, c2, rfl, hr2, hf2, hm2⟩; have hM : New w1 wa := (by first | exact HM1.out.trans hm2 | exact hm2 | exact ((Kept.refl _ _).drew).trans hm2); have hb := B1.out.kept hM id; have z1 := hb.cell 1; have z4 := hb.cell 4; have f1 := hb.free 1; have f4 := hb.free 4; simp only [List.getElem?_toArray, List.getElem?_cons_zero, List.getElem?_cons_succ] at z1 z4; have hzz := hm2; have HR2 := Lib.hid hr2; have HF2 : Hid (∀ k, r2 = some k → _ ≤ k) := Lib.hid hf2; have HM2 := Lib.hid hM; have HZZ := Lib.hid hzz; clear hr2 hf2 hm2 hM hb hzz))
  all_goals
    have ht : Two w1 _ 3 1 r1 A1 nl c1 (x.log.flatMap entC) r2 A2 no c2 (x.owners.flatMap fun x => [Value.int .i64 x]) := two_mk (w1 := w1) HR1.out HF1.out HM1.out HR2.out HF2.out HZZ.out (by decide) (by decide)
    have hb3 := ((B1.out.kept ht.new id).set (i := 1) (.slice A1 nl c1)).set (i := 4) (.slice A2 no c2)
    have hb4 := ((B2.out.kept ht.new id).other (p := ⟨b, 1, none⟩) (by simp) (.slice A1 nl c1)).other (p := ⟨b, 4, none⟩) (by simp) (.slice A2 no c2)
    have hlt := B1.out.lt
    have hk3 : Kept (fun k => k = b) wa ((wa.setCell ⟨b, 1, none⟩ (.slice A1 nl c1)).setCell ⟨b, 4, none⟩ (.slice A2 no c2)) := (Kept.set1 wa b 1 _).trans (Kept.set1 _ b 4 _)
    have HRA := Lib.hid (ht.row1.of_kept (by decide) hk3 fun k e e' => by have := ht.f1 k e; omega)
    have HRB := Lib.hid (ht.row2.of_kept (by decide) hk3 fun k e e' => by have := ht.f2 k e; omega)
    have HN3 : Hid (New w _) := Lib.hid ((HN.out.trans ht.new).step hk3 fun k hk e => by have := HBW.out; omega)
    simp [Array.setIfInBounds] at hb3
    generalize (wa.setCell ⟨b, 1, none⟩ (.slice A1 nl c1)).setCell ⟨b, 4, none⟩ (.slice A2 no c2) = w3 at *
    have z5 := hb3.cell 5
    have f5 := hb3.free 5
    simp only [List.getElem?_toArray, List.getElem?_cons_zero, List.getElem?_cons_succ] at z5
    have hc3 := HC3.out w3 HN3.out
    have HNE := Lib.hid ht.ne
    have hlt2 := B2.out.lt
    have HFA : Hid (∀ k, r1 = some k → b + 1 < k) := Lib.hid fun k e => by have := ht.f1 k e; omega
    have HLA := Lib.hid (HRA.out.lt (by decide))
    have HLB := Lib.hid (HRB.out.lt (by decide))
    have HFB : Hid (∀ k, r2 = some k → b + 1 < k) := Lib.hid fun k e => by have := ht.f2 k e; omega
    have HB3 := Lib.hid hb3
    have HB4 := Lib.hid hb4
    have HC3' := Lib.hid hc3
    have HT := Lib.hid ht
    clear hb3 hb4 hc3 ht
    clear hlt hlt2 hk3 z1 z4 f1 f4 HC1 HC2 B1 B2
    go_wp2_with fail
    refine HC3'.out.mono ?_
    rintro e w4 ⟨r3, A3, c3, rfl, hr3, hf3, hm4⟩
    have hb4' := HB3.out.kept hm4 id
    have z5 := hb4'.cell 5
    have f5 := hb4'.free 5
    simp only [List.getElem?_toArray, List.getElem?_cons_zero, List.getElem?_cons_succ] at z5
    have hk5 := Kept.set1 w4 b 5 (.slice A3 nq c3)
    have hb5 := hb4'.set (i := 5) (.slice A3 nq c3)
    simp [Array.setIfInBounds] at hb5
    have hb6 := (HB4.out.kept hm4 id).other (p := ⟨b, 5, none⟩) (by simp) (.slice A3 nq c3)
    have hbl := HB3.out.lt
    have hbl2 := HB4.out.lt
    have HRA := Lib.hid ((HRA.out.new (by decide) hm4).of_kept (by decide) hk5 fun k e e' => by have := HFA.out k e; omega)
    have HRB := Lib.hid ((HRB.out.new (by decide) hm4).of_kept (by decide) hk5 fun k e e' => by have := HFB.out k e; omega)
    have HF3 : Hid (∀ k, r3 = some k → w3.heap.size ≤ k) := Lib.hid hf3
    have HF13 : Hid (∀ k, r1 = some k → r3 ≠ some k) := Lib.hid fun k e e' => by have := HLA.out k e; have := hf3 k e'; omega
    have HF23 : Hid (∀ k, r2 = some k → r3 ≠ some k) := Lib.hid fun k e e' => by have := HLB.out k e; have := hf3 k e'; omega
    have HR3 := Lib.hid (hr3.of_kept (by decide) hk5 fun k e e' => by have := hf3 k e; omega)
    have HN5 : Hid (New w _) := Lib.hid ((HN3.out.trans hm4).step hk5 fun k hk e => by have := HBW.out; omega)
    have HB36 : Hid (b < w3.heap.size ∧ b + 1 < w3.heap.size) := Lib.hid ⟨hbl, hbl2⟩
    have HB5 := Lib.hid hb5
    have HB6 := Lib.hid hb6
    have HK5 := Lib.hid hk5
    have HM4 := Lib.hid hm4
    clear hb5 hb6 hk5 hm4
    clear hr3 hf3 hb4' hbl hbl2
    go_upto_region 3 with (fail)
    generalize w4.setCell ⟨b, 5, none⟩ (.slice A3 nq c3) = w5 at *
    have z5 := HB5.out.cell 5
    simp only [List.getElem?_toArray, List.getElem?_cons_zero, List.getElem?_cons_succ] at z5
    have hqb := HR3.out.bound
    have hmix : OSl intO.slice.or w5 (fun k => r3 = some k ∨ (w5.heap.size ≤ k ∧ k < w5.heap.size)) A3 nq c3 (lq.map fun q => .inr q.2) :=
      OSl.of_row (f := fun x => match x with | .inl _ => [] | .inr cs => cs) (r := r3) (by
        rw [List.flatMap_map]; exact HR3.out) (fun x hx => by
          obtain ⟨q, hq, rfl⟩ := List.mem_map.1 hx
          obtain ⟨es, h1, h2⟩ := HQ.out.cells_mem q hq
          exact (Rep.int .i64).slice.length h2) (by rw [List.length_map]; exact HQ.out.len) (fun k e => .inl e) (fun x hx => by
          obtain ⟨q, hq, rfl⟩ := List.mem_map.1 hx
          obtain ⟨es, h1, h2⟩ := HQ.out.cells_mem q hq
          exact ⟨rfl, (Rep.int .i64).slice.length h2⟩)
    have HMIX := Lib.hid hmix
    clear hmix
    go_wp2_with fail
    go_loopw [20] (fun s wr => ∃ i : Nat, i ≤ nq ∧ s = .int .i64 i ∧ Kept (fun k => r3 = some k) w5 wr ∧ OSl intO.slice.or wr (fun k => r3 = some k ∨ (w5.heap.size ≤ k ∧ k < wr.heap.size)) A3 nq c3 (((lq.take i).map fun q => .inl q.1) ++ ((lq.drop i).map fun q => .inr q.2))) (fun s _ => (nq - intOf s).toNat)
    case atStart => exact ⟨0, Nat.zero_le _, rfl, Kept.refl _ _, HMIX.out⟩
    case round =>
      obtain ⟨i, hi, rfl, hkr, hmx⟩ := hrel
      have hql := HQ.out.len
      by_cases hlt : i < nq
      · have hiL : i < lq.length := by omega
        have hg : (((lq.take i).map fun q => (Sum.inl q.1 : List Int ⊕ List Value)) ++ ((lq.drop i).map fun q => .inr q.2))[i]? = some (.inr (lq[i]'hiL).2) := by
          rw [List.getElem?_append_right (by simp; omega), List.length_map, List.length_take, Nat.min_eq_left (by omega), Nat.sub_self, List.getElem?_map, List.getElem?_drop, Nat.add_zero, List.getElem?_eq_getElem hiL]
          rfl
        obtain ⟨hgl, hge⟩ := List.getElem?_eq_some_iff.1 hg
        obtain ⟨g, o, cs, Fi, rfl, hgF, hFi, hown, hcell⟩ := hmx.at_ i hgl
        rw [hge] at hown
        obtain ⟨rfl, -⟩ := hown
        obtain ⟨es, he1, he2⟩ := HQ.out.cells_mem lq[i] (List.getElem_mem hiL)
        obtain ⟨Aqi, ni, ci, hqe, hsl⟩ := he2
        rw [hqe] at hcell
        have hg3 : r3 = some g := by
          obtain ⟨g', o', e1, e2, -⟩ := HR3.out.at_pos (by omega)
          injection e2 with e2
          injection e2 with eg
          rw [eg]; exact e1
        have hnr : New w wr := HN5.out.step hkr fun k hk e => by have := HF3.out k e; have := HB36.out; have := HBW.out; omega
        have hb5r := HB5.out.kept hkr fun e => by have := HF3.out b e; have := HB36.out; omega
        have z5 := hb5r.cell 5
        have x0 := (hcell 0 (by decide)).1
        have xf := (hcell 0 (by decide)).2
        simp only [List.getElem?_toArray, List.getElem?_cons_zero, List.getElem?_cons_succ] at z5 x0
        rw [show o + i * intO.slice.or.size + 0 = o + i from by show o + i * 1 + 0 = _; omega] at x0 xf
        have hni : ni ≤ 1048576 := by
          have h1 := hsl.len
          have h2 := HS4.out lq[i].1 (by rw [← EQ.out]; exact List.mem_map_of_mem (List.getElem_mem hiL))
          omega
        have HCL := Lib.hid fun W (hW : New wr W) => ownInts (hsl.kept (hnr.trans hW) hB' fun _ _ h => h) (Nat.le_trans hB' (hnr.trans hW).size) hni
        have hnb := hsl.bound
        have hms := mix_set (γ := List Int ⊕ List Value) (fun q : List Int × List Value => .inl q.1) (fun q => .inr q.2) lq i hiL
        have e2 : (0 : Int) ≤ (i : Int) := by omega
        have e3 : (i : Int) < (nq : Int) := by omega
        have HXC := Lib.hid fun W (hW : New wr W) => (⟨(hW.cell (p := ⟨g, o + i, none⟩) (lt_of_cell x0).1 id).trans x0, (hW.frozen (p := ⟨g, o + i, none⟩) (lt_of_cell x0).1 id).trans xf, (hW.cell (p := ⟨b, 5, none⟩) (lt_of_cell z5).1 id).trans z5⟩ : _ ∧ _ ∧ _)
        generalize lq[i].1 = qi at *
        clear hge
        have HKR := Lib.hid hkr
        have HMX := Lib.hid hmx
        have HMS := Lib.hid hms
        have HGL := Lib.hid hgl
        have HG3 := Lib.hid hg3
        have HNR := Lib.hid hnr
        have HSL := Lib.hid hsl
        clear hkr hmx hms hgl hg3 hnr hsl
        clear hb5r hg hcell hqe he1 hiL hFi hgF hql
        go_wp2_with fail
        go_region_with (first | (go_at_call 29; refine (HCL.out _ (by first | exact Kept.refl _ _ | exact (Kept.refl _ _).drew)).mono ?_; rintro e w7 ⟨r', A', c', rfl, hrO, hrF, hm7⟩; have hm : New wr w7 := (by first | exact hm7 | exact ((Kept.refl _ _).drew).trans hm7); obtain ⟨x0, xf, z5⟩ := HXC.out w7 hm; have HO := Lib.hid hrO; have HF : Hid (∀ k, r' = some k → wr.heap.size ≤ k ∧ k < w7.heap.size) := Lib.hid hrF; have HM := Lib.hid hm; clear hrO hrF hm7 hm))
        all_goals
          go_wp2_with fail
          go_roundw
          case rel =>
            refine ⟨i + 1, by omega, by go_num, (HKR.out.trans (HM.out.mono fun _ _ h => h.elim)).setCell (.inr HG3.out) _, ?_⟩
            have hs1 := HM.out.size
            have hs2 := HKR.out.size
            have hs3 := HR3.out.lt (by decide)
            have h1 := (HMX.out.new HM.out).set1 (x := .inl qi) (v := .slice A' ni c') (Fx := fun k => r' = some k) rfl HGL.out rfl ⟨A', ni, c', rfl, HO.out⟩ (fun k e e' => by
              have h1 := HF.out k e
              rcases e' with e' | e'
              · have := hs3 k e'; omega
              · omega)
            rw [HMS.out] at h1
            refine h1.mono fun k e => ?_
            rw [← size_set]
            rcases e with (e | e) | e
            · exact .inl e
            · exact .inr ⟨e.1, by omega⟩
            · exact .inr ⟨by have := HF.out k e; omega, (HF.out k e).2⟩
          case measure => simp [intOf]; omega
      · obtain rfl : nq = i := by omega
        have hmq : OSl intO.slice wr (fun k => r3 = some k ∨ (w5.heap.size ≤ k ∧ k < wr.heap.size)) A3 nq c3 x.queues := by
          have e1 : lq.take nq = lq := List.take_of_length_le (by omega)
          have e2 : lq.drop nq = [] := List.drop_eq_nil_of_le (by omega)
          rw [e1, e2, List.map_nil, List.append_nil] at hmx
          refine hmx.map rfl (by rw [← EQ.out, List.length_map, List.length_map]) fun i h1 h2 G cs _ h => ?_
          have e3 : x.queues[i] = (lq[i]'(by simpa using h1)).1 := by
            have : (lq.map (·.1))[i]'(by simpa using h1) = (lq[i]'(by simpa using h1)).1 := by simp
            rw [← this]
            simp only [EQ.out]
          rw [e3]
          have h' : intO.slice.or.own wr G (.inl (lq[i]'(by simpa using h1)).1) cs := by simpa using h
          exact h'
        have hbn : ¬ r3 = some b := fun e => by have := HF3.out b e; have := HB36.out; omega
        have hbn1 : ¬ r3 = some (b + 1) := fun e => by have := HF3.out _ e; have := HB36.out; omega
        have hb5r := HB5.out.kept hkr hbn
        have hb6r := HB6.out.kept hkr hbn1
        have z0 := hb5r.cell 0
        have z1 := hb5r.cell 1
        have z2 := hb5r.cell 2
        have z3 := hb5r.cell 3
        have z4 := hb5r.cell 4
        have z5 := hb5r.cell 5
        have y0 := hb6r.cell 0
        have y1 := hb6r.cell 1
        have y2 := hb6r.cell 2
        have y3 := hb6r.cell 3
        have y4 := hb6r.cell 4
        have y5 := hb6r.cell 5
        have q0 := hb6r.free 0
        have q1 := hb6r.free 1
        have q2 := hb6r.free 2
        have q3 := hb6r.free 3
        have q4 := hb6r.free 4
        have q5 := hb6r.free 5
        simp only [List.getElem?_toArray, List.getElem?_cons_zero, List.getElem?_cons_succ] at z0 z1 z2 z3 z4 z5 y0 y1 y2 y3 y4 y5
        have HKR := Lib.hid hkr
        have HMQ := Lib.hid hmq
        have HB6R := Lib.hid hb6r
        clear hkr hmq hb6r
        clear hmx hb5r hbn hbn1 hql
        go_wp2_with fail
        have hbf := ((((((HB6R.out.set (i := 0) (.int .i64 x.cursor)).set (i := 1) (.slice A1 nl c1)).set (i := 2) (.int .i64 x.lost)).set (i := 3) (.int .i64 x.forbidden)).set (i := 4) (.slice A2 no c2)).set (i := 5) (.slice A3 nq c3))
        have hkf : Kept (fun k => k = b + 1) wr ((((((wr.setCell ⟨b + 1, 0, none⟩ (.int .i64 x.cursor)).setCell ⟨b + 1, 1, none⟩ (.slice A1 nl c1)).setCell ⟨b + 1, 2, none⟩ (.int .i64 x.lost)).setCell ⟨b + 1, 3, none⟩ (.int .i64 x.forbidden)).setCell ⟨b + 1, 4, none⟩ (.slice A2 no c2)).setCell ⟨b + 1, 5, none⟩ (.slice A3 nq c3)) := (((((Kept.set1 wr (b + 1) 0 _).trans (Kept.set1 _ (b + 1) 1 _)).trans (Kept.set1 _ (b + 1) 2 _)).trans (Kept.set1 _ (b + 1) 3 _)).trans (Kept.set1 _ (b + 1) 4 _)).trans (Kept.set1 _ (b + 1) 5 _)
        simp [Array.setIfInBounds] at hbf
        have hsz : ((((((wr.setCell ⟨b + 1, 0, none⟩ (.int .i64 x.cursor)).setCell ⟨b + 1, 1, none⟩ (.slice A1 nl c1)).setCell ⟨b + 1, 2, none⟩ (.int .i64 x.lost)).setCell ⟨b + 1, 3, none⟩ (.int .i64 x.forbidden)).setCell ⟨b + 1, 4, none⟩ (.slice A2 no c2)).setCell ⟨b + 1, 5, none⟩ (.slice A3 nq c3)).heap.size = wr.heap.size := by simp [World.setCell]
        generalize ((((((wr.setCell ⟨b + 1, 0, none⟩ (.int .i64 x.cursor)).setCell ⟨b + 1, 1, none⟩ (.slice A1 nl c1)).setCell ⟨b + 1, 2, none⟩ (.int .i64 x.lost)).setCell ⟨b + 1, 3, none⟩ (.int .i64 x.forbidden)).setCell ⟨b + 1, 4, none⟩ (.slice A2 no c2)).setCell ⟨b + 1, 5, none⟩ (.slice A3 nq c3)) = wF at *
        have y0 := hbf.cell 0
        have y1 := hbf.cell 1
        have y2 := hbf.cell 2
        have y3 := hbf.cell 3
        have y4 := hbf.cell 4
        have y5 := hbf.cell 5
        simp only [List.getElem?_toArray, List.getElem?_cons_zero, List.getElem?_cons_succ] at y0 y1 y2 y3 y4 y5
        refine bodyPost_ret (v := .agg #[.int .i64 x.cursor, .slice A1 nl c1, .int .i64 x.lost, .int .i64 x.forbidden, .slice A2 no c2, .slice A3 nq c3]) (by simp [results, Try.results18, go_sem, y0, y1, y2, y3, y4, y5]) rfl ⟨[.int .i64 x.cursor, .slice A1 nl c1, .int .i64 x.lost, .int .i64 x.forbidden, .slice A2 no c2, .slice A3 nq c3], rfl, ⟨A1, nl, c1, A2, no, c2, A3, nq, c3, fun k => r1 = some k, fun k => r2 = some k, fun k => r3 = some k ∨ (w5.heap.size ≤ k ∧ k < wr.heap.size), rfl, ?_, ?_, ?_, fun k e => ⟨?_, HNE.out k e, ?_⟩, fun k e => ⟨?_, ?_⟩, fun k e => ?_⟩, ?_⟩
        · refine OSl.of_row (O := entO) (f := entC) ((HRA.out.of_kept (by decide) HKR.out HF13.out).of_kept (by decide) hkf fun k e e' => by have := HFA.out k e; omega) (fun _ _ => rfl) H1.out (fun _ h => h) fun y hy => ?_
          obtain ⟨es, h1, h2⟩ := hl.cells_mem y hy
          exact ⟨rfl, h2⟩
        · refine OSl.of_row (O := intO) (f := fun x => [Value.int .i64 x]) ((HRB.out.of_kept (by decide) HKR.out HF23.out).of_kept (by decide) hkf fun k e e' => by have := HFB.out k e; omega) (fun _ _ => rfl) H2.out (fun _ h => h) fun y hy => ?_
          obtain ⟨es, h1, h2⟩ := ho.cells_mem y hy
          exact ⟨rfl, h2⟩
        · refine HMQ.out.kept hkf fun k e e' => ?_
          have := HB36.out
          rcases e with e | e
          · have := HF3.out k e; omega
          · have := HB5.out.lt; have := HB6.out.lt; omega
        · have := HFA.out k e; have := HBW.out; have := HRA.out.lt (by decide) k e; have := HKR.out.size; exact ⟨by omega, by omega⟩
        · rintro (e' | e')
          · exact HF13.out k e e'
          · have := HRA.out.lt (by decide) k e; omega
        · have := HFB.out k e; have := HBW.out; have := HRB.out.lt (by decide) k e; have := HKR.out.size; exact ⟨by omega, by omega⟩
        · rintro (e' | e')
          · exact HF23.out k e e'
          · have := HRB.out.lt (by decide) k e; omega
        · have := HBW.out
          have := HB36.out
          have := HKR.out.size
          have := HB6.out.lt
          rcases e with e | e
          · have := HF3.out k e; have := HR3.out.lt (by decide) k e; exact ⟨by omega, by omega⟩
          · exact ⟨by omega, by omega⟩
        · refine ((HN5.out.step HKR.out fun k hk e => ?_)).step hkf fun k hk e => ?_
          · have := HF3.out k e; have := HB36.out; have := HBW.out; omega
          · have := HBW.out; omega
end Go.Proofs.Ytgdmajockejpgaa.View
