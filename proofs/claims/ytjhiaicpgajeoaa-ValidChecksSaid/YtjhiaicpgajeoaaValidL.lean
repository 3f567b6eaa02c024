/- The walk of package valid's longest (layer 8): it calls itself. -/
import Derived.Test.YtjhiaicpgajeoaaValidSt
namespace Go.Proofs.Ytjhiaicpgajeoaa.Valid
open Go.RowKit Go.Fb Go.BytesP Go.CodeP Go.ValidP
open Go.Proofs.Ytjhiaicpgajeoaa.Code (repIns)
set_option linter.unusedVariables false
/-- How what is remembered stands in memory. -/
structure MeI (l : List Ins) (bu : Nat) (u : Stand → Option Int) (U stack : List Stand) (W : World) : Prop where
  map : ∃ n, MapS Try.prog 61 3 W bu n u ∧ n + stack.length ≤ 2 * U.length
  dom : ∀ s, (u s).isSome = decide (s ∈ U)
  nod : U.Nodup
  small : ∀ s ∈ U, Small l s
  memo : Memo l u stack
namespace MeI
variable {l : List Ins} {bu n : Nat} {u : Stand → Option Int} {U stack : List Stand} {W W' : World} {s : Stand} {v : Int}
theorem new (h : MeI l bu u U stack W) (hn : New W W') : MeI l bu u U stack W' := by
  obtain ⟨n, h1, h2⟩ := h.map
  exact ⟨⟨n, h1.new hn, h2⟩, h.dom, h.nod, h.small, h.memo⟩
theorem ask (h : MeI l bu u U stack W) (hs : Small l s) (hn : u s = none) (h2 : n + stack.length ≤ 2 * U.length) (hm : MapS Try.prog 61 3 W' bu (n + 1) (fun y => if y = s then some (-2) else u y)) : MeI l bu (fun y => if y = s then some (-2) else u y) (s :: U) (s :: stack) W' := by
  have hsU : s ∉ U := fun e => by have := h.dom s; rw [hn, decide_eq_true e] at this; cases this
  refine ⟨⟨_, hm, by simp only [List.length_cons]; omega⟩, fun t => ?_, List.nodup_cons.2 ⟨hsU, h.nod⟩, fun t ht => ?_, h.memo.ask hn fun x => rfl⟩
  · by_cases e : t = s
    · simp [e]
    · rw [if_neg e, h.dom]; simp [e]
  · rcases List.mem_cons.1 ht with rfl | ht
    · exact hs
    · exact h.small t ht
theorem tell (h : MeI l bu u U (s :: stack) W) (hsU : s ∈ U) (hns : s ∉ stack) (hv : Answer l s v) (h2 : n + (s :: stack).length ≤ 2 * U.length) (hm : MapS Try.prog 61 3 W' bu (n + 1) (fun y => if y = s then some v else u y)) : MeI l bu (fun y => if y = s then some v else u y) U stack W' := by
  refine ⟨⟨_, hm, by simp only [List.length_cons] at h2; omega⟩, fun t => ?_, h.nod, h.small, h.memo.tell hns hv fun x => rfl⟩
  by_cases e : t = s
  · simp [e, hsU]
  · rw [if_neg e, h.dom]
theorem lt (h : MeI l bu u U stack W) : bu < W.heap.size := by
  obtain ⟨n, h1, -⟩ := h.map
  exact h1.lt
end MeI
/-- What a reckoning leaves. -/
def Told (l : List Ins) (s : Stand) (bu : Nat) (U stack : List Stand) (w : World) (e : Ending) (w' : World) : Prop :=
  ∃ v u' U', e = .returned (.int .i64 v) ∧ Answer l s v ∧ Kept (fun j => j = bu) w w' ∧ MeI l bu u' U' stack w' ∧ U.length ≤ U'.length ∧ ∀ x ∈ U, x ∈ U'
set_option maxHeartbeats 2000000 in
theorem longest_any {A : Option Addr} {n c : Nat} {l : List Ins} {w0 : World} {locks : Int} {bu : Nat} (hl : SliceOf repIns w0 w0.heap.size A n c l) (hk : locks ≤ 8) (hc : ∀ x ∈ l, check x l.length locks = 0) (hn : n ≤ 256) (hbu : w0.heap.size ≤ bu) (hfine : ∀ s, ValidP.Reach l s → wrongS l s = 0) :
    ∀ (d : Nat) {w : World} {u : Stand → Option Int} {U stack : List Stand} {p h : Nat}, New w0 w → MeI l bu u U stack w → 65792 ≤ d + U.length → (∀ a ∈ stack, ValidP.Row l a (p, h)) → ValidP.Reach l (p, h) →
    Calls Try.prog 29 #[.agg #[.slice A n c, .map (some bu)], .agg #[.int .i64 p, .int .u64 h]] w (Told l (p, h) bu U stack w) := by
  have hln := hl.len
  have hbd := hl.bound
  have hl256 : l.length ≤ 256 := by omega
  have HNX := Lib.hid (fun W (hW : New w0 W) p h hs => next_any (p := p) (h := h) (w := W) (hl.kept hW (Nat.le_refl _) (fun _ _ h => h) |>.more hW.size) hs hk hc hn)
  have HCNT := Lib.hid (fun L h1 h2 => small_count (l := l) (L := L) hl256 h1 h2)
  have HOK := Lib.hid (fun s h => ok_small (l := l) (s := s) hl256 h)
  have HSMA := Lib.hid (fun s (h : ValidP.Reach l s) => h.small hk hc)
  have HAB := Lib.hid (fun s v h1 h2 => Answer.bound hk hc hl256 (s := s) (v := v) h1 h2)
  have HLB := Lib.hid (fun s k h1 h2 => Long.bound hk hc hl256 (s := s) (k := k) h1 h2)
  have HNSM := Lib.hid (fun s h t ht => nexts_small hk hc (s := s) h (t := t) ht)
  have HFI := Lib.hid hfine
  have HL := Lib.hid hl
  have HC := Lib.hid hc
  have HLN := Lib.hid hln
  have HFINE := Lib.hid hfine
  clear hl hc hln hfine
  intro d
  induction d using Nat.strongRecOn with
  | _ d ih =>
    intro w u U stack p h hw hM hd hst hre
    have hsm := HSMA.out _ hre
    have hh : h < 256 := hsm.2
    have hal : New w ((w.alloc (.cells #[.slice A n c, .map (some bu)] 66)).alloc (.cells #[.int .i64 p, .int .u64 h] 61)) := ((Kept.refl _ _).alloc _).alloc _
    have IH := Lib.hid @ih
    clear ih
    by_cases h0 : h = 0
    · subst h0
      have HM := Lib.hid hM
      have HST := Lib.hid hst
      have HRE := Lib.hid hre
      have HW := Lib.hid hw
      have HSM := Lib.hid hsm
      have HAL := Lib.hid hal
      clear hM hst hre hw hsm hal
      go_enter Try.func29, Try.ntmps29
      go_wp2_with fail
      go_ret
      exact ⟨0, u, U, rfl, Answer.zero p, HAL.out.mono fun _ _ h => h.elim, HM.out.new HAL.out, Nat.le_refl _, fun _ h => h⟩
    · have hh0 : ((h : Int) == 0) = false := by simp; omega
      have hbr := (Blk.made w 66 #[.slice A n c, .map (some bu)]).alloc (.cells #[.int .i64 p, .int .u64 h] 61)
      have hbs := Blk.made_at (w.alloc (.cells #[.slice A n c, .map (some bu)] 66)) 61 #[.int .i64 p, .int .u64 h] (w.heap.size + 1) (size1 _ _)
      have hM2 := hM.new hal
      have hlt := hM.lt
      have HST := Lib.hid hst
      have HRE := Lib.hid hre
      have HW := Lib.hid hw
      have HSM := Lib.hid hsm
      have HM := Lib.hid hM
      clear hst hre hw hsm hM
      go_enter Try.func29, Try.ntmps29
      go_upto_region 3 with (fail)
      generalize (w.alloc (.cells #[.slice A n c, .map (some bu)] 66)).alloc (.cells #[.int .i64 p, .int .u64 h] 61) = w2 at *
      obtain ⟨br, hbrw⟩ : ∃ br, br = w.heap.size := ⟨_, rfl⟩
      rw [← hbrw] at hbr hbs hlt ⊢
      have HBRW := Lib.hid hbrw
      clear hbrw
      have y0 := hbr.cell 0
      have y1 := hbr.cell 1
      have y2 := hbs.cell 0
      have y3 := hbs.cell 1
      simp only [List.getElem?_toArray, List.getElem?_cons_zero, List.getElem?_cons_succ] at y0 y1 y2 y3
      obtain ⟨nm, hmp, hnm⟩ := hM2.map
      have hUl := HCNT.out _ hM2.nod hM2.small
      obtain ⟨cv, hlook, hcw, hcv⟩ := hmp.look (T := 48) Try.underlying48 keyS Try.underlying3 (fun W => by kernel_rfl) (HOK.out _ HSM.out)
      cases hu : u (p, h) with
      | some v0 =>
        obtain rfl := hcv v0 hu
        rw [hu] at hlook
        simp only [Option.isSome_some] at hlook
        by_cases hv : cv = -2
        · subst hv
          have hans := hM2.memo.ring hu HST.out
          have hres := hM2
          have HANS := Lib.hid hans
          have HRES := Lib.hid hres
          have HM2 := Lib.hid hM2
          have HMP := Lib.hid hmp
          have HU := Lib.hid hu
          have HAL := Lib.hid hal
          have HCV := Lib.hid hcv
          have HBR := Lib.hid hbr
          have HBS := Lib.hid hbs
          clear hans hres hM2 hmp hu hal hcv hbr hbs
          go_wp2_with fail
          go_ret
          exact ⟨-1, u, U, rfl, HANS.out, HAL.out.mono fun _ _ h => h.elim, HRES.out, Nat.le_refl _, fun _ h => h⟩
        · have hv2 : (cv == -2) = false := by simpa using hv
          have hans := hM2.memo.known hu hv
          have hres := hM2
          have HANS := Lib.hid hans
          have HRES := Lib.hid hres
          have HM2 := Lib.hid hM2
          have HMP := Lib.hid hmp
          have HU := Lib.hid hu
          have HAL := Lib.hid hal
          have HCV := Lib.hid hcv
          have HBR := Lib.hid hbr
          have HBS := Lib.hid hbs
          have HV := Lib.hid hv
          clear hans hres hM2 hmp hu hal hcv hbr hbs hv
          go_wp2_with fail
          go_ret
          exact ⟨cv, u, U, rfl, HANS.out, HAL.out.mono fun _ _ h => h.elim, HRES.out, Nat.le_refl _, fun _ h => h⟩
      | none =>
        rw [hu] at hlook
        simp only [Option.isSome_none] at hlook
        obtain ⟨w3, hup, hmp3, hk3⟩ := hmp.update (T := 48) Try.underlying48 keyS Try.underlying3 (by unfold maxLen; omega) (s := (p, h)) (v := -2) (HOK.out _ HSM.out) (by decide)
        have hM3 := hM2.ask HSM.out hu hnm hmp3
        have hU3 := HCNT.out _ hM3.nod hM3.small
        rw [List.length_cons] at hU3
        have hns : (p, h) ∉ stack := fun e => by have := (hM2.memo.asked (p, h)).2 e; rw [hu] at this; cases this
        have hbr3 := hbr.kept hk3 (by omega)
        have hbs3 := hbs.kept hk3 (by omega)
        have z0 := hbr3.cell 0
        have z1 := hbr3.cell 1
        have z2 := hbs3.cell 0
        have z3 := hbs3.cell 1
        simp only [List.getElem?_toArray, List.getElem?_cons_zero, List.getElem?_cons_succ] at z0 z1 z2 z3
        have hw3 : New w0 w3 := (HW.out.trans hal).step hk3 fun j hj e => by omega
        have hk03 : Kept (fun j => j = bu) w w3 := (hal.mono fun _ _ e => e.elim).trans hk3
        have hnq := HNX.out w3 hw3 p h HSM.out
        have hsmn := fun t ht => HNSM.out _ HSM.out t ht
        have h0' : h ≠ 0 := h0
        clear hmp hmp3
        have HM2 := Lib.hid hM2
        have HK3 := Lib.hid hk3
        have HM3 := Lib.hid hM3
        have HNS := Lib.hid hns
        have HBR := Lib.hid hbr
        have HBS := Lib.hid hbs
        have HBR3 := Lib.hid hbr3
        have HBS3 := Lib.hid hbs3
        have HW3 := Lib.hid hw3
        have HK03 := Lib.hid hk03
        have HNQ := Lib.hid hnq
        have HSMN := Lib.hid hsmn
        have HU := Lib.hid hu
        have HAL := Lib.hid hal
        have HCV := Lib.hid hcv
        have HNM := Lib.hid hnm
        have H0' := Lib.hid h0'
        clear hM2 hk3 hM3 hns hbr hbs hbr3 hbs3 hw3 hk03 hnq hsmn hu hal hcv hnm h0'
        clear h0
        go_wp2_with fail
        refine HNQ.out.mono ?_
        rintro e w4 ⟨hn4, A2, m2, c2, rfl, hsl, hfr⟩
        have hmm2 := hsl.len
        have hb2 := hsl.bound
        have hM4 := HM3.out.new hn4
        have hlt4 : w3.heap.size ≤ w4.heap.size := hn4.size
        have hw4 := HW3.out.trans hn4
        have hk04 := HK03.out.trans (hn4.mono fun _ _ e => e.elim)
        have hbr4 := HBR3.out.kept hn4 id
        have hbs4 := HBS3.out.kept hn4 id
        have hbrl := hbr4.lt
        have hbsl := hbs4.lt
        have hbr3l := HBR3.out.lt
        have hMb := fun ts m (hm : Most l ts m) (ht : ∀ t ∈ ts, t ∈ nexts l (p, h)) => hm.bound (N := 65792) fun t h1 k h2 => HLB.out t k (HSMN.out t (ht t h1)) h2
        generalize hnl : nexts l (p, h) = NX at *
        have hm22 : m2 ≤ 2 := by
          rw [hmm2, ← hnl]
          unfold nexts
          split
          · simp
          · repeat' split
            all_goals simp
        have HSL := Lib.hid hsl
        have HFR := Lib.hid hfr
        have HMM2 := Lib.hid hmm2
        have HN4 := Lib.hid hn4
        have HNL := Lib.hid hnl
        have HM4 := Lib.hid hM4
        have HW4 := Lib.hid hw4
        have HK04 := Lib.hid hk04
        have HBR4 := Lib.hid hbr4
        have HBS4 := Lib.hid hbs4
        have HMB := Lib.hid hMb
        clear hsl hfr hmm2 hn4 hnl hM4 hw4 hk04 hbr4 hbs4 hMb
        clear HNQ z0 z1 z2 z3 y0 y1 y2 y3 HM3 HM2 HBR3 HBS3 HBR HBS HK3 hup hlook
        go_wp2_with fail
        go_loopg [7, 33] 2 (fun g2 s7 s33 wr => ∃ (i : Nat) (most : Int) (u1 : Stand → Option Int) (U1 : List Stand), i ≤ m2 ∧ m2 - i ≤ g2 ∧ s33 = .int .i64 i ∧ s7 = .int .i64 most ∧ MeI l bu u1 U1 ((p, h) :: stack) wr ∧ Most l (NX.take i) most ∧ Kept (fun j => j = bu) w4 wr ∧ U.length + 1 ≤ U1.length ∧ ∀ x ∈ (p, h) :: U, x ∈ U1)
        case atStart => exact ⟨0, 0, _, _, Nat.zero_le _, by omega, rfl, rfl, HM4.out, by simpa using Most.none, Kept.refl _ _, by simp, fun x hx => hx⟩
        case round =>
          obtain ⟨i, most, u1, U1, hi, hgi, rfl, rfl, hM1, hMo, hk1, hle1, hsub1⟩ := hrel
          have hbr1 := HBR4.out.kept hk1 (by omega)
          have hbs1 := HBS4.out.kept hk1 (by omega)
          have hmost0 := hMo.nonneg
          by_cases hlt : i < m2
          · obtain ⟨b2, o2, rfl, -, hcs⟩ := stand_at HSL.out (by omega)
            have hil : i < NX.length := by rw [← HMM2.out]; exact hlt
            obtain ⟨z0, z1⟩ := hcs i hil
            have hfb := HFR.out b2 o2 none rfl
            have hbl := (lt_of_cell z0).1
            have hne : ¬ (b2 = bu) := by omega
            have z0 := (hk1.cell (p := ⟨b2, o2 + i * 2, none⟩) hbl hne).trans z0
            have z1 := (hk1.cell (p := ⟨b2, o2 + i * 2 + 1, none⟩) hbl hne).trans z1
            have htn : NX[i] ∈ nexts l (p, h) := by rw [HNL.out]; exact List.getElem_mem hil
            have hts := HSMN.out _ (List.getElem_mem hil)
            have htk : NX.take (i + 1) = NX.take i ++ [NX[i]] := List.take_succ_eq_append_getElem hil
            generalize NX[i] = t at *
            obtain ⟨tp, tq⟩ := t
            have hal1 : New wr (wr.alloc (.cells #[.int .i64 tp, .int .u64 tq] 61)) := (Kept.refl _ _).alloc _
            have hbt := Blk.made wr 61 #[.int .i64 tp, .int .u64 tq]
            have hM5 := hM1.new hal1
            have hbr5 := hbr1.kept hal1 id
            have hbs5 := hbs1.kept hal1 id
            have hk5 := hk1.alloc (.cells #[.int .i64 tp, .int .u64 tq] 61)
            have hw5 : New w0 (wr.alloc (.cells #[.int .i64 tp, .int .u64 tq] 61)) := HW4.out.step hk5 fun j hj e => by omega
            have HAL1 := Lib.hid hal1
            have HBT := Lib.hid hbt
            have HM5 := Lib.hid hM5
            have HTN := Lib.hid htn
            have HTS := Lib.hid hts
            have HTK := Lib.hid htk
            have HK5 := Lib.hid hk5
            have HM1 := Lib.hid hM1
            have HMO := Lib.hid hMo
            have HBR5 := Lib.hid hbr5
            have HBS5 := Lib.hid hbs5
            have HW5 := Lib.hid hw5
            have HSUB1 := Lib.hid hsub1
            clear hal1 hbt hM5 htn hts htk hk5 hM1 hMo hbr5 hbs5 hw5 hsub1
            clear hcs hfb hbl hne hk1 hbr1 hbs1
            go_upto_region 13 with (fail)
            generalize wr.alloc (.cells #[.int .i64 tp, .int .u64 tq] 61) = w6 at *
            generalize wr.heap.size = bt at *
            have y0 := HBT.out.cell 0
            have y1 := HBT.out.cell 1
            have x0 := HBR5.out.cell 0
            have x1 := HBR5.out.cell 1
            simp only [List.getElem?_toArray, List.getElem?_cons_zero, List.getElem?_cons_succ] at y0 y1 x0 x1
            have hrec := IH.out (d - 1) (by omega) HW5.out HM5.out (by omega) (fun a ha => by
              rcases List.mem_cons.1 ha with rfl | ha
              · exact .one H0'.out HTN.out
              · exact (HST.out a ha).snoc H0'.out HTN.out) (.next HRE.out (HFI.out _ HRE.out) HTN.out)
            have HREC := Lib.hid hrec
            clear hrec
            go_wp2_with fail
            refine HREC.out.mono ?_
            rintro e w7 ⟨v, u2, U2, rfl, hans, hk7, hM7, hle7, hsub7⟩
            have hk07 := HK5.out.trans hk7
            have hbr7 := HBR5.out.kept hk7 (by omega)
            have hbs7 := HBS5.out.kept hk7 (by omega)
            have hvb := HAB.out _ v HTS.out hans
            by_cases hv : v = -1
            · subst hv
              have hnf : ¬ Fin l (tp, tq) := by
                rcases hans with ⟨h1, -⟩ | ⟨-, h1⟩
                · omega
                · exact h1
              have hans2 := Answer.stop H0'.out HTN.out hnf
              obtain ⟨n7, hmp7, hn7⟩ := hM7.map
              have hU7 := HCNT.out _ hM7.nod hM7.small
              obtain ⟨w8, hup, hmp8, hk8⟩ := hmp7.update (T := 48) Try.underlying48 keyS Try.underlying3 (by unfold maxLen; omega) (s := (p, h)) (v := -1) (HOK.out _ HSM.out) (by decide)
              have hM8 := hM7.tell (hsub7 _ (HSUB1.out _ (List.mem_cons_self ..))) HNS.out hans2 hn7 hmp8
              have hk9 := (HK04.out.trans hk07).trans hk8
              have x0 := hbr7.cell 0
              have x1 := hbr7.cell 1
              have x2 := hbs7.cell 0
              have x3 := hbs7.cell 1
              simp only [List.getElem?_toArray, List.getElem?_cons_zero, List.getElem?_cons_succ] at x0 x1 x2 x3
              have HANS := Lib.hid hans
              have HANS2 := Lib.hid hans2
              have HM7 := Lib.hid hM7
              have HM8 := Lib.hid hM8
              have HK9 := Lib.hid hk9
              have HSUB7 := Lib.hid hsub7
              have HK07 := Lib.hid hk07
              have HK7 := Lib.hid hk7
              have HBR7 := Lib.hid hbr7
              have HBS7 := Lib.hid hbs7
              have HK8 := Lib.hid hk8
              have HNF := Lib.hid hnf
              clear hans hans2 hM7 hM8 hk9 hsub7 hk07 hk7 hbr7 hbs7 hk8 hnf
              clear hmp7 hmp8
              go_wp2_with fail
              go_ret
              exact ⟨-1, _, U2, rfl, HANS2.out, HK9.out, HM8.out, by omega, fun x hx => HSUB7.out x (HSUB1.out x (List.mem_cons_of_mem _ hx))⟩
            · have hv2 : (v == -1) = false := by simpa using hv
              have hv0 : 0 ≤ v := by omega
              have hlv : Long l (tp, tq) v.toNat := by
                rcases hans with ⟨-, h1⟩ | ⟨h1, -⟩
                · exact h1
                · exact absurd h1 hv
              have hMo2 := HMO.out.snoc hv0 hlv
              have HANS := Lib.hid hans
              have HM7 := Lib.hid hM7
              have HSUB7 := Lib.hid hsub7
              have HK07 := Lib.hid hk07
              have HK7 := Lib.hid hk7
              have HBR7 := Lib.hid hbr7
              have HBS7 := Lib.hid hbs7
              have HLV := Lib.hid hlv
              have HMO2 := Lib.hid hMo2
              have HV := Lib.hid hv
              clear hans hM7 hsub7 hk07 hk7 hbr7 hbs7 hlv hMo2 hv
              go_wp2_with fail
              go_roundg (m2 - (i + 1))
              case measure => omega
              case rel => exact ⟨i + 1, max most v, u2, U2, by omega, Nat.le_refl _, by go_num, rfl, HM7.out, by rw [HTK.out]; exact HMO2.out, HK07.out, by omega, fun x hx => HSUB7.out x (HSUB1.out x hx)⟩
          · obtain rfl : i = m2 := by omega
            rw [HMM2.out, List.take_length] at hMo
            have hmb := HMB.out _ _ hMo fun t ht => ht
            have hans2 : Answer l (p, h) (most + 1) := by
              rw [← HNL.out] at hMo
              exact hMo.answer H0'.out
            obtain ⟨n7, hmp7, hn7⟩ := hM1.map
            have hU7 := HCNT.out _ hM1.nod hM1.small
            obtain ⟨w8, hup, hmp8, hk8⟩ := hmp7.update (T := 48) Try.underlying48 keyS Try.underlying3 (by unfold maxLen; omega) (s := (p, h)) (v := most + 1) (HOK.out _ HSM.out) (by simp [Lit.wf, IntKind.min, IntKind.max, IntKind.signed, IntKind.bits]; omega)
            have hM8 := hM1.tell (hsub1 _ (List.mem_cons_self ..)) HNS.out hans2 hn7 hmp8
            have hk9 := (HK04.out.trans hk1).trans hk8
            have x0 := hbr1.cell 0
            have x1 := hbr1.cell 1
            have x2 := hbs1.cell 0
            have x3 := hbs1.cell 1
            simp only [List.getElem?_toArray, List.getElem?_cons_zero, List.getElem?_cons_succ] at x0 x1 x2 x3
            have hm3 : (most != -1) = true := by simp; omega
            have HANS2 := Lib.hid hans2
            have HM1 := Lib.hid hM1
            have HMO := Lib.hid hMo
            have HM8 := Lib.hid hM8
            have HK9 := Lib.hid hk9
            have HSUB1 := Lib.hid hsub1
            have HK1 := Lib.hid hk1
            have HBR1 := Lib.hid hbr1
            have HBS1 := Lib.hid hbs1
            have HK8 := Lib.hid hk8
            clear hans2 hM1 hMo hM8 hk9 hsub1 hk1 hbr1 hbs1 hk8
            clear hmp7 hmp8
            go_wp2_with fail
            go_ret
            exact ⟨most + 1, _, U1, rfl, HANS2.out, HK9.out, HM8.out, by omega, fun x hx => HSUB1.out x (List.mem_cons_of_mem _ hx)⟩
end Go.Proofs.Ytjhiaicpgajeoaa.Valid
