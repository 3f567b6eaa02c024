/- The walk of the reference's units (layer 8): it calls itself. -/
import Derived.Test.YtjhiaicpgajeoaaValidI
namespace Go.Proofs.Ytjhiaicpgajeoaa.Valid
open Go.RowKit Go.Fb Go.BytesP Go.CodeP Go.ValidP
open Go.Proofs.Ytjhiaicpgajeoaa.Code (repIns ins_at ins_wf cellsI Wf)
set_option linter.unusedVariables false
/-- A block of so many numbers, as a function. -/
def IntsAt (w : World) (g K : Nat) (M : Nat → Int) : Prop := ∃ cur, Blk w g 3 cur ∧ cur.size = K ∧ ∀ j, j < K → cur[j]? = some (.int .i64 (M j))
namespace IntsAt
variable {w w' : World} {g K : Nat} {M : Nat → Int}
theorem lt (h : IntsAt w g K M) : g < w.heap.size := by obtain ⟨cur, h1, -⟩ := h; exact h1.lt
theorem cell (h : IntsAt w g K M) {j : Nat} (hj : j < K) : w.cell? ⟨g, j, none⟩ = some (.int .i64 (M j)) := by
  obtain ⟨cur, h1, h2, h3⟩ := h
  rw [h1.cell, h3 j hj]
theorem free (h : IntsAt w g K M) (j : Nat) : w.frozen? ⟨g, j, none⟩ = false := by obtain ⟨cur, h1, -⟩ := h; exact h1.free j
theorem kept {G : Nat → Prop} (h : IntsAt w g K M) (hk : Kept G w w') (hg : ¬ G g) : IntsAt w' g K M := by
  obtain ⟨cur, h1, h2⟩ := h
  exact ⟨cur, h1.kept hk hg, h2⟩
theorem set (h : IntsAt w g K M) {j : Nat} (hj : j < K) (v : Int) : IntsAt (w.setCell ⟨g, j, none⟩ (.int .i64 v)) g K (fun i => if i = j then v else M i) := by
  obtain ⟨cur, h1, h2, h3⟩ := h
  refine ⟨_, h1.set _, by simpa using h2, fun i hi => ?_⟩
  rw [Array.getElem?_setIfInBounds]
  by_cases e : j = i
  · subst e
    rw [if_pos rfl, if_pos (by omega)]
    simp
  · rw [if_neg e, h3 i hi]
    have e' : ¬ i = j := fun h => e h.symm
    simp [e']
theorem made (w : World) (K : Nat) : IntsAt (w.alloc (.cells (Array.replicate K (Value.int .i64 0)) 3)) w.heap.size K (fun _ => 0) :=
  ⟨_, Blk.made _ _ _, by simp, fun j hj => by simp [hj]⟩
end IntsAt
/-- What is remembered of a stand. -/
def uOf (l : List Ins) (LG : Nat → Int) (ON : Nat → Bool) (s : Stand) : Option Int :=
  if s.1 ≤ l.length ∧ s.2 < 256 then (if ON (codeS s) = true then some (-2) else if LG (codeS s) = 0 then none else some (LG (codeS s))) else none
section
variable {l : List Ins} {LG : Nat → Int} {ON : Nat → Bool} {s : Stand} {v : Int}
theorem uOf_small (hs : Small l s) : uOf l LG ON s = (if ON (codeS s) = true then some (-2) else if LG (codeS s) = 0 then none else some (LG (codeS s))) := by
  unfold uOf; exact if_pos (show _ ∧ _ from hs)
theorem uOf_ask (hs : Small l s) (x : Stand) : uOf l LG (fun j => if j = codeS s then true else ON j) x = if x = s then some (-2) else uOf l LG ON x := by
  by_cases e : x = s
  · subst e
    rw [if_pos rfl, uOf_small hs]
    simp
  · rw [if_neg e]
    by_cases hx : Small l x
    · have hne : codeS x ≠ codeS s := fun h => e (codeS_inj hx hs h)
      rw [uOf_small hx, uOf_small hx]
      simp only [if_neg hne]
    · have hx' : ¬ (x.1 ≤ l.length ∧ x.2 < 256) := hx
      unfold uOf; rw [if_neg hx', if_neg hx']
theorem uOf_tell (hs : Small l s) (hv : v ≠ 0) (x : Stand) : uOf l (fun j => if j = codeS s then v else LG j) (fun j => if j = codeS s then false else ON j) x = if x = s then some v else uOf l LG ON x := by
  by_cases e : x = s
  · subst e
    rw [if_pos rfl, uOf_small hs]
    simp [hv]
  · rw [if_neg e]
    by_cases hx : Small l x
    · have hne : codeS x ≠ codeS s := fun h => e (codeS_inj hx hs h)
      rw [uOf_small hx, uOf_small hx]
      simp only [if_neg hne]
    · have hx' : ¬ (x.1 ≤ l.length ∧ x.2 < 256) := hx
      unfold uOf; rw [if_neg hx', if_neg hx']
end
/-- How what is remembered stands in memory. -/
structure UnI (l : List Ins) (R : Array Value) (br gl go K : Nat) (LG : Nat → Int) (ON : Nat → Bool) (U stack : List Stand) (W : World) : Prop where
  rows : Blk W br 56 R
  long : IntsAt W gl K LG
  on : BoolsAt W go K ON
  vals : ∀ j, -1 ≤ LG j ∧ LG j ≤ 65792
  dom : ∀ s, (uOf l LG ON s).isSome = decide (s ∈ U)
  nod : U.Nodup
  small : ∀ s ∈ U, Small l s
  memo : Memo l (uOf l LG ON) stack
namespace UnI
variable {l : List Ins} {R : Array Value} {br gl go K : Nat} {LG : Nat → Int} {ON : Nat → Bool} {U stack : List Stand} {W W' : World} {s : Stand} {v : Int}
theorem new (h : UnI l R br gl go K LG ON U stack W) (hn : New W W') : UnI l R br gl go K LG ON U stack W' :=
  ⟨h.rows.kept hn id, h.long.kept hn id, h.on.kept hn id, h.vals, h.dom, h.nod, h.small, h.memo⟩
theorem ask (h : UnI l R br gl go K LG ON U stack W) (hs : Small l s) (hN : codeS s < K) (hn : uOf l LG ON s = none) (h1 : br ≠ go) (h2 : gl ≠ go) : UnI l R br gl go K LG (fun j => if j = codeS s then true else ON j) (s :: U) (s :: stack) (W.setCell ⟨go, codeS s, none⟩ (.bool true)) := by
  have hk : Kept (fun j => j = go) W (W.setCell ⟨go, codeS s, none⟩ (.bool true)) := Kept.set1 W go _ _
  have hsU : s ∉ U := fun e => by have := h.dom s; rw [hn, decide_eq_true e] at this; cases this
  refine ⟨h.rows.kept hk h1, h.long.kept hk h2, h.on.set hN true, h.vals, fun t => ?_, List.nodup_cons.2 ⟨hsU, h.nod⟩, fun t ht => ?_, h.memo.ask hn (uOf_ask hs)⟩
  · rw [uOf_ask hs]
    by_cases e : t = s
    · simp [e]
    · rw [if_neg e, h.dom]; simp [e]
  · rcases List.mem_cons.1 ht with rfl | ht
    · exact hs
    · exact h.small t ht
theorem tell (h : UnI l R br gl go K LG ON U (s :: stack) W) (hs : Small l s) (hsU : s ∈ U) (hns : s ∉ stack) (hv : Answer l s v) (hv0 : v ≠ 0) (hvb : -1 ≤ v ∧ v ≤ 65792) (h1 : Blk W' br 56 R)
    (h2 : IntsAt W' gl K (fun j => if j = codeS s then v else LG j)) (h3 : BoolsAt W' go K (fun j => if j = codeS s then false else ON j)) : UnI l R br gl go K (fun j => if j = codeS s then v else LG j) (fun j => if j = codeS s then false else ON j) U stack W' := by
  refine ⟨h1, h2, h3, fun j => ?_, fun t => ?_, h.nod, h.small, h.memo.tell hns hv (uOf_tell hs hv0)⟩
  · by_cases e : j = codeS s
    · simp only [if_pos e]; exact hvb
    · simp only [if_neg e]; exact h.vals j
  · rw [uOf_tell hs hv0]
    by_cases e : t = s
    · simp [e, hsU]
    · rw [if_neg e, h.dom]
end UnI
/-- What a reckoning leaves. -/
def ToldR (l : List Ins) (s : Stand) (R : Array Value) (br gl go K : Nat) (U stack : List Stand) (w : World) (e : Ending) (w' : World) : Prop :=
  ∃ v LG' ON' U', e = .returned (.int .i64 v) ∧ Answer l s v ∧ Kept (fun j => j = gl ∨ j = go) w w' ∧ UnI l R br gl go K LG' ON' U' stack w' ∧ U.length ≤ U'.length ∧ ∀ x ∈ U, x ∈ U'
/-- The longest of those that follow so far; or one has no end. -/
def MostR (l : List Ins) (ts : List Stand) (m : Int) : Prop := (0 ≤ m ∧ Most l ts m) ∨ (m = -1 ∧ ∃ t ∈ ts, ¬ Fin l t)
set_option maxRecDepth 100000 in
set_option maxHeartbeats 4000000 in
theorem units_any {A : Option Addr} {n c : Nat} {l : List Ins} {w0 : World} {locks : Int} {br gl go K : Nat} (hl : SliceOf repIns w0 w0.heap.size A n c l) (hk : locks ≤ 8) (hc : ∀ x ∈ l, check x l.length locks = 0) (hn : n ≤ 256) (hK : K = 256 * (l.length + 1)) (hgl : w0.heap.size ≤ gl) (hgo : w0.heap.size ≤ go) (hg1 : br ≠ gl) (hg2 : br ≠ go) (hg3 : gl ≠ go) (hfine : ∀ s, ValidP.Reach l s → wrongS l s = 0) :
    ∀ (d : Nat) {w : World} {LG : Nat → Int} {ON : Nat → Bool} {U stack : List Stand} {p h : Nat}, New w0 w → UnI l #[.slice A n c, .slice (some ⟨gl, 0, none⟩) K K, .slice (some ⟨go, 0, none⟩) K K] br gl go K LG ON U stack w → 65792 ≤ d + U.length → (∀ a ∈ stack, ValidP.Row l a (p, h)) → ValidP.Reach l (p, h) →
    Calls Try.prog 25 #[.pointer (some ⟨br, 0, none⟩), .int .i64 (codeS (p, h) : Nat)] w (ToldR l (p, h) #[.slice A n c, .slice (some ⟨gl, 0, none⟩) K K, .slice (some ⟨go, 0, none⟩) K K] br gl go K U stack w) := by
  have hln := hl.len
  have hbd := hl.bound
  have hl256 : l.length ≤ 256 := by omega
  have HBE := Lib.hid (fun W (hW : New w0 W) p h hs => behind_any (p := p) (h := h) (w := W) ((hl.kept hW (Nat.le_refl _) (fun _ _ h => h)).more hW.size) hs hk hc hn)
  have HCNT := Lib.hid (fun L h1 h2 => small_count (l := l) (L := L) hl256 h1 h2)
  have HSMA := Lib.hid (fun s (h : ValidP.Reach l s) => h.small hk hc)
  have HAB := Lib.hid (fun s v h1 h2 => Answer.bound hk hc hl256 (s := s) (v := v) h1 h2)
  have HLB := Lib.hid (fun s k h1 h2 => Long.bound hk hc hl256 (s := s) (k := k) h1 h2)
  have HNSM := Lib.hid (fun s h t ht => nexts_small hk hc (s := s) h (t := t) ht)
  have HFI := Lib.hid hfine
  have HCLT := Lib.hid (fun s (h : Small l s) => (show codeS s < K by rw [hK]; exact codeS_lt h))
  have hK9 : K ≤ 65792 := by omega
  have HL := Lib.hid hl
  have HC := Lib.hid hc
  have HLN := Lib.hid hln
  have HFINE := Lib.hid hfine
  have HK := Lib.hid hK
  clear hl hc hln hfine hK
  intro d
  induction d using Nat.strongRecOn with
  | _ d ih =>
    intro w LG ON U stack p h hw hU hd hst hre
    have hsm := HSMA.out _ hre
    have hh : h < 256 := hsm.2
    have IH := Lib.hid @ih
    clear ih
    have hNK := HCLT.out _ hsm
    obtain ⟨N, hN⟩ : ∃ N, codeS (p, h) = N := ⟨_, rfl⟩
    have hN2 : 256 * p + h = N := hN
    rw [hN] at hNK ⊢
    have q2 : Int.tmod (N : Int) 256 = (h : Int) := by rw [Int.tmod_eq_emod_of_nonneg (by omega)]; omega
    clear hN2
    have r0 := hU.rows.cell 0
    have r1 := hU.rows.cell 1
    have r2 := hU.rows.cell 2
    simp only [List.getElem?_toArray, List.getElem?_cons_zero, List.getElem?_cons_succ] at r0 r1 r2
    have o0 := hU.on.cell hNK
    have of0 := hU.on.free N
    have l0 := hU.long.cell hNK
    by_cases h0 : h = 0
    · subst h0
      have HU := Lib.hid hU
      have HST := Lib.hid hst
      have HRE := Lib.hid hre
      have HW := Lib.hid hw
      have HSM := Lib.hid hsm
      have HN := Lib.hid hN
      clear hU hst hre hw hsm hN
      go_enter Try.func25, Try.ntmps25
      go_wp2_with fail
      go_ret
      exact ⟨0, LG, ON, U, rfl, Answer.zero p, Kept.refl _ _, HU.out, Nat.le_refl _, fun _ h => h⟩
    · have hh0 : ((h : Int) == 0) = false := by simp; omega
      have hhn : ¬ h = 0 := h0
      cases hon : ON N with
      | true =>
        rw [hon] at o0
        have hus : uOf l LG ON (p, h) = some (-2) := by rw [uOf_small hsm, hN, if_pos hon]
        have hans := hU.memo.ring hus hst
        have HU := Lib.hid hU
        have HST := Lib.hid hst
        have HRE := Lib.hid hre
        have HW := Lib.hid hw
        have HSM := Lib.hid hsm
        have HN := Lib.hid hN
        have HON := Lib.hid hon
        have HUS := Lib.hid hus
        have HANS := Lib.hid hans
        clear hU hst hre hw hsm hN hon hus hans
        go_enter Try.func25, Try.ntmps25
        go_wp2_with fail
        go_ret
        exact ⟨-1, LG, ON, U, rfl, HANS.out, Kept.refl _ _, HU.out, Nat.le_refl _, fun _ h => h⟩
      | false =>
        rw [hon] at o0
        by_cases hlg : LG N = 0
        · have hus : uOf l LG ON (p, h) = none := by rw [uOf_small hsm, hN, if_neg (by rw [hon]; decide), if_pos hlg]
          rw [hlg] at l0
          have hU1 := hU.ask hsm (by rw [hN]; exact hNK) hus hg2 hg3
          have hUl := HCNT.out _ hU1.nod hU1.small
          rw [List.length_cons] at hUl
          have hns : (p, h) ∉ stack := fun e => by have := (hU.memo.asked (p, h)).2 e; rw [hus] at this; cases this
          have hw1 : New w0 (w.setCell ⟨go, N, none⟩ (.bool true)) := hw.setCell (.inl hgo) _
          have hk1 : Kept (fun j => j = gl ∨ j = go) w (w.setCell ⟨go, N, none⟩ (.bool true)) := (Kept.refl _ w).setCell (.inr (.inr rfl)) _
          rw [hN] at hU1
          have hbe := HBE.out _ hw1 p h hsm
          rw [hN] at hbe
          have r3 := hU1.rows.cell 0
          simp only [List.getElem?_toArray, List.getElem?_cons_zero] at r3
          have hsmn := fun t ht => HNSM.out (p, h) hsm t ht
          have hR : nextsR l (p, h) = (nexts l (p, h)).map codeS := by unfold nextsR; rw [if_pos (HFI.out _ hre)]
          rw [hR] at hbe
          have HU := Lib.hid hU
          have HST := Lib.hid hst
          have HRE := Lib.hid hre
          have HW := Lib.hid hw
          have HSM := Lib.hid hsm
          have HN := Lib.hid hN
          have HON := Lib.hid hon
          have HUS := Lib.hid hus
          have HLG := Lib.hid hlg
          have HU1 := Lib.hid hU1
          have HNS := Lib.hid hns
          have HW1 := Lib.hid hw1
          have HK1 := Lib.hid hk1
          have HBEH := Lib.hid hbe
          have HSMN := Lib.hid hsmn
          have HR := Lib.hid hR
          clear hU hst hre hw hsm hN hon hus hlg hU1 hns hw1 hk1 hbe hsmn hR
          go_enter Try.func25, Try.ntmps25
          go_upto_region 8 with (fail)
          generalize w.setCell ⟨go, N, none⟩ (.bool true) = w1 at *
          clear r0 r1 r2 o0 of0 l0
          go_wp2_with fail
          refine HBEH.out.mono ?_
          rintro e w4 ⟨hn4, A2, m2, c2, rfl, hsl, hfr⟩
          have hmm2 := hsl.len
          rw [List.length_map] at hmm2
          have hb2 := hsl.bound
          have hU4 := HU1.out.new hn4
          have hlt4 : w1.heap.size ≤ w4.heap.size := hn4.size
          have hw4 := HW1.out.trans hn4
          have hk04 := HK1.out.trans (hn4.mono fun _ _ e => e.elim)
          have hgll := HU1.out.long.lt
          have hgol := HU1.out.on.lt
          have hMb := fun ts m (hm : Most l ts m) (ht : ∀ t ∈ ts, t ∈ nexts l (p, h)) => hm.bound (N := 65792) fun t h1 k h2 => HLB.out t k (HSMN.out t (ht t h1)) h2
          generalize hnl : nexts l (p, h) = NX at *
          have hm22 : m2 ≤ 2 := by
            rw [hmm2, ← hnl]
            unfold nexts
            split
            · simp
            · repeat' split
              all_goals simp
          have HSL := Lib.hid hsl
          have HFR := Lib.hid hfr
          have HMM2 := Lib.hid hmm2
          have HN4 := Lib.hid hn4
          have HNL := Lib.hid hnl
          have HU4 := Lib.hid hU4
          have HW4 := Lib.hid hw4
          have HK04 := Lib.hid hk04
          have HMB := Lib.hid hMb
          clear hsl hfr hmm2 hn4 hnl hU4 hw4 hk04 hMb
          clear HBEH r3 HU1 HU HK1 HW1
          go_wp2_with fail
          go_loopw [5, 7] (fun s5 s7 wr => ∃ (i : Nat) (most : Int) (LG1 : Nat → Int) (ON1 : Nat → Bool) (U1 : List Stand), i ≤ m2 ∧ s7 = .int .i64 i ∧ s5 = .int .i64 most ∧ -1 ≤ most ∧ most ≤ 65792 ∧ UnI l #[.slice A n c, .slice (some ⟨gl, 0, none⟩) K K, .slice (some ⟨go, 0, none⟩) K K] br gl go K LG1 ON1 U1 ((p, h) :: stack) wr ∧ Hid (MostR l (NX.take i) most) ∧ Kept (fun j => j = gl ∨ j = go) w4 wr ∧ U.length + 1 ≤ U1.length ∧ ∀ x ∈ (p, h) :: U, x ∈ U1) (fun _ s _ => (m2 - intOf s).toNat)
          case atStart => exact ⟨0, 0, _, _, _, Nat.zero_le _, rfl, rfl, by omega, by omega, HU4.out, Lib.hid (.inl ⟨by omega, by simpa using Most.none⟩), Kept.refl _ _, by simp, fun x hx => hx⟩
          case round =>
            obtain ⟨i, most, LG1, ON1, U1, hi, rfl, rfl, hm0, hm9, hU1, hMo, hk1, hle1, hsub1⟩ := hrel
            have HMO := hMo
            clear hMo
            by_cases hlt : i < m2
            · obtain ⟨b2, o2, rfl, -, hcs⟩ := nats_at HSL.out (by omega)
              have hil : i < NX.length := by rw [← HMM2.out]; exact hlt
              have y0 := hcs i (by rw [List.length_map]; exact hil)
              rw [List.getElem_map] at y0
              have hfb := HFR.out b2 o2 none rfl
              have hbl := (lt_of_cell y0).1
              have hne : ¬ (b2 = gl ∨ b2 = go) := by omega
              have y0 := (hk1.cell (p := ⟨b2, o2 + i, none⟩) hbl hne).trans y0
              have htn : NX[i] ∈ nexts l (p, h) := by rw [HNL.out]; exact List.getElem_mem hil
              have hts := HSMN.out _ (List.getElem_mem hil)
              have htk : NX.take (i + 1) = NX.take i ++ [NX[i]] := List.take_succ_eq_append_getElem hil
              generalize NX[i] = t at *
              obtain ⟨tp, tq⟩ := t
              have hw5 : New w0 wr := HW4.out.step hk1 fun j hj e => by omega
              have hrec := IH.out (d - 1) (by omega) hw5 hU1 (by omega) (fun a ha => by
                rcases List.mem_cons.1 ha with rfl | ha
                · exact .one h0 htn
                · exact (HST.out a ha).snoc h0 htn) (.next HRE.out (HFI.out _ HRE.out) htn)
              have HU1 := Lib.hid hU1
              have HTN := Lib.hid htn
              have HTS := Lib.hid hts
              have HTK := Lib.hid htk
              have HK1 := Lib.hid hk1
              have HW5 := Lib.hid hw5
              have HSUB1 := Lib.hid hsub1
              have HREC := Lib.hid hrec
              clear hU1 htn hts htk hk1 hw5 hsub1 hrec
              clear hcs hfb hbl hne
              go_wp2_with fail
              refine HREC.out.mono ?_
              rintro e w7 ⟨v, LG2, ON2, U2, rfl, hans, hk7, hU7, hle7, hsub7⟩
              have hk07 := HK1.out.trans hk7
              have hvb := HAB.out _ v HTS.out hans
              by_cases hv : v < 0
              · have hnf : ¬ Fin l (tp, tq) := by
                  rcases hans with ⟨h1, -⟩ | ⟨-, h1⟩
                  · omega
                  · exact h1
                have hMo2 : MostR l (NX.take (i + 1)) (-1) := .inr ⟨rfl, (tp, tq), by rw [HTK.out]; simp, hnf⟩
                have HANS := Lib.hid hans
                have HU7 := Lib.hid hU7
                have HSUB7 := Lib.hid hsub7
                have HK07 := Lib.hid hk07
                have HK7 := Lib.hid hk7
                have HNF := Lib.hid hnf
                have HMO2 := Lib.hid hMo2
                clear hans hU7 hsub7 hk07 hk7 hnf hMo2
                go_wp2_with fail
                go_roundw
                case rel => exact ⟨i + 1, -1, LG2, ON2, U2, by omega, by go_num, rfl, by omega, by omega, HU7.out, HMO2, HK07.out, by omega, fun x hx => HSUB7.out x (HSUB1.out x hx)⟩
                case measure => simp [intOf]; omega
              · have hlv : Long l (tp, tq) v.toNat := by
                  rcases hans with ⟨-, h1⟩ | ⟨h1, -⟩
                  · exact h1
                  · omega
                by_cases hmn : 0 ≤ most
                · have hMo2 : MostR l (NX.take (i + 1)) (max most v) := by
                    rcases HMO.out with ⟨g1, g2⟩ | ⟨g1, -⟩
                    · rw [HTK.out]; exact .inl ⟨by omega, g2.snoc (by omega) hlv⟩
                    · omega
                  have hmx : -1 ≤ max most v ∧ max most v ≤ 65792 := by omega
                  have HANS := Lib.hid hans
                  have HU7 := Lib.hid hU7
                  have HSUB7 := Lib.hid hsub7
                  have HK07 := Lib.hid hk07
                  have HK7 := Lib.hid hk7
                  have HLV := Lib.hid hlv
                  have HMO2 := Lib.hid hMo2
                  have HMX := Lib.hid hmx
                  clear hans hU7 hsub7 hk07 hk7 hlv hMo2 hmx
                  go_wp2_with fail
                  go_roundw
                  case rel => exact ⟨i + 1, max most v, LG2, ON2, U2, by omega, by go_num, rfl, HMX.out.1, HMX.out.2, HU7.out, HMO2, HK07.out, by omega, fun x hx => HSUB7.out x (HSUB1.out x hx)⟩
                  case measure => simp [intOf]; omega
                · have hMo2 : MostR l (NX.take (i + 1)) most := by
                    rcases HMO.out with ⟨g1, -⟩ | ⟨g1, u, g2, g3⟩
                    · omega
                    · rw [HTK.out]; exact .inr ⟨g1, u, List.mem_append_left _ g2, g3⟩
                  have HANS := Lib.hid hans
                  have HU7 := Lib.hid hU7
                  have HSUB7 := Lib.hid hsub7
                  have HK07 := Lib.hid hk07
                  have HK7 := Lib.hid hk7
                  have HLV := Lib.hid hlv
                  have HMO2 := Lib.hid hMo2
                  clear hans hU7 hsub7 hk07 hk7 hlv hMo2
                  go_wp2_with fail
                  go_roundw
                  case rel => exact ⟨i + 1, most, LG2, ON2, U2, by omega, by go_num, rfl, hm0, hm9, HU7.out, HMO2, HK07.out, by omega, fun x hx => HSUB7.out x (HSUB1.out x hx)⟩
                  case measure => simp [intOf]; omega
            · obtain rfl : i = m2 := by omega
              have hMo := HMO.out
              rw [HMM2.out, List.take_length] at hMo
              have r0 := hU1.rows.cell 2
              have o0 := hU1.on.cell hNK
              have of0 := hU1.on.free N
              simp only [List.getElem?_toArray, List.getElem?_cons_zero, List.getElem?_cons_succ] at r0
              have hk8 : Kept (fun j => j = go) wr (wr.setCell ⟨go, N, none⟩ (.bool false)) := Kept.set1 wr go N _
              have hrw8 := hU1.rows.kept hk8 hg2
              have hon8 := hU1.on.set hNK false
              have hln8 := hU1.long.kept hk8 hg3
              have hk08 := (HK04.out.trans hk1).trans (hk8.mono (g' := fun j => j = gl ∨ j = go) fun j _ e => .inr e)
              have hsN : (p, h) ∈ U1 := hsub1 _ (List.mem_cons_self ..)
              have hsubU : ∀ x ∈ U, x ∈ U1 := fun x hx => hsub1 x (List.mem_cons_of_mem _ hx)
              have HU1 := Lib.hid hU1
              have HK1 := Lib.hid hk1
              have HSUB1 := Lib.hid hsub1
              have HK8 := Lib.hid hk8
              have HRW8 := Lib.hid hrw8
              have HON8 := Lib.hid hon8
              have HLN8 := Lib.hid hln8
              have HK08 := Lib.hid hk08
              have HMO1 := Lib.hid hMo
              have HSN := Lib.hid hsN
              have HSUBU := Lib.hid hsubU
              clear hU1 hk1 hsub1 hk8 hrw8 hon8 hln8 hk08 hMo hsN hsubU
              go_upto_region 19 with (fail)
              generalize wr.setCell ⟨go, N, none⟩ (.bool false) = w8 at *
              clear r0 o0 of0
              have r1 := HRW8.out.cell 1
              simp only [List.getElem?_toArray, List.getElem?_cons_zero, List.getElem?_cons_succ] at r1
              have l0 := HLN8.out.cell hNK
              have lf0 := HLN8.out.free N
              have hk9 : Kept (fun j => j = gl) w8 (w8.setCell ⟨gl, N, none⟩ (.int .i64 (most + 1))) := Kept.set1 w8 gl N _
              have hrw9 := HRW8.out.kept hk9 hg1
              have hon9 := HON8.out.kept hk9 fun e => hg3 e.symm
              have hln9 := HLN8.out.set hNK (most + 1)
              have hk09 := HK08.out.trans (hk9.mono (g' := fun j => j = gl ∨ j = go) fun j _ e => .inl e)
              have HK9 := Lib.hid hk9
              have HRW9 := Lib.hid hrw9
              have HON9 := Lib.hid hon9
              have HLN9 := Lib.hid hln9
              have HK09 := Lib.hid hk09
              clear hk9 hrw9 hon9 hln9 hk09
              go_upto_region 20 with (fail)
              generalize w8.setCell ⟨gl, N, none⟩ (.int .i64 (most + 1)) = w9 at *
              clear r1 l0 lf0
              have r1 := HRW9.out.cell 1
              simp only [List.getElem?_toArray, List.getElem?_cons_zero, List.getElem?_cons_succ] at r1
              have l0 : w9.cell? ⟨gl, N, none⟩ = some (.int .i64 (most + 1)) := by
                have := HLN9.out.cell hNK
                simpa using this
              have lf0 := HLN9.out.free N
              by_cases hmn : most < 0
              · have hans : Answer l (p, h) (-1) := by
                  rcases HMO1.out with ⟨g1, -⟩ | ⟨g1, u, g2, g3⟩
                  · omega
                  · exact Answer.stop h0 (by rw [HNL.out]; exact g2) g3
                have hk10 : Kept (fun j => j = gl) w9 (w9.setCell ⟨gl, N, none⟩ (.int .i64 (-1))) := Kept.set1 w9 gl N _
                have hrw10 := HRW9.out.kept hk10 hg1
                have hon10 := HON9.out.kept hk10 fun e => hg3 e.symm
                have hln10 := HLN9.out.set hNK (-1)
                have hk010 := HK09.out.trans (hk10.mono (g' := fun j => j = gl ∨ j = go) fun j _ e => .inl e)
                have hln11 : IntsAt (w9.setCell ⟨gl, N, none⟩ (.int .i64 (-1))) gl K (fun j => if j = N then -1 else LG1 j) := by
                  obtain ⟨cur, g1, g2, g3⟩ := hln10
                  refine ⟨cur, g1, g2, fun j hj => ?_⟩
                  rw [g3 j hj]
                  by_cases e : j = N <;> simp [e]
                have hU11 := HU1.out.tell (v := -1) HSM.out HSN.out HNS.out hans (by decide) (by decide) hrw10 (by rw [HN.out]; exact hln11) (by rw [HN.out]; exact hon10)
                have HANS := Lib.hid hans
                have HK10 := Lib.hid hk10
                have HRW10 := Lib.hid hrw10
                have HON10 := Lib.hid hon10
                have HLN10 := Lib.hid hln10
                have HK010 := Lib.hid hk010
                have HLN11 := Lib.hid hln11
                have HU11 := Lib.hid hU11
                clear hans hk10 hrw10 hon10 hln10 hk010 hln11 hU11
                go_upto_region 22 with (fail)
                generalize w9.setCell ⟨gl, N, none⟩ (.int .i64 (-1)) = w10 at *
                clear r1 l0 lf0
                have r1 := HRW10.out.cell 1
                simp only [List.getElem?_toArray, List.getElem?_cons_zero, List.getElem?_cons_succ] at r1
                have l0 : w10.cell? ⟨gl, N, none⟩ = some (.int .i64 (-1)) := by
                  have := HLN10.out.cell hNK
                  simpa using this
                go_wp2_with fail
                go_ret
                exact ⟨-1, _, _, U1, rfl, HANS.out, HK010.out, HU11.out, by omega, HSUBU.out⟩
              · have hans : Answer l (p, h) (most + 1) := by
                  rcases HMO1.out with ⟨g1, g2⟩ | ⟨g1, -⟩
                  · rw [← HNL.out] at g2; exact g2.answer h0
                  · omega
                have hmb : most + 1 ≤ 65792 := (HAB.out _ _ HSM.out hans).2
                have hU11 := HU1.out.tell (v := most + 1) HSM.out HSN.out HNS.out hans (by omega) (by omega) HRW9.out (by rw [HN.out]; exact HLN9.out) (by rw [HN.out]; exact HON9.out)
                have HANS := Lib.hid hans
                have HU11 := Lib.hid hU11
                clear hans hU11
                go_wp2_with fail
                go_ret
                exact ⟨most + 1, _, _, U1, rfl, HANS.out, HK09.out, HU11.out, by omega, HSUBU.out⟩
        · have hlg2 : (LG N != 0) = true := by simpa using hlg
          have hus : uOf l LG ON (p, h) = some (LG N) := by rw [uOf_small hsm, hN, if_neg (by rw [hon]; decide), if_neg hlg]
          have hans := hU.memo.known hus (by have := hU.vals N; omega)
          have HU := Lib.hid hU
          have HST := Lib.hid hst
          have HRE := Lib.hid hre
          have HW := Lib.hid hw
          have HSM := Lib.hid hsm
          have HN := Lib.hid hN
          have HON := Lib.hid hon
          have HUS := Lib.hid hus
          have HANS := Lib.hid hans
          have HLG := Lib.hid hlg
          clear hU hst hre hw hsm hN hon hus hans hlg
          go_enter Try.func25, Try.ntmps25
          go_wp2_with fail
          go_ret
          exact ⟨LG N, LG, ON, U, rfl, HANS.out, Kept.refl _ _, HU.out, Nat.le_refl _, fun _ h => h⟩
end Go.Proofs.Ytjhiaicpgajeoaa.Valid
