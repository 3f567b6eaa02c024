/- The walk of the reference's behind (layer 8). -/
import Derived.Test.YtjhiaicpgajeoaaValidE
namespace Go.Proofs.Ytjhiaicpgajeoaa.Valid
open Go.RowKit Go.Fb Go.BytesP Go.CodeP Go.ValidP
open Go.Proofs.Ytjhiaicpgajeoaa.Code (repIns ins_at ins_wf cellsI Wf)
set_option linter.unusedVariables false
theorem one_nat {W : World} {T : TypeId} {g : Nat} {x : Int} (s : Nat) (hg : g = W.heap.size) (hx : x = (s : Int)) : SliceOf repNat (W.alloc (.cells #[.int .i64 x] T)) (W.alloc (.cells #[.int .i64 x] T)).heap.size (some ⟨g, 0, none⟩) 1 1 [s] := by
  subst hg; subst hx
  refine ⟨rfl, Nat.le_refl _, by unfold maxLen; omega, .inr ⟨_, 0, rfl, by show _ < (W.heap.push _).size; simp, fun i hi => ⟨_, fun j hj => ?_, rfl⟩⟩⟩
  have hi0 : i = 0 := by simpa using hi
  have hj0 : j = 0 := Nat.lt_one_iff.1 hj
  subst hi0; subst hj0
  rw [(Blk.made W T #[.int .i64 (s : Int)]).cell]
  rfl
theorem two_nats {W : World} {T : TypeId} {g : Nat} {x y : Int} (s t : Nat) (hg : g = W.heap.size) (hx : x = (s : Int)) (hy : y = (t : Int)) : SliceOf repNat (W.alloc (.cells #[.int .i64 x, .int .i64 y] T)) (W.alloc (.cells #[.int .i64 x, .int .i64 y] T)).heap.size (some ⟨g, 0, none⟩) 2 2 [s, t] := by
  subst hg; subst hx; subst hy
  refine ⟨rfl, Nat.le_refl _, by unfold maxLen; omega, .inr ⟨_, 0, rfl, by show _ < (W.heap.push _).size; simp, fun i hi => ⟨_, fun j hj => ?_, rfl⟩⟩⟩
  have hi0 : i < 2 := by simpa using hi
  have hj0 : j = 0 := Nat.lt_one_iff.1 hj
  subst hj0
  rw [(Blk.made W T #[.int .i64 (s : Int), .int .i64 (t : Int)]).cell]
  match i, hi0 with
  | 0, _ => rfl
  | 1, _ => rfl
theorem nexts_at' {l : List Ins} {p h : Nat} {x : Ins} (hx : l[p]? = some x) : nexts l (p, h) = (if x.op = 0 then [] else if x.op = 22 then [(x.imm.toNat, h)] else if x.op = 23 then [(x.imm.toNat, h), (p + 1, h)] else if x.op = 29 then [(p + 1, lockB h x.imm.toNat)] else if x.op = 30 then [(p + 1, unlockB h x.imm.toNat)] else [(p + 1, h)]) := by
  unfold nexts
  simp only [hx]
/-- The numbers of the stands that follow one, if it is not wrong. -/
def nextsR (l : List Ins) (s : Stand) : List Nat := if wrongS l s = 0 then (nexts l s).map codeS else []
set_option maxHeartbeats 4000000 in
theorem behind_any {A : Option Addr} {n c : Nat} {l : List Ins} {p h : Nat} {w : World} {locks : Int} (hl : SliceOf repIns w w.heap.size A n c l) (hs : Small l (p, h)) (hk : locks ≤ 8) (hc : ∀ x ∈ l, check x l.length locks = 0) (hn : n ≤ 256) :
    Calls Try.prog 32 #[.slice A n c, .int .i64 (codeS (p, h) : Nat)] w (NextR w (nextsR l (p, h))) := by
  have hln := hl.len
  have hbd := hl.bound
  have hp : p ≤ n := by have := hs.1; simp only at this; omega
  have hh : h < 256 := hs.2
  obtain ⟨N, hN⟩ : ∃ N, N = codeS (p, h) := ⟨_, rfl⟩
  have hN2 : N = 256 * p + h := hN
  rw [← hN]
  have q1 : Int.tdiv (N : Int) 256 = (p : Int) := by rw [Int.tdiv_eq_ediv_of_nonneg (by omega)]; omega
  have q2 : Int.tmod (N : Int) 256 = (h : Int) := by rw [Int.tmod_eq_emod_of_nonneg (by omega)]; omega
  have hN9 : N ≤ 65791 := by omega
  clear hN hN2
  by_cases hpn : p = n
  · have E : nextsR l (p, h) = [] := by
      unfold nextsR nexts
      simp only [List.getElem?_eq_none (show l.length ≤ (p, h).1 by simp only; omega)]
      simp
    rw [E]
    clear hl hs hc hln E
    subst hpn
    go_enter Try.func32, Try.ntmps32
    go_wp2_with fail
    go_ret
    exact ⟨Kept.refl _ _, none, 0, 0, rfl, SliceOf.nil _ _ _, fun _ _ _ h => by cases h⟩
  · have hpl : p < l.length := by omega
    obtain ⟨b, o, rfl, hb, hcs⟩ := ins_at hl (by omega)
    obtain ⟨c0, c1, c2, c3, c4⟩ := hcs p hpl
    have hnb := number_bounds (hc _ (List.getElem_mem hpl))
    have hxx : l[p]? = some l[p] := List.getElem?_eq_getElem hpl
    have hNX := nexts_at' (h := h) hxx
    have hWI := wrongI_at (h := h) hxx
    have hsn := fun t ht => nexts_small hk hc hs (t := t) ht
    have hpn' : ((p : Int) == (n : Int)) = false := by simp; omega
    have hp1 : IntKind.i64.wrap ((p : Int) + 1) = (p : Int) + 1 := by rw [IntKind.wrap_i64]; omega
    have hpn2 : (p : Int) < (n : Int) := by omega
    rw [← hln] at hnb
    generalize l[p] = x at *
    obtain ⟨op, xa, xb, xc, imm⟩ := x
    simp only at c0 c1 c2 c3 c4 hnb hNX
    have hst := fun W q hq => stand_any (p := q) (h := h) hq hh W
    have HL := Lib.hid hl
    have HS := Lib.hid hs
    have HC := Lib.hid hc
    have HLN := Lib.hid hln
    have HCS := Lib.hid hcs
    have HXX := Lib.hid hxx
    clear hl hs hc hln hcs hxx
    by_cases e0 : op = 0
    · subst e0
      rw [if_pos rfl] at hNX
      have hres : nextsR l (p, h) = [] := by unfold nextsR; rw [hNX]; simp
      rw [hres]
      have HNX := Lib.hid hNX
      have HWI := Lib.hid hWI
      have HNB := Lib.hid hnb
      have HSN := Lib.hid hsn
      have HST := Lib.hid hst
      have HRES := Lib.hid hres
      clear hNX hWI hnb hsn hst hres
      go_enter Try.func32, Try.ntmps32
      go_wp2_with fail
      go_ret
      exact ⟨Kept.refl _ _, none, 0, 0, rfl, SliceOf.nil _ _ _, fun _ _ _ h => by cases h⟩
    have g0 : (op == 0) = false := by simpa using e0
    rw [if_neg e0] at hNX
    have hwr := fun W => rwrong_any (x := ⟨op, xa, xb, xc, imm⟩) (h := h) (w := W) hh (fun e => by have := hnb.2 e; show 0 ≤ imm ∧ imm < 8; omega)
    simp only at hwr
    rw [← hWI] at hwr
    have hal : New w (w.alloc (.cells #[.int .i64 op, .int .i64 xa, .int .i64 xb, .int .i64 xc, .int .i64 imm] 25)) := (Kept.refl _ _).alloc _
    have hbx := Blk.made w 25 #[.int .i64 op, .int .i64 xa, .int .i64 xb, .int .i64 xc, .int .i64 imm]
    have HNX := Lib.hid hNX
    have HWI := Lib.hid hWI
    have HNB := Lib.hid hnb
    have HSN := Lib.hid hsn
    have HST := Lib.hid hst
    have HWR := Lib.hid hwr
    have HAL := Lib.hid hal
    have HBX := Lib.hid hbx
    clear hNX hWI hnb hsn hst hwr hal hbx
    go_enter Try.func32, Try.ntmps32
    go_upto_region 6 with (fail)
    generalize w.alloc (.cells #[.int .i64 op, .int .i64 xa, .int .i64 xb, .int .i64 xc, .int .i64 imm] 25) = w3 at *
    obtain ⟨bx, hbw⟩ : ∃ bx, bx = w.heap.size := ⟨_, rfl⟩
    rw [← hbw]
    have hbx := HBX.out
    rw [← hbw] at hbx
    have HBW := Lib.hid hbw
    clear hbw
    have x0 := hbx.cell 0
    have x1 := hbx.cell 1
    have x2 := hbx.cell 2
    have x3 := hbx.cell 3
    have x4 := hbx.cell 4
    simp only [List.getElem?_toArray, List.getElem?_cons_zero, List.getElem?_cons_succ] at x0 x1 x2 x3 x4
    have HBX2 := Lib.hid hbx
    clear hbx
    go_wp2_with fail
    refine (HWR.out w3).mono ?_
    rintro e w4 ⟨rfl, hw4⟩
    have hn4 := HAL.out.trans hw4
    have hbx4 := HBX2.out.kept hw4 id
    have y0 := hbx4.cell 0
    have y4 := hbx4.cell 4
    simp only [List.getElem?_toArray, List.getElem?_cons_zero, List.getElem?_cons_succ] at y0 y4
    have hlt4 : bx < w4.heap.size := hbx4.lt
    have HW4 := Lib.hid hw4
    have HN4 := Lib.hid hn4
    have HBX4 := Lib.hid hbx4
    clear hw4 hn4 hbx4
    clear x0 x1 x2 x3 x4
    by_cases hw0 : wrongS l (p, h) = 0
    · have hw02 : (wrongS l (p, h) != 0) = false := by simpa using hw0
      have hR : nextsR l (p, h) = (nexts l (p, h)).map codeS := by unfold nextsR; rw [if_pos hw0]
      have hE := HNX.out
      have HW0 := Lib.hid hw0
      have HR := Lib.hid hR
      clear hw0 hR
      by_cases e1 : op = 22
      · subst e1
        rw [if_pos rfl] at hE
        obtain ⟨k, rfl⟩ : ∃ k : Nat, imm = k := ⟨imm.toNat, by have := HNB.out.1 (.inl rfl); omega⟩
        have hk256 : k ≤ 256 := by have := HNB.out.1 (.inl rfl); omega
        rw [Int.toNat_natCast] at hE
        have hs1 := HST.out w4 k hk256
        have HS1 := Lib.hid hs1
        have HE := Lib.hid hE
        clear hs1 hE
        go_wp2_with fail
        refine HS1.out.mono ?_
        rintro e w5 ⟨rfl, rfl⟩
        go_wp2_with fail
        go_ret
        refine ⟨HN4.out.alloc _, _, _, _, rfl, ?_, fun _ _ _ h => by injection h with h; injection h with h; rw [← h]; have := HN4.out.size; omega⟩
        rw [HR.out, HE.out]
        exact one_nat (codeS (k, h)) rfl rfl
      have g1 : (op == 22) = false := by simpa using e1
      rw [if_neg e1] at hE
      by_cases e2 : op = 23
      · subst e2
        rw [if_pos rfl] at hE
        obtain ⟨k, rfl⟩ : ∃ k : Nat, imm = k := ⟨imm.toNat, by have := HNB.out.1 (.inr rfl); omega⟩
        have hk256 : k ≤ 256 := by have := HNB.out.1 (.inr rfl); omega
        rw [Int.toNat_natCast] at hE
        have hs1 := HST.out w4 k hk256
        have hs2 := HST.out w4 (p + 1) (by omega)
        have HS1 := Lib.hid hs1
        have HS2 := Lib.hid hs2
        have HE := Lib.hid hE
        clear hs1 hs2 hE
        go_wp2_with fail
        refine HS1.out.mono ?_
        rintro e w5 ⟨rfl, rfl⟩
        go_wp2_with fail
        refine HS2.out.mono ?_
        rintro e w5 ⟨rfl, rfl⟩
        go_wp2_with fail
        go_ret
        refine ⟨HN4.out.alloc _, _, _, _, rfl, ?_, fun _ _ _ h => by injection h with h; injection h with h; rw [← h]; have := HN4.out.size; omega⟩
        rw [HR.out, HE.out]
        exact two_nats (codeS (k, h)) (codeS (p + 1, h)) rfl rfl rfl
      have g2 : (op == 23) = false := by simpa using e2
      rw [if_neg e2] at hE
      by_cases e3 : op = 29
      · subst e3
        rw [if_pos rfl] at hE
        obtain ⟨him0, him8⟩ := HNB.out.2 (.inl rfl)
        obtain ⟨gg, hgg⟩ : ∃ gg, lockB h imm.toNat = gg := ⟨_, rfl⟩
        have hor : bits BinOp.or IntKind.i64 (h : Int) (wrap64 (2 ^ imm.toNat)) = (gg : Int) := by rw [← hgg]; exact jbits_or (h := h) hh him0 (by omega)
        have hg2 : gg < 256 := by rw [← hgg]; exact Nat.or_lt_two_pow (n := 8) hh (Nat.pow_lt_pow_right (by decide) (by omega))
        rw [hgg] at hE
        have him9 : imm ≤ 7 := by omega
        have hs1 := stand_any (p := p + 1) (h := gg) (by omega) hg2 w4
        have HS1 := Lib.hid hs1
        have HGG := Lib.hid hgg
        have HE := Lib.hid hE
        clear hs1 hgg hE
        go_wp2_with fail
        refine HS1.out.mono ?_
        rintro e w5 ⟨rfl, rfl⟩
        go_wp2_with fail
        go_ret
        refine ⟨HN4.out.alloc _, _, _, _, rfl, ?_, fun _ _ _ h => by injection h with h; injection h with h; rw [← h]; have := HN4.out.size; omega⟩
        rw [HR.out, HE.out]
        exact one_nat (codeS (p + 1, gg)) rfl rfl
      have g3 : (op == 29) = false := by simpa using e3
      rw [if_neg e3] at hE
      by_cases e4 : op = 30
      · subst e4
        rw [if_pos rfl] at hE
        obtain ⟨him0, him8⟩ := HNB.out.2 (.inr rfl)
        obtain ⟨gg, hgg⟩ : ∃ gg, unlockB h imm.toNat = gg := ⟨_, rfl⟩
        have hor : bits BinOp.andNot IntKind.i64 (h : Int) (wrap64 (2 ^ imm.toNat)) = (gg : Int) := by rw [← hgg]; exact jbits_andNot (h := h) hh him0 (by omega)
        have hg2 : gg < 256 := by rw [← hgg]; exact Nat.lt_of_le_of_lt Nat.and_le_left hh
        rw [hgg] at hE
        have him9 : imm ≤ 7 := by omega
        have hs1 := stand_any (p := p + 1) (h := gg) (by omega) hg2 w4
        have HS1 := Lib.hid hs1
        have HGG := Lib.hid hgg
        have HE := Lib.hid hE
        clear hs1 hgg hE
        go_wp2_with fail
        refine HS1.out.mono ?_
        rintro e w5 ⟨rfl, rfl⟩
        go_wp2_with fail
        go_ret
        refine ⟨HN4.out.alloc _, _, _, _, rfl, ?_, fun _ _ _ h => by injection h with h; injection h with h; rw [← h]; have := HN4.out.size; omega⟩
        rw [HR.out, HE.out]
        exact one_nat (codeS (p + 1, gg)) rfl rfl
      have g4 : (op == 30) = false := by simpa using e4
      rw [if_neg e4] at hE
      have hs1 := HST.out w4 (p + 1) (by omega)
      have HS1 := Lib.hid hs1
      have HE := Lib.hid hE
      clear hs1 hE
      go_wp2_with fail
      refine HS1.out.mono ?_
      rintro e w5 ⟨rfl, rfl⟩
      go_wp2_with fail
      go_ret
      refine ⟨HN4.out.alloc _, _, _, _, rfl, ?_, fun _ _ _ h => by injection h with h; injection h with h; rw [← h]; have := HN4.out.size; omega⟩
      rw [HR.out, HE.out]
      exact one_nat (codeS (p + 1, h)) rfl rfl
    · have hw02 : (wrongS l (p, h) != 0) = true := by simpa using hw0
      have hres : nextsR l (p, h) = [] := by unfold nextsR; rw [if_neg hw0]
      have HW0 := Lib.hid hw0
      have HRES := Lib.hid hres
      clear hw0 hres
      go_wp2_with fail
      go_ret
      exact ⟨HN4.out, none, 0, 0, rfl, by rw [HRES.out]; exact SliceOf.nil _ _ _, fun _ _ _ h => by cases h⟩
end Go.Proofs.Ytjhiaicpgajeoaa.Valid
