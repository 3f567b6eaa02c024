/- The walks of package valid (layer 8): next, wrong. -/
import Derived.Test.YtjhiaicpgajeoaaCodeM
import Derived.Test.YtjhiaicpgajeoaaValidU
import Derived.Test.YtjhiaicpgajeoaaMapS
import Derived.Test.YtjhiaicpgajeoaaValidWa
import Derived.BigQuiet
namespace Go.Proofs.Ytjhiaicpgajeoaa.Valid
open Go.RowKit Go.Fb Go.BytesP Go.CodeP Go.ValidP
open Go.Proofs.Ytjhiaicpgajeoaa.Code (repIns cellsI Wf ins_at ins_wf)
set_option linter.unusedVariables false
/-- How a stand lies. -/
def repStand : Rep Stand where
  size := 2
  cells _ _ s cs := cs = [.int .i64 s.1, .int .u64 s.2]
  length h := by rw [h]; rfl
  stays _ h := h
  more _ h := h
theorem stand_at {w : World} {B : Nat} {A : Option Addr} {n c : Nat} {l : List Stand} (h : SliceOf repStand w B A n c l) (hn : 0 < n) :
    ∃ b o, A = some ⟨b, o, none⟩ ∧ b < B ∧ ∀ i (h : i < l.length), w.cell? ⟨b, o + i * 2, none⟩ = some (.int .i64 l[i].1) ∧ w.cell? ⟨b, o + i * 2 + 1, none⟩ = some (.int .u64 l[i].2) := by
  obtain ⟨b, o, e, hb, hc⟩ := h.get hn
  refine ⟨b, o, e, hb, fun i hi => ?_⟩
  obtain ⟨es, g1, rfl⟩ := hc i hi
  exact ⟨g1 0 (by decide), g1 1 (by decide)⟩
theorem one_stand {W : World} {T : TypeId} {g : Nat} {x y : Int} (s : Stand) (hg : g = W.heap.size) (hx : x = (s.1 : Int)) (hy : y = (s.2 : Int)) : SliceOf repStand (W.alloc (.cells #[.int .i64 x, .int .u64 y] T)) (W.alloc (.cells #[.int .i64 x, .int .u64 y] T)).heap.size (some ⟨g, 0, none⟩) 1 1 [s] := by
  subst hg; subst hx; subst hy
  refine ⟨rfl, Nat.le_refl _, by unfold maxLen; omega, .inr ⟨_, 0, rfl, by show _ < (W.heap.push _).size; simp, fun i hi => ⟨_, fun j hj => ?_, rfl⟩⟩⟩
  have hi0 : i = 0 := by simpa using hi
  subst hi0
  rw [(Blk.made W T #[.int .i64 s.1, .int .u64 s.2]).cell]
  have hj' : j < 2 := hj
  match j, hj' with
  | 0, _ => rfl
  | 1, _ => rfl
theorem two_stands {W : World} {T : TypeId} {g : Nat} {x y z u : Int} (s t : Stand) (hg : g = W.heap.size) (hx : x = (s.1 : Int)) (hy : y = (s.2 : Int)) (hz : z = (t.1 : Int)) (hu : u = (t.2 : Int)) : SliceOf repStand (W.alloc (.cells #[.int .i64 x, .int .u64 y, .int .i64 z, .int .u64 u] T)) (W.alloc (.cells #[.int .i64 x, .int .u64 y, .int .i64 z, .int .u64 u] T)).heap.size (some ⟨g, 0, none⟩) 2 2 [s, t] := by
  subst hg; subst hx; subst hy; subst hz; subst hu
  refine ⟨rfl, Nat.le_refl _, by unfold maxLen; omega, .inr ⟨_, 0, rfl, by show _ < (W.heap.push _).size; simp, fun i hi => ⟨_, fun j hj => ?_, rfl⟩⟩⟩
  have hi0 : i < 2 := by simpa using hi
  have hj' : j < 2 := hj
  rw [(Blk.made W T #[.int .i64 s.1, .int .u64 s.2, .int .i64 t.1, .int .u64 t.2]).cell]
  match i, j, hi0, hj' with
  | 0, 0, _, _ => rfl
  | 0, 1, _, _ => rfl
  | 1, 0, _, _ => rfl
  | 1, 1, _, _ => rfl
theorem size_al (w : World) (o : Obj) : (w.alloc o).heap.size = w.heap.size + 1 := by show (w.heap.push _).size = _; simp
theorem size_dr (w : World) : w.drew.heap.size = w.heap.size := rfl
theorem size_sc (w : World) (p : Addr) (v : Value) : (w.setCell p v).heap.size = w.heap.size := (size_set w p v).symm
theorem pow_u64 {k : Int} (h0 : 0 ≤ k) (h8 : k < 8) : IntKind.u64.wrap (2 ^ k.toNat) = ((2 ^ k.toNat : Nat) : Int) := by
  obtain ⟨j, rfl⟩ : ∃ j : Nat, k = j := ⟨k.toNat, by omega⟩
  have hj : j < 8 := by omega
  rw [Int.toNat_natCast]
  exact (by decide +kernel : ∀ j < 8, IntKind.u64.wrap (2 ^ j) = ((2 ^ j : Nat) : Int)) j hj
theorem wrap_nat {n : Nat} (h : n < 18446744073709551616) : IntKind.u64.wrap (n : Int) = n := by rw [IntKind.wrap_u64]; omega
theorem bits_or {h : Nat} {k : Int} (hh : h < 256) (h0 : 0 ≤ k) (h8 : k < 8) : bits BinOp.or IntKind.u64 (h : Int) (IntKind.u64.wrap (2 ^ k.toNat)) = ((lockB h k.toNat : Nat) : Int) := by
  rw [pow_u64 h0 h8]
  have hj : k.toNat < 8 := by omega
  show IntKind.u64.wrap ((BitVec.ofInt 64 (h : Int) ||| BitVec.ofInt 64 ((2 ^ k.toNat : Nat) : Int)).toNat : Int) = _
  rw [BitVec.ofInt_natCast, BitVec.ofInt_natCast, wrap_nat (BitVec.isLt _), (by decide +kernel : ∀ h < 256, ∀ j < 8, (BitVec.ofNat 64 h ||| BitVec.ofNat 64 (2 ^ j)).toNat = lockB h j) h hh _ hj]
theorem bits_andNot {h : Nat} {k : Int} (hh : h < 256) (h0 : 0 ≤ k) (h8 : k < 8) : bits BinOp.andNot IntKind.u64 (h : Int) (IntKind.u64.wrap (2 ^ k.toNat)) = ((unlockB h k.toNat : Nat) : Int) := by
  rw [pow_u64 h0 h8]
  have hj : k.toNat < 8 := by omega
  show IntKind.u64.wrap ((BitVec.ofInt 64 (h : Int) &&& ~~~(BitVec.ofInt 64 ((2 ^ k.toNat : Nat) : Int))).toNat : Int) = _
  rw [BitVec.ofInt_natCast, BitVec.ofInt_natCast, wrap_nat (BitVec.isLt _), (by decide +kernel : ∀ h < 256, ∀ j < 8, (BitVec.ofNat 64 h &&& ~~~(BitVec.ofNat 64 (2 ^ j))).toNat = unlockB h j) h hh _ hj]
def Next (w : World) (L : List Stand) (e : Ending) (w' : World) : Prop := New w w' ∧ ∃ A m c, e = .returned (.slice A m c) ∧ SliceOf repStand w' w'.heap.size A m c L ∧ ∀ b o s, A = some ⟨b, o, s⟩ → w.heap.size ≤ b
set_option maxHeartbeats 1000000 in
theorem next_any {A : Option Addr} {n c : Nat} {l : List Ins} {p h : Nat} {w : World} {locks : Int} (hl : SliceOf repIns w w.heap.size A n c l) (hs : Small l (p, h)) (hk : locks ≤ 8) (hc : ∀ x ∈ l, check x l.length locks = 0) (hn : n ≤ 256) :
    Calls Try.prog 28 #[.slice A n c, .agg #[.int .i64 p, .int .u64 h]] w (Next w (nexts l (p, h))) := by
  have hln := hl.len
  have hbd := hl.bound
  have hp : p ≤ n := by have := hs.1; simp only at this; omega
  have hh : h < 256 := hs.2
  by_cases hpn : p = n
  · have E : nexts l (p, h) = [] := by
      unfold nexts
      rw [List.getElem?_eq_none (by simp only; omega)]
    rw [E]
    clear hl hs hc hln E
    subst hpn
    go_enter Try.func28, Try.ntmps28
    go_wp2_with fail
    go_ret
    exact ⟨(Kept.refl _ _).alloc _, none, 0, 0, rfl, SliceOf.nil _ _ _, fun _ _ _ h => by cases h⟩
  · have hpl : p < l.length := by omega
    obtain ⟨b, o, rfl, hb, hcs⟩ := ins_at hl (by omega)
    obtain ⟨c0, c1, c2, c3, c4⟩ := hcs p hpl
    have hnb := number_bounds (hc _ (List.getElem_mem hpl))
    have hE : nexts l (p, h) = (if l[p].op = 0 then [] else if l[p].op = 22 then [(l[p].imm.toNat, h)] else if l[p].op = 23 then [(l[p].imm.toNat, h), (p + 1, h)] else if l[p].op = 29 then [(p + 1, lockB h l[p].imm.toNat)] else if l[p].op = 30 then [(p + 1, unlockB h l[p].imm.toNat)] else [(p + 1, h)]) := by
      unfold nexts
      simp only [List.getElem?_eq_getElem hpl]
    have hwf := ins_wf hl _ (List.getElem_mem hpl)
    have hpn' : ((p : Int) == (n : Int)) = false := by simp; omega
    have hp1 : IntKind.i64.wrap ((p : Int) + 1) = ((p + 1 : Nat) : Int) := by rw [IntKind.wrap_i64]; omega
    rw [← hln] at hnb
    generalize l[p] = x at *
    obtain ⟨op, xa, xb, xc, imm⟩ := x
    simp only at c0 c1 c2 c3 c4 hnb hE
    rw [hE]
    have HL := Lib.hid hl
    have HS := Lib.hid hs
    have HC := Lib.hid hc
    have HLN := Lib.hid hln
    have HE := Lib.hid hE
    have HCS := Lib.hid hcs
    have HWF := Lib.hid hwf
    clear hl hs hc hln hE hcs hwf
    by_cases e0 : op = 0
    · subst e0
      rw [if_pos rfl]
      go_enter Try.func28, Try.ntmps28
      go_wp2_with fail
      go_ret
      exact ⟨(((Kept.refl _ _).alloc _).alloc _).alloc _, none, 0, 0, rfl, SliceOf.nil _ _ _, fun _ _ _ h => by cases h⟩
    have g0 : (op == 0) = false := by simpa using e0
    rw [if_neg e0]
    by_cases e1 : op = 22
    · subst e1
      rw [if_pos rfl]
      obtain ⟨k, rfl⟩ : ∃ k : Nat, imm = k := ⟨imm.toNat, by have := hnb.1 (.inl rfl); omega⟩
      go_enter Try.func28, Try.ntmps28
      go_wp2_with fail
      go_ret
      refine ⟨((((Kept.refl _ _).alloc _).alloc _).alloc _).alloc _, _, _, _, rfl, ?_, fun _ _ _ h => by injection h with h; injection h with h; rw [← h]; omega⟩
      exact one_stand (k, h) (by (repeat (first | rw [size_al] | rw [size_dr] | rw [size_sc])); try omega) rfl rfl
    have g1 : (op == 22) = false := by simpa using e1
    rw [if_neg e1]
    by_cases e2 : op = 23
    · subst e2
      rw [if_pos rfl]
      obtain ⟨k, rfl⟩ : ∃ k : Nat, imm = k := ⟨imm.toNat, by have := hnb.1 (.inr rfl); omega⟩
      go_enter Try.func28, Try.ntmps28
      go_wp2_with fail
      go_ret
      refine ⟨((((Kept.refl _ _).alloc _).alloc _).alloc _).alloc _, _, _, _, rfl, ?_, fun _ _ _ h => by injection h with h; injection h with h; rw [← h]; omega⟩
      exact two_stands (k, h) (p + 1, h) (by (repeat (first | rw [size_al] | rw [size_dr] | rw [size_sc])); try omega) rfl rfl rfl rfl
    have g2 : (op == 23) = false := by simpa using e2
    rw [if_neg e2]
    by_cases e3 : op = 29
    · subst e3
      rw [if_pos rfl]
      have hi := hnb.2 (.inl rfl)
      have E := Lib.hid (bits_or hh hi.1 (by omega : imm < 8))
      clear hnb
      go_enter Try.func28, Try.ntmps28
      go_wp2_with fail
      go_region
      all_goals go_wp2
      all_goals
        go_ret
        refine ⟨?_, _, _, _, rfl, ?_, fun _ _ _ h => by injection h with h; injection h with h; rw [← h]; omega⟩
        · repeat (first | exact Kept.refl _ _ | refine Kept.alloc ?_ _ | refine Kept.drew ?_ | refine Kept.setCell ?_ (.inl (by (repeat (first | rw [size_al] | rw [size_dr] | rw [size_sc])); try omega)) _)
        · exact one_stand (p + 1, lockB h imm.toNat) (by (repeat (first | rw [size_al] | rw [size_dr] | rw [size_sc])); try omega) rfl E.out
    have g3 : (op == 29) = false := by simpa using e3
    rw [if_neg e3]
    by_cases e4 : op = 30
    · subst e4
      rw [if_pos rfl]
      have hi := hnb.2 (.inr rfl)
      have E := Lib.hid (bits_andNot hh hi.1 (by omega : imm < 8))
      clear hnb
      go_enter Try.func28, Try.ntmps28
      go_wp2_with fail
      go_region
      all_goals go_wp2
      all_goals
        go_ret
        refine ⟨?_, _, _, _, rfl, ?_, fun _ _ _ h => by injection h with h; injection h with h; rw [← h]; omega⟩
        · repeat (first | exact Kept.refl _ _ | refine Kept.alloc ?_ _ | refine Kept.drew ?_ | refine Kept.setCell ?_ (.inl (by (repeat (first | rw [size_al] | rw [size_dr] | rw [size_sc])); try omega)) _)
        · refine one_stand (p + 1, unlockB h imm.toNat) (by (repeat (first | rw [size_al] | rw [size_dr] | rw [size_sc])); try omega) rfl E.out
    have g4 : (op == 30) = false := by simpa using e4
    rw [if_neg e4]
    go_enter Try.func28, Try.ntmps28
    go_wp2_with fail
    go_ret
    refine ⟨?_, _, _, _, rfl, ?_, fun _ _ _ h => by injection h with h; injection h with h; rw [← h]; omega⟩
    · repeat (first | exact Kept.refl _ _ | refine Kept.alloc ?_ _ | refine Kept.drew ?_ | refine Kept.setCell ?_ (.inl (by (repeat (first | rw [size_al] | rw [size_dr] | rw [size_sc])); try omega)) _)
    · exact one_stand (p + 1, h) (by (repeat (first | rw [size_al] | rw [size_dr] | rw [size_sc])); try omega) rfl rfl
theorem shr_div (h k : Nat) : h >>> k = h / 2 ^ k := Nat.shiftRight_eq_div_pow h k
theorem bits_and1 {h : Nat} {k : Int} (hh : h < 256) (h0 : 0 ≤ k) (h8 : k < 8) : bits BinOp.and IntKind.u64 ((h : Int) / 2 ^ k.toNat) 1 = ((h >>> k.toNat % 2 : Nat) : Int) := by
  obtain ⟨j, rfl⟩ : ∃ j : Nat, k = j := ⟨k.toNat, by omega⟩
  rw [Int.toNat_natCast, show (h : Int) / 2 ^ j = ((h / 2 ^ j : Nat) : Int) by simp]
  have hq : h / 2 ^ j < 18446744073709551616 := Nat.lt_of_le_of_lt (Nat.div_le_self _ _) (by omega)
  show IntKind.u64.wrap ((BitVec.ofInt 64 ((h / 2 ^ j : Nat) : Int) &&& BitVec.ofInt 64 1).toNat : Int) = _
  rw [wrap_nat (BitVec.isLt _), BitVec.toNat_and, BitVec.ofInt_natCast, BitVec.toNat_ofNat, Nat.mod_eq_of_lt (by omega), shr_div]
  congr 1
  exact Nat.and_one_is_mod _
set_option maxHeartbeats 1000000 in
theorem wrong_any {A : Option Addr} {n c : Nat} {l : List Ins} {p h : Nat} {w : World} {locks : Int} (hl : SliceOf repIns w w.heap.size A n c l) (hs : Small l (p, h)) (hk : locks ≤ 8) (hc : ∀ x ∈ l, check x l.length locks = 0) (hn : n ≤ 256) :
    Calls Try.prog 27 #[.slice A n c, .agg #[.int .i64 p, .int .u64 h]] w fun e w' => e = .returned (.int .i64 (wrongS l (p, h))) ∧ New w w' := by
  have hln := hl.len
  have hbd := hl.bound
  have hp : p ≤ n := by have := hs.1; simp only at this; omega
  have hh : h < 256 := hs.2
  by_cases hpn : p = n
  · have E : wrongS l (p, h) = 0 := by
      unfold wrongS
      rw [List.getElem?_eq_none (by simp only; omega)]
    rw [E]
    clear hl hs hc hln E
    subst hpn
    go_enter Try.func27, Try.ntmps27
    go_wp2_with fail
    go_ret
    exact ⟨rfl, (Kept.refl _ _).alloc _⟩
  · have hpl : p < l.length := by omega
    obtain ⟨b, o, rfl, hb, hcs⟩ := ins_at hl (by omega)
    obtain ⟨c0, c1, c2, c3, c4⟩ := hcs p hpl
    have hnb := number_bounds (hc _ (List.getElem_mem hpl))
    have hE : wrongS l (p, h) = (if l[p].op = 29 then (if 0 < h >>> l[p].imm.toNat then 14 else 0) else if l[p].op = 30 then (if (h >>> l[p].imm.toNat) % 2 = 0 then 14 else 0)
      else if l[p].op = 24 ∨ l[p].op = 25 ∨ l[p].op = 28 then (if h ≠ 0 then 16 else 0) else 0) := by
      unfold wrongS
      simp only [List.getElem?_eq_getElem hpl]
    have hwf := ins_wf hl _ (List.getElem_mem hpl)
    have hpn' : ((p : Int) == (n : Int)) = false := by simp; omega
    rw [← hln] at hnb
    generalize l[p] = x at *
    obtain ⟨op, xa, xb, xc, imm⟩ := x
    simp only at c0 c1 c2 c3 c4 hnb hE
    rw [hE]
    have HL := Lib.hid hl
    have HS := Lib.hid hs
    have HC := Lib.hid hc
    have HLN := Lib.hid hln
    have HE := Lib.hid hE
    have HCS := Lib.hid hcs
    have HWF := Lib.hid hwf
    clear hl hs hc hln hE hcs hwf
    by_cases e3 : op = 29
    · subst e3
      rw [if_pos rfl]
      have hi := hnb.2 (.inl rfl)
      obtain ⟨k, rfl⟩ : ∃ k : Nat, imm = k := ⟨imm.toNat, by omega⟩
      have hgt := lenB_gt h hh k (by omega)
      have hlen := fun W => len_any hh W
      rw [Int.toNat_natCast]
      clear hnb
      by_cases e5 : 0 < h >>> k
      · rw [if_pos e5]
        have e7 := hgt.2 e5
        have e8 : (k : Int) < (lenB h : Int) := by omega
        have e9 : decide ((k : Int) < (lenB h : Int)) = true := by simp; omega
        generalize lenB h = z at *
        have HGT := Lib.hid hgt
        have HLEN := Lib.hid hlen
        have E5 := Lib.hid e5
        have HI := Lib.hid hi
        have E7 := Lib.hid e7
        clear hgt hlen e5 hi e7
        go_enter Try.func27, Try.ntmps27
        go_wp2_with fail
        go_quiet (exact Calls.quiet_of_same (HLEN.out _))
        go_wp2_with fail
        go_ret
        refine ⟨rfl, ?_⟩
        repeat (first | exact Kept.refl _ _ | refine Kept.alloc ?_ _ | refine Kept.drew ?_ | refine Kept.drewN ?_ _)
      · rw [if_neg e5]
        have e7 := fun h => e5 (hgt.1 h)
        have e8 : ¬ (k : Int) < (lenB h : Int) := by omega
        have e9 : decide ((k : Int) < (lenB h : Int)) = false := by simp; omega
        generalize lenB h = z at *
        have HGT := Lib.hid hgt
        have HLEN := Lib.hid hlen
        have E5 := Lib.hid e5
        have HI := Lib.hid hi
        have E7 := Lib.hid e7
        clear hgt hlen e5 hi e7
        go_enter Try.func27, Try.ntmps27
        go_wp2_with fail
        go_quiet (exact Calls.quiet_of_same (HLEN.out _))
        go_wp2_with fail
        go_ret
        refine ⟨rfl, ?_⟩
        repeat (first | exact Kept.refl _ _ | refine Kept.alloc ?_ _ | refine Kept.drew ?_ | refine Kept.drewN ?_ _)
    have g3 : (op == 29) = false := by simpa using e3
    rw [if_neg e3]
    by_cases e4 : op = 30
    · subst e4
      rw [if_pos rfl]
      have hi := hnb.2 (.inr rfl)
      have E := bits_and1 hh hi.1 (by omega : imm < 8)
      clear hnb
      by_cases e5 : h >>> imm.toNat % 2 = 0
      · rw [if_pos e5]
        rw [e5] at E
        go_enter Try.func27, Try.ntmps27
        go_wp2_with fail
        go_ret
        exact ⟨rfl, ((Kept.refl _ _).alloc _).alloc _⟩
      · rw [if_neg e5]
        rw [show h >>> imm.toNat % 2 = 1 by omega] at E
        go_enter Try.func27, Try.ntmps27
        go_wp2_with fail
        go_ret
        exact ⟨rfl, ((Kept.refl _ _).alloc _).alloc _⟩
    have g4 : (op == 30) = false := by simpa using e4
    rw [if_neg e4]
    clear hnb
    by_cases e5 : h = 0
    · subst e5
      rw [if_neg (show ¬ (0 : Nat) ≠ 0 by omega), ite_self]
      by_cases e6 : op = 24 ∨ op = 25 ∨ op = 28
      · rcases e6 with rfl | rfl | rfl
        all_goals
          go_enter Try.func27, Try.ntmps27
          go_wp2_with fail
          go_ret
          exact ⟨rfl, ((Kept.refl _ _).alloc _).alloc _⟩
      · have k1 : (op == 24) = false := by simp; omega
        have k2 : (op == 25) = false := by simp; omega
        have k3 : (op == 28) = false := by simp; omega
        go_enter Try.func27, Try.ntmps27
        go_wp2_with fail
        go_ret
        exact ⟨rfl, ((Kept.refl _ _).alloc _).alloc _⟩
    · rw [if_pos e5]
      have h9 : ((h : Int) != 0) = true := by simp; omega
      by_cases e6 : op = 24 ∨ op = 25 ∨ op = 28
      · rw [if_pos e6]
        rcases e6 with rfl | rfl | rfl
        all_goals
          go_enter Try.func27, Try.ntmps27
          go_wp2_with fail
          go_ret
          exact ⟨rfl, ((Kept.refl _ _).alloc _).alloc _⟩
      · rw [if_neg e6]
        have k1 : (op == 24) = false := by simp; omega
        have k2 : (op == 25) = false := by simp; omega
        have k3 : (op == 28) = false := by simp; omega
        go_enter Try.func27, Try.ntmps27
        go_wp2_with fail
        go_ret
        exact ⟨rfl, ((Kept.refl _ _).alloc _).alloc _⟩
end Go.Proofs.Ytjhiaicpgajeoaa.Valid
