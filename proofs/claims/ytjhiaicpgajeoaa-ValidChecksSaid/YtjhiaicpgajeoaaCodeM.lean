/- The walks of May (layer 6): the program's and the reference's. -/
import Derived.Test.YtjhiaicpgajeoaaCodeG
namespace Go.Proofs.Ytjhiaicpgajeoaa.Code
open Go.RowKit Go.Fb Go.BytesP Go.CodeP
set_option linter.unusedVariables false

/-- The cells of an instruction. -/
def cellsI (x : Ins) : List Value := [.int .i64 x.op, .int .i64 x.a, .int .i64 x.b, .int .i64 x.c, .int .i64 x.imm]
/-- An instruction whose numbers fit. -/
def Wf (x : Ins) : Prop := (Lit.int .i64 x.op).wf = true ∧ (Lit.int .i64 x.a).wf = true ∧ (Lit.int .i64 x.b).wf = true ∧ (Lit.int .i64 x.c).wf = true ∧ (Lit.int .i64 x.imm).wf = true
/-- How an instruction lies. -/
def repIns : Rep Ins where
  size := 5
  cells _ _ x cs := cs = cellsI x ∧ Wf x
  length h := by rw [h.1]; rfl
  stays _ h := h
  more _ h := h
theorem wf_bd {x : Ins} (h : Wf x) : -9223372036854775808 ≤ x.imm ∧ x.imm ≤ 9223372036854775807 := bounds_i64 h.2.2.2.2
theorem opens_ins : Opens Try.prog repIns 25 := by
  have h : Opens Try.prog (((Rep.int .i64).pair ((Rep.int .i64).pair ((Rep.int .i64).pair ((Rep.int .i64).pair ((Rep.int .i64).pair Rep.unit)))))) 25 := opens_struct Try.underlying25 (by kernel_rfl)
    (opensAt_cons rfl (by kernel_rfl) (opens_int Try.underlying3) (opensAt_cons rfl (by kernel_rfl) (opens_int Try.underlying3) (opensAt_cons rfl (by kernel_rfl) (opens_int Try.underlying3) (opensAt_cons rfl (by kernel_rfl) (opens_int Try.underlying3) (opensAt_cons rfl (by kernel_rfl) (opens_int Try.underlying2) opensAt_nil)))))
  intro H enc w fuel cs y hy
  obtain ⟨x, hx⟩ := h H enc w fuel cs y hy
  obtain ⟨_, _, rfl, ⟨rfl, h1⟩, _, _, rfl, ⟨rfl, h2⟩, _, _, rfl, ⟨rfl, h3⟩, _, _, rfl, ⟨rfl, h4⟩, _, _, rfl, ⟨rfl, h5⟩, rfl⟩ := hx
  exact ⟨⟨x.1, x.2.1, x.2.2.1, x.2.2.2.1, x.2.2.2.2.1⟩, rfl, h1, h2, h3, h4, h5⟩
theorem ins_at {w : World} {B : Nat} {A : Option Addr} {n c : Nat} {l : List Ins} (h : SliceOf repIns w B A n c l) (hn : 0 < n) :
    ∃ b o, A = some ⟨b, o, none⟩ ∧ b < B ∧ ∀ i (h : i < l.length), w.cell? ⟨b, o + i * 5, none⟩ = some (.int .i64 l[i].op) ∧ w.cell? ⟨b, o + i * 5 + 1, none⟩ = some (.int .i64 l[i].a) ∧ w.cell? ⟨b, o + i * 5 + 2, none⟩ = some (.int .i64 l[i].b) ∧ w.cell? ⟨b, o + i * 5 + 3, none⟩ = some (.int .i64 l[i].c) ∧ w.cell? ⟨b, o + i * 5 + 4, none⟩ = some (.int .i64 l[i].imm) := by
  obtain ⟨b, o, e, hb, hc⟩ := h.get hn
  refine ⟨b, o, e, hb, fun i hi => ?_⟩
  obtain ⟨es, g1, g2, _⟩ := hc i hi
  subst g2
  exact ⟨g1 0 (by decide), g1 1 (by decide), g1 2 (by decide), g1 3 (by decide), g1 4 (by decide)⟩
theorem ins_wf {w : World} {B : Nat} {A : Option Addr} {n c : Nat} {l : List Ins} (h : SliceOf repIns w B A n c l) : ∀ x ∈ l, Wf x := by
  intro x hx
  obtain ⟨i, hi, rfl⟩ := List.mem_iff_getElem.1 hx
  obtain ⟨b, o, _, _, hc⟩ := h.get (by have := h.len; omega)
  obtain ⟨es, _, _, g⟩ := hc i hi
  exact g
theorem ins_inV {l : List Ins} (h : ∀ x ∈ l, Wf x) : InV l := fun x hx => wf_bd (h x hx)

theorem may_out (A : Option Addr) (n c : Nat) (l : List Ins) (locks : Int) (w : World) (hl : SliceOf repIns w w.heap.size A n c l) (h0 : locks < 0 ∨ 8 < locks ∨ 256 < n) :
    Calls Try.prog 14 #[.slice A n c, .int .i64 locks] w fun e w' => e = .returned (.tuple #[.int .i64 (may l locks).1, .int .i64 (may l locks).2]) ∧ New w w' := by
  have hn := hl.len
  have hb := hl.bound
  by_cases h1 : locks < 0 ∨ 8 < locks
  · have E := Lib.hid (show may l locks = (1, 0) by unfold may; rw [if_pos h1])
    clear hl hn h0
    rcases h1 with h1 | h1
    all_goals
      go_enter Try.func14, Try.ntmps14
      go_wp2_with fail
      go_ret2
      rw [E.out]
      exact ⟨rfl, Kept.refl _ _⟩
  · have E := Lib.hid (show may l locks = (3, 256) by unfold may; rw [if_neg h1, if_pos (by omega)])
    have h2 : 256 < n := by omega
    have h3 : ¬ locks < 0 := by omega
    have h4 : ¬ 8 < locks := by omega
    clear hl hn h0 h1
    go_enter Try.func14, Try.ntmps14
    go_wp2_with fail
    go_ret2
    rw [E.out]
    exact ⟨rfl, Kept.refl _ _⟩
theorem ref_may_out (A : Option Addr) (n c : Nat) (l : List Ins) (locks : Int) (w : World) (hl : SliceOf repIns w w.heap.size A n c l) (h0 : locks < 0 ∨ 8 < locks ∨ 256 < n) :
    Calls Try.prog 21 #[.slice A n c, .int .i64 locks] w fun e w' => e = .returned (.tuple #[.int .i64 (may l locks).1, .int .i64 (may l locks).2]) ∧ New w w' := by
  have hn := hl.len
  have hb := hl.bound
  by_cases h1 : locks < 0 ∨ 8 < locks
  · have E := Lib.hid (show may l locks = (1, 0) by unfold may; rw [if_pos h1])
    clear hl hn h0
    rcases h1 with h1 | h1
    all_goals
      go_enter Try.func21, Try.ntmps21
      go_wp2_with fail
      go_ret2
      rw [E.out]
      exact ⟨rfl, Kept.refl _ _⟩
  · have E := Lib.hid (show may l locks = (3, 256) by unfold may; rw [if_neg h1, if_pos (by omega)])
    have h2 : 256 < n := by omega
    have h3 : ¬ locks < 0 := by omega
    have h4 : ¬ 8 < locks := by omega
    clear hl hn h0 h1
    go_enter Try.func21, Try.ntmps21
    go_wp2_with fail
    go_ret2
    rw [E.out]
    exact ⟨rfl, Kept.refl _ _⟩
theorem may_walk (A : Option Addr) (n c : Nat) (l : List Ins) (locks : Int) (w : World) (hl : SliceOf repIns w w.heap.size A n c l) (h0 : 0 ≤ locks) (h1 : locks ≤ 8) (h2 : n ≤ 256) :
    Calls Try.prog 14 #[.slice A n c, .int .i64 locks] w fun e w' => e = .returned (.tuple #[.int .i64 (may l locks).1, .int .i64 (may l locks).2]) ∧ New w w' := by
  have hn := hl.len
  have hb := hl.bound
  have hm0 : may l locks = mayFrom n locks 0 l := by unfold may; rw [if_neg (by omega), if_neg (by omega), hn]
  have HL := Lib.hid hl
  have HN := Lib.hid hn
  have HM0 := Lib.hid hm0
  clear hl hn hm0
  go_enter Try.func14, Try.ntmps14
  go_wp2_with fail
  go_loopw [22] (fun i wr => ∃ k : Nat, k ≤ n ∧ i = .int .i64 k ∧ may l locks = mayFrom n locks k (l.drop k) ∧ New w wr) (fun i _ => (n - intOf i).toNat)
  case atStart => exact ⟨0, by omega, rfl, HM0.out, Kept.refl _ _⟩
  case round =>
    obtain ⟨k, hk, rfl, hm, hnew⟩ := hrel
    have HM := Lib.hid hm
    have HNEW := Lib.hid hnew
    clear hm hnew
    by_cases hlt : k < n
    · obtain ⟨b, o, rfl, hb', hc⟩ := ins_at (HL.out.below HNEW.out.below) (by omega)
      have hkl : k < l.length := by have := HN.out; omega
      obtain ⟨c0, c1, c2, c3, c4⟩ := hc k hkl
      have hd : l.drop k = l[k] :: l.drop (k + 1) := List.drop_eq_getElem_cons hkl
      have hch := fun W => check_any l[k] n locks W
      unfold agg at hch
      have HD := Lib.hid hd
      have HCH := Lib.hid hch
      clear hd hch
      clear hc
      by_cases hw0 : check l[k] n locks = 0
      · have hw0' : (check l[k] n locks != 0) = false := by simpa using hw0
        have HW0 := Lib.hid hw0
        clear hw0
        go_wp2_with fail
        refine (HCH.out _).mono ?_
        rintro e w1 ⟨rfl, hw1⟩
        go_wp2_with fail
        go_roundw
        case rel => exact ⟨k + 1, by omega, by go_num, by rw [HM.out, HD.out, mayFrom, if_pos HW0.out], (HNEW.out.alloc _).trans hw1⟩
        case measure => simp [intOf]; omega
      · have hw0' : (check l[k] n locks != 0) = true := by simpa using hw0
        have HW0 := Lib.hid hw0
        clear hw0
        go_wp2_with fail
        refine (HCH.out _).mono ?_
        rintro e w1 ⟨rfl, hw1⟩
        go_wp2_with fail
        go_ret2
        exact ⟨by rw [HM.out, HD.out, mayFrom, if_neg HW0.out]; rfl, (HNEW.out.alloc _).trans hw1⟩
    · obtain rfl : k = n := by omega
      go_wp2_with fail
      go_ret2
      exact ⟨by rw [HM.out, List.drop_of_length_le (by have := HN.out; omega)]; rfl, HNEW.out⟩
theorem ref_may_walk (A : Option Addr) (n c : Nat) (l : List Ins) (locks : Int) (w : World) (hl : SliceOf repIns w w.heap.size A n c l) (h0 : 0 ≤ locks) (h1 : locks ≤ 8) (h2 : n ≤ 256) :
    Calls Try.prog 21 #[.slice A n c, .int .i64 locks] w fun e w' => e = .returned (.tuple #[.int .i64 (may l locks).1, .int .i64 (may l locks).2]) ∧ New w w' := by
  have hn := hl.len
  have hb := hl.bound
  have hm0 : may l locks = mayFrom n locks 0 l := by unfold may; rw [if_neg (by omega), if_neg (by omega), hn]
  have HL := Lib.hid hl
  have HN := Lib.hid hn
  have HM0 := Lib.hid hm0
  clear hl hn hm0
  go_enter Try.func21, Try.ntmps21
  go_wp2_with fail
  go_loopw [6] (fun i wr => ∃ k : Nat, k ≤ n ∧ i = .int .i64 k ∧ may l locks = mayFrom n locks k (l.drop k) ∧ New w wr) (fun i _ => (n - intOf i).toNat)
  case atStart => exact ⟨0, by omega, rfl, HM0.out, Kept.refl _ _⟩
  case round =>
    obtain ⟨k, hk, rfl, hm, hnew⟩ := hrel
    have HM := Lib.hid hm
    have HNEW := Lib.hid hnew
    clear hm hnew
    by_cases hlt : k < n
    · obtain ⟨b, o, rfl, hb', hc⟩ := ins_at (HL.out.below HNEW.out.below) (by omega)
      have hkl : k < l.length := by have := HN.out; omega
      obtain ⟨c0, c1, c2, c3, c4⟩ := hc k hkl
      have hd : l.drop k = l[k] :: l.drop (k + 1) := List.drop_eq_getElem_cons hkl
      have hch := fun W => ref_check l[k] n locks W
      unfold agg at hch
      have HD := Lib.hid hd
      have HCH := Lib.hid hch
      clear hd hch
      clear hc
      by_cases hw0 : check l[k] n locks = 0
      · have hw0' : (check l[k] n locks != 0) = false := by simpa using hw0
        have HW0 := Lib.hid hw0
        clear hw0
        go_wp2_with fail
        refine (HCH.out _).mono ?_
        rintro e w1 ⟨rfl, hw1⟩
        go_wp2_with fail
        go_roundw
        case rel => exact ⟨k + 1, by omega, by go_num, by rw [HM.out, HD.out, mayFrom, if_pos HW0.out], HNEW.out.trans hw1⟩
        case measure => simp [intOf]; omega
      · have hw0' : (check l[k] n locks != 0) = true := by simpa using hw0
        have HW0 := Lib.hid hw0
        clear hw0
        go_wp2_with fail
        refine (HCH.out _).mono ?_
        rintro e w1 ⟨rfl, hw1⟩
        go_wp2_with fail
        go_ret2
        exact ⟨by rw [HM.out, HD.out, mayFrom, if_neg HW0.out]; rfl, HNEW.out.trans hw1⟩
    · obtain rfl : k = n := by omega
      go_wp2_with fail
      go_ret2
      exact ⟨by rw [HM.out, List.drop_of_length_le (by have := HN.out; omega)]; rfl, HNEW.out⟩
theorem may_any (A : Option Addr) (n c : Nat) (l : List Ins) (locks : Int) (w : World) (hl : SliceOf repIns w w.heap.size A n c l) :
    Calls Try.prog 14 #[.slice A n c, .int .i64 locks] w fun e w' => e = .returned (.tuple #[.int .i64 (may l locks).1, .int .i64 (may l locks).2]) ∧ New w w' := by
  by_cases h : locks < 0 ∨ 8 < locks ∨ 256 < n
  · exact may_out A n c l locks w hl h
  · exact may_walk A n c l locks w hl (by omega) (by omega) (by omega)
theorem ref_may (A : Option Addr) (n c : Nat) (l : List Ins) (locks : Int) (w : World) (hl : SliceOf repIns w w.heap.size A n c l) :
    Calls Try.prog 21 #[.slice A n c, .int .i64 locks] w fun e w' => e = .returned (.tuple #[.int .i64 (may l locks).1, .int .i64 (may l locks).2]) ∧ New w w' := by
  by_cases h : locks < 0 ∨ 8 < locks ∨ 256 < n
  · exact ref_may_out A n c l locks w hl h
  · exact ref_may_walk A n c l locks w hl (by omega) (by omega) (by omega)
end Go.Proofs.Ytjhiaicpgajeoaa.Code
