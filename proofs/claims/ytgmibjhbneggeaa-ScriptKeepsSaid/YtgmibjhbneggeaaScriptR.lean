/- The walk of chapter 16's law ScriptReturns. -/
import Derived.Test.YtgmibjhbneggeaaScriptF
namespace Go.Proofs.Ytgmibjhbneggeaa.Script
open Go.RowKit Go.Fb Go.BytesP Go.ScriptP
set_option linter.unusedVariables false

theorem news {α : Type} {R : Rep α} {w w' : World} {A : Option Addr} {n c : Nat} {l : List α} (h : SliceOf R w w.heap.size A n c l) (hk : New w w') : SliceOf R w' w'.heap.size A n c l := (h.kept hk (Nat.le_refl _) fun _ _ h => h).more hk.size
theorem steps_wf {w : World} {B : Nat} {A : Option Addr} {n c : Nat} {l : List Step} (h : SliceOf repStep w B A n c l) : ∀ s ∈ l, Wf s := by
  intro s hs
  obtain ⟨i, hi, rfl⟩ := List.mem_iff_getElem.1 hs
  obtain ⟨b, o, _, _, hc⟩ := h.get (by have := h.len; omega)
  obtain ⟨es, _, g2⟩ := hc i hi
  obtain ⟨cs, ds, e1, ⟨_, h1⟩, cs2, ds2, e2, ⟨_, h2⟩, cs3, ds3, e3, ⟨_, h3⟩, _⟩ := g2
  exact ⟨h1, h2, h3⟩
theorem same_new (A A' : Option Addr) (n n' c c' B B' : Nat) (l : List Step) (w : World) (ha : SliceOf repStep w B A n c l) (hb : SliceOf repStep w B' A' n' c' l) :
    Calls Try.prog 15 #[.slice A n c, .slice A' n' c'] w fun e w' => e = .returned (.bool true) ∧ New w w' :=
  (same_true A A' n n' c c' B B' l w ha hb).mono fun e w' h => by obtain ⟨rfl, q, rfl⟩ := h; exact ⟨rfl, (Kept.refl _ _).drewN q⟩
theorem opens_step : Opens Try.prog repStep 38 :=
  opens_via (fun x => ⟨x.1, x.2.1, x.2.2.1⟩) (fun x => rfl) (opens_struct Try.underlying38 (by kernel_rfl)
    (opensAt_cons rfl (by kernel_rfl) (opens_int Try.underlying3) (opensAt_cons rfl (by kernel_rfl) (opens_int Try.underlying3) (opensAt_cons rfl (by kernel_rfl) (opens_int Try.underlying2) opensAt_nil))))
/-- The first of bytes. -/
theorem slice_take {w : World} {B g n c : Nat} {l : List UInt8} (h : SliceOf Rep.byte w B (some ⟨g, 0, none⟩) n c l) (k : Nat) (hk : k ≤ n) : SliceOf Rep.byte w B (some ⟨g, 0, none⟩) k k (l.take k) := by
  have hb := h.bound
  have hn := h.len
  refine ⟨by rw [List.length_take]; omega, Nat.le_refl _, by unfold maxLen; omega, ?_⟩
  by_cases h0 : k = 0
  · exact .inl h0
  · obtain ⟨b, o, e, hb, hc⟩ := h.get (by omega)
    refine .inr ⟨b, o, e, hb, fun i hi => ?_⟩
    rw [List.length_take] at hi
    obtain ⟨es, h1, h2⟩ := hc i (by omega)
    exact ⟨es, h1, by rw [List.getElem_take]; exact h2⟩
theorem wf_dec {b : List UInt8} {l : List Step} (h : dec b = .ok l) : ∀ s ∈ l, Wf s := by
  obtain ⟨h1, h2, _⟩ := enc_dec h
  intro s hs
  have hf := fine_of h1 h2 s hs
  obtain ⟨f1, f2, f3, f4, _⟩ := hf.bd
  obtain ⟨_, f5, f6⟩ := hf
  refine ⟨?_, ?_, ?_⟩ <;> simp [Lit.wf, IntKind.min, IntKind.max, IntKind.signed, IntKind.bits] <;> omega
set_option maxRecDepth 100000 in
set_option maxHeartbeats 1000000 in
theorem returns_walk (A A2 : Option Addr) (n c n2 c2 : Nat) (l : List Step) (b : List UInt8) (x : Int) (hx : (Lit.int .i64 x).wf = true) (w : World) (hl : SliceOf repStep w w.heap.size A n c l) (hb : SliceOf Rep.byte w w.heap.size A2 n2 c2 b) :
    Calls Try.prog 6 #[.slice A n c, .slice A2 n2 c2, .int .i64 x] w fun e w' => e = .returned (.bool true) ∧ New w w' := by
  have HL := Lib.hid hl
  have HB := Lib.hid hb
  clear hl hb
  go_enter Try.func6, Try.ntmps6
  go_wp2_with (go_at_call 8; refine (awake_any _).mono ?_; rintro e w1 ⟨rfl, hw1⟩)
  have HL1 := Lib.hid (news HL.out hw1)
  have HB1 := Lib.hid (news HB.out hw1)
  have HW1 := Lib.hid hw1
  have hw1s := hw1.size
  clear hw1
  by_cases hm : may l = (0, 0)
  case' pos =>
    refine (encode_ok A n c l w1 HL1.out hm).mono ?_
    rintro e w2 ⟨g, cap, rfl, ho, hw2⟩
    have HL2 := Lib.hid (news HL1.out hw2)
    have HB2 := Lib.hid (news HB1.out hw2)
    have HO2 := Lib.hid ho.read
    have HW2 := Lib.hid (HW1.out.trans hw2)
    have HM := Lib.hid hm
    have HG := Lib.hid (Nat.le_trans hw1s (ho.lt g rfl).1)
    clear hw2 ho hm hw1s
    go_wp2_with fail
    refine (may_walk A n c l w2 HL2.out).mono ?_
    rintro e w3 ⟨rfl, hw3⟩
    rw [HM.out]
    have HL3 := Lib.hid (news HL2.out hw3)
    have HB3 := Lib.hid (news HB2.out hw3)
    have HO3 := Lib.hid (news HO2.out hw3)
    have HW3 := Lib.hid (HW2.out.trans hw3)
    clear hw3
    go_wp2_with fail
    refine (decode_any _ _ _ (enc l) _ HO3.out).mono ?_
    rintro e w4 hd
    rw [dec_enc HM.out (steps_inV HL3.out)] at hd
    obtain ⟨v, rfl, hv, hw4⟩ := hd
    obtain ⟨A3, n3, c3, rfl, hv3⟩ := hv.read (steps_wf HL3.out)
    have HV4 := Lib.hid hv3
    have HL4 := Lib.hid (news HL3.out hw4)
    have HB4 := Lib.hid (news HB3.out hw4)
    have HO4 := Lib.hid (news HO3.out hw4)
    have HW4 := Lib.hid (HW3.out.trans hw4)
    clear hw4 hv hv3
    have hcap := HO4.out.bound
    have hne : ¬ enc l = [] := by intro h; have := length_enc l; rw [h, List.length_nil] at this; omega
    have hpos : 0 < (enc l).length := List.length_pos_iff.2 hne
    have hlen := encTo_le l l.length (may_ok HM.out).1
    rw [encTo_all] at hlen
    obtain ⟨r, hR⟩ : ∃ r, x.tmod (enc l).length = r := ⟨_, rfl⟩
    have hr1 : r < (enc l).length := by rw [← hR]; exact Int.tmod_lt_of_pos _ (by omega)
    have hr2 : -((enc l).length : Int) < r := by
      rw [← hR]
      have := Int.tmod_lt_of_pos (-x) (b := (enc l).length) (by omega)
      rw [Int.neg_tmod] at this
      omega
    have hrr : r < 0 ∨ 0 ≤ r := by omega
    rcases hrr with hr | hr
    case' inl =>
      obtain ⟨k, hk⟩ : ∃ k : Nat, r + (enc l).length = k := ⟨(r + (enc l).length).toNat, by omega⟩
      have hw : wrap64 (k : Int) = k := by unfold wrap64; omega
    case' inr =>
      obtain ⟨k, rfl⟩ : ∃ k : Nat, r = k := ⟨r.toNat, by omega⟩
    all_goals
      have hkN : k < (enc l).length := by omega
      have HKN := Lib.hid hkN
      have HPOS := Lib.hid hpos
      have HLEN := Lib.hid hlen
      have hkc : (k : Int) ≤ cap := by omega
      have hNc : ((enc l).length : Int) ≤ cap := by omega
      clear hr1 hr2 hpos hlen hkN hcap hx
      go_wp2_with (go_at_call 15; refine (same_new _ _ _ _ _ _ _ _ l _ HV4.out HL4.out).mono ?_; rintro e w5 ⟨rfl, hw5⟩)
      have HL5 := Lib.hid (news HL4.out hw5)
      have HB5 := Lib.hid (news HB4.out hw5)
      have HO5 := Lib.hid (news HO4.out hw5)
      have HW5 := Lib.hid (HW4.out.trans hw5)
      clear hw5
      refine (decode_any _ k k ((enc l).take k) _ (slice_take HO5.out k (by have := HKN.out; omega))).mono ?_
      rintro e w6 hd
      rw [dec_cut HM.out (steps_inV HL5.out) k HKN.out] at hd
      obtain ⟨rfl, hw6⟩ := hd
      have HL6 := Lib.hid (news HL5.out hw6)
      have HB6 := Lib.hid (news HB5.out hw6)
      have HO6 := Lib.hid (news HO5.out hw6)
      have HW6 := Lib.hid (HW5.out.trans hw6)
      clear hw6
      go_wp2_with (at_builtin; refine wpList_byte tyBytes rfl _ _ rfl w6.heap.size rfl (.inr ⟨_, _, rfl, news (by have := slice_take HO6.out (enc l).length (Nat.le_refl _); rwa [List.take_length] at this) ((Kept.refl _ _).alloc _)⟩) ⟨w6.heap.size, 0, none⟩ 1 1 _ rfl (new_cell _ _ _ _ rfl) rfl (by have := HLEN.out; omega) (by simp) ?_; intro g7 cap7 w7 ho7 hk7 hl7)
      have hw7 : New w w7 := New.step_own (HW6.out.alloc _) HG.out hk7
      have HW7 := Lib.hid hw7
      have HO7 := Lib.hid ho7.read
      clear hk7 ho7 hl7 hw7
      go_wp2_with fail
      refine (decode_any _ _ _ (enc l ++ [1]) _ HO7.out).mono ?_
      rintro e wz hd
      rw [dec_enc_more HM.out (steps_inV HL.out) [1] (by simp), if_neg (by simp)] at hd
      obtain ⟨rfl, hw8⟩ := hd
      have HWz := Lib.hid (HW7.out.trans hw8)
      clear hw8
      go_wp2_with fail
  case' neg =>
    have hm1 : ((may l).1 == 0) = false := by
      simp only [beq_eq_false_iff_ne, ne_eq]
      exact fun h => hm (may_zero h)
    refine (encode_err A n c l w1 HL1.out hm).mono ?_
    rintro e w2 ⟨rfl, hw2⟩
    have HL2 := Lib.hid (news HL1.out hw2)
    have HW2 := Lib.hid (HW1.out.trans hw2)
    clear hw2 hm hw1s
    go_wp2_with fail
    refine (may_walk A n c l w2 HL2.out).mono ?_
    rintro e wz ⟨rfl, hw3⟩
    have HWz := Lib.hid (HW2.out.trans hw3)
    clear hw3
    generalize may l = m at *
    go_wp2_with fail
  all_goals
    have HBz := Lib.hid (news HB.out HWz.out)
    refine (decode_any _ _ _ b _ HBz.out).mono ?_
    rintro e w9 hd
    cases hdb : dec b with
    | error z =>
      rw [hdb] at hd
      obtain ⟨rfl, hw9⟩ := hd
      obtain ⟨z1, z2, z3⟩ := dec_err hdb
      rw [← HB.out.len] at z3
      have z1' : (z.1 != 0) = true := by simpa using z1
      have HW9 := Lib.hid (HWz.out.trans hw9)
      clear z1 hdb hw9
      go_wp2_with fail
      go_ret
      exact ⟨rfl, HW9.out⟩
    | ok m =>
      rw [hdb] at hd
      obtain ⟨v, rfl, hv, hw9⟩ := hd
      obtain ⟨m1, m2, m3⟩ := enc_dec hdb
      obtain ⟨A9, n9, c9, rfl, hv9⟩ := hv.read (wf_dec hdb)
      have HV9 := Lib.hid hv9
      have HW9 := Lib.hid (HWz.out.trans hw9)
      have M1 := Lib.hid m1
      have M3 := Lib.hid m3
      clear hv hw9 hv9 m1 m2 m3 hdb
      go_wp2_with fail
      refine (encode_ok _ _ _ m _ HV9.out M1.out).mono ?_
      rintro e w10 ⟨g10, cap10, rfl, ho10, hw10⟩
      have HV10 := Lib.hid (news HV9.out hw10)
      have HO10 := Lib.hid ho10.read
      have HW10 := Lib.hid (HW9.out.trans hw10)
      clear hw10 ho10
      go_wp2_with fail
      refine (may_walk _ _ _ m _ HV10.out).mono ?_
      rintro e w11 ⟨rfl, hw11⟩
      rw [M1.out]
      have HW11 := Lib.hid (HW10.out.trans hw11)
      have s1 := str_of (P := Try.prog) (news HO10.out hw11) 27 9 5 rfl rfl rfl
      have s2 := str_of (P := Try.prog) (news HB.out HW11.out) 27 9 5 rfl rfl rfl
      rw [M3.out] at s1 ⊢
      clear hw11
      go_wp2_with fail
      go_ret
      exact ⟨rfl, HW11.out⟩
end Go.Proofs.Ytgmibjhbneggeaa.Script
