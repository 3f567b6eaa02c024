/- Whole numbers of any size by their digits of 32 bits, plainly (layer 5's reference). No program in sight. -/
import Derived.Test.YtilioiebecpknaaFA
import Derived.Test.YtilioiebecpknaaCpuF
import Derived.BigQuiet
namespace Go.NatP
set_option linter.unusedVariables false
def B : Nat := 4294967296
theorem B_pos : 0 < B := by decide
/-- The number of digits, the lowest first. -/
def val : List Nat → Nat
  | [] => 0
  | d :: l => d + B * val l
/-- A number's digits, no zeros last. -/
def dig (v : Nat) : List Nat := if h : v = 0 then [] else v % B :: dig (v / B)
termination_by v
decreasing_by exact Nat.div_lt_self (by omega) (by decide)
theorem dig_zero : dig 0 = [] := by rw [dig]; rfl
theorem dig_pos {v : Nat} (h : v ≠ 0) : dig v = v % B :: dig (v / B) := by rw [dig, dif_neg h]
theorem dig_val (v : Nat) : val (dig v) = v := by
  induction v using Nat.strongRecOn with
  | _ v ih =>
    by_cases h : v = 0
    · subst h; rw [dig_zero]; rfl
    · rw [dig_pos h, val, ih _ (Nat.div_lt_self (by omega) (by decide))]
      exact Nat.mod_add_div v B
theorem dig_lt (v : Nat) : ∀ d ∈ dig v, d < B := by
  induction v using Nat.strongRecOn with
  | _ v ih =>
    by_cases h : v = 0
    · subst h; rw [dig_zero]; intro d hd; cases hd
    · rw [dig_pos h]
      intro d hd
      rcases List.mem_cons.1 hd with rfl | hd
      · exact Nat.mod_lt _ B_pos
      · exact ih _ (Nat.div_lt_self (by omega) (by decide)) d hd
theorem val_append (l k : List Nat) : val (l ++ k) = val l + B ^ l.length * val k := by
  induction l with
  | nil => simp [val]
  | cons d l ih =>
    rw [List.cons_append, val, ih, val, List.length_cons, Nat.mul_add, ← Nat.mul_assoc, Nat.pow_succ, Nat.mul_comm B (B ^ l.length)]
    omega
theorem val_lt {l : List Nat} (h : ∀ d ∈ l, d < B) : val l < B ^ l.length := by
  induction l with
  | nil => simp [val]
  | cons d l ih =>
    have h1 := h d (List.mem_cons_self ..)
    have h2 := ih fun x hx => h x (List.mem_cons_of_mem _ hx)
    rw [val, List.length_cons, Nat.pow_succ, Nat.mul_comm _ B]
    have : B * (val l + 1) ≤ B * B ^ l.length := Nat.mul_le_mul_left _ h2
    rw [Nat.mul_add] at this
    omega
theorem val_zero {l : List Nat} (h : val l = 0) : ∀ d ∈ l, d = 0 := by
  induction l with
  | nil => intro d hd; cases hd
  | cons d l ih =>
    rw [val] at h
    have h1 : d = 0 := by omega
    have h2 : val l = 0 := by
      rcases Nat.mul_eq_zero.1 (show B * val l = 0 by omega) with e | e
      · exact absurd e (by decide)
      · exact e
    intro x hx
    rcases List.mem_cons.1 hx with rfl | hx
    · exact h1
    · exact ih h2 x hx
/-- Digits whose last one is not 0 are a number's digits. -/
theorem dig_of {l : List Nat} (h : ∀ d ∈ l, d < B) (hl : ∀ d, l.getLast? = some d → d ≠ 0) : dig (val l) = l := by
  induction l with
  | nil => exact dig_zero
  | cons d l ih =>
    have h1 := h d (List.mem_cons_self ..)
    have hv : val (d :: l) ≠ 0 := by
      intro e
      have hz := val_zero e
      cases hg : (d :: l).getLast? with
      | none => simp at hg
      | some x => exact hl x hg (hz x (List.mem_of_getLast? hg))
    rw [dig_pos hv]
    have e1 : val (d :: l) % B = d := by rw [val, Nat.add_mul_mod_self_left, Nat.mod_eq_of_lt h1]
    have e2 : val (d :: l) / B = val l := by rw [val, Nat.add_mul_div_left _ _ B_pos, Nat.div_eq_of_lt h1, Nat.zero_add]
    rw [e1, e2]
    congr 1
    cases l with
    | nil => exact dig_zero
    | cons x l =>
      refine ih (fun y hy => h y (List.mem_cons_of_mem _ hy)) fun y hy => hl y ?_
      rw [List.getLast?_cons_cons]; exact hy
theorem val_snoc_zero (l : List Nat) : val (l ++ [0]) = val l := by rw [val_append]; simp [val]
theorem dig_len_lt {v k : Nat} (h : v < B ^ k) : (dig v).length ≤ k := by
  induction k generalizing v with
  | zero =>
    have : v = 0 := by simpa using h
    subst this; rw [dig_zero]; exact Nat.le_refl _
  | succ k ih =>
    by_cases h0 : v = 0
    · subst h0; rw [dig_zero]; exact Nat.zero_le _
    · rw [dig_pos h0, List.length_cons]
      have := ih (v := v / B) (Nat.div_lt_of_lt_mul (by rw [Nat.pow_succ, Nat.mul_comm] at h; exact h))
      omega
theorem dig_nil {v : Nat} : dig v = [] ↔ v = 0 := by
  constructor
  · intro h
    have := dig_val v
    rw [h] at this; exact this.symm
  · rintro rfl; exact dig_zero
theorem dig_last {v : Nat} : ∀ d, (dig v).getLast? = some d → d ≠ 0 := by
  induction v using Nat.strongRecOn with
  | _ v ih =>
    intro d hd
    by_cases h : v = 0
    · subst h; rw [dig_zero] at hd; cases hd
    · rw [dig_pos h] at hd
      by_cases h2 : v / B = 0
      · rw [h2, dig_zero] at hd
        simp at hd
        have := Nat.mod_add_div v B
        rw [h2] at this
        omega
      · have hne : dig (v / B) ≠ [] := fun e => h2 (dig_nil.1 e)
        cases hq : dig (v / B) with
        | nil => exact absurd hq hne
        | cons x l =>
          rw [hq, List.getLast?_cons_cons, ← hq] at hd
          exact ih _ (Nat.div_lt_self (by omega) (by decide)) d hd
theorem dig_bound (v : Nat) : v < B ^ (dig v).length := by
  have := val_lt (dig_lt v)
  rwa [dig_val] at this
theorem dig_below {v : Nat} (h : v ≠ 0) : B ^ ((dig v).length - 1) ≤ v := by
  induction v using Nat.strongRecOn with
  | _ v ih =>
    rw [dig_pos h, List.length_cons, Nat.add_sub_cancel]
    by_cases h2 : v / B = 0
    · rw [h2, dig_zero]; simp; omega
    · have h3 := ih _ (Nat.div_lt_self (by omega) (by decide)) h2
      have h4 : (dig (v / B)).length ≠ 0 := fun e => h2 (dig_nil.1 (List.eq_nil_of_length_eq_zero e))
      obtain ⟨k, hk⟩ : ∃ k, (dig (v / B)).length = k + 1 := ⟨(dig (v / B)).length - 1, by omega⟩
      rw [hk, Nat.add_sub_cancel] at h3
      rw [hk, Nat.pow_succ]
      exact Nat.le_trans (Nat.mul_le_mul_right B h3) (Nat.div_mul_le_self v B)
end Go.NatP

namespace Go.Proofs.Ytilioiebecpknaa.Nat5
open Go.RowKit Go.Fb Go.NatP
set_option linter.unusedVariables false
/-- How a digit lies. -/
def repU : Rep Nat where
  size := 1
  cells _ _ d cs := cs = [.int .u32 d] ∧ d < B
  length h := by rw [h.1]; rfl
  stays _ h := h
  more _ h := h
theorem dig_at {w : World} {Bd : Nat} {A : Option Addr} {n c : Nat} {l : List Nat} (h : SliceOf repU w Bd A n c l) (hn : 0 < n) : ∃ b o, A = some ⟨b, o, none⟩ ∧ b < Bd ∧ ∀ i (h : i < l.length), w.cell? ⟨b, o + i, none⟩ = some (.int .u32 (l[i] : Nat)) := by
  obtain ⟨b, o, e, hb, hc⟩ := h.get hn
  refine ⟨b, o, e, hb, fun i hi => ?_⟩
  obtain ⟨es, g1, rfl, -⟩ := hc i hi
  have := g1 0 (by decide)
  simpa [repU] using this
theorem digs_lt {w : World} {Bd : Nat} {A : Option Addr} {n c : Nat} {l : List Nat} (h : SliceOf repU w Bd A n c l) : ∀ d ∈ l, d < B := by
  intro x hx
  obtain ⟨i, hi, rfl⟩ := List.mem_iff_getElem.1 hx
  obtain ⟨b, o, _, _, hc⟩ := h.get (by have := h.len; omega)
  obtain ⟨es, _, _, g⟩ := hc i hi
  exact g
theorem trim_any {w : World} {Bd : Nat} {A : Option Addr} {n c : Nat} {L : List Nat} (h : SliceOf repU w Bd A n c L) :
    Calls Try.prog 71 #[.slice A n c] w fun e w' => w' = w ∧ ∃ k, k ≤ n ∧ e = .returned (.slice A k c) ∧ dig (val L) = L.take k := by
  have hln := h.len
  have hbd := h.bound
  have hlt := digs_lt h
  have H := Lib.hid h
  have HLN := Lib.hid hln
  have HLT := Lib.hid hlt
  clear h hln hlt
  go_enter Try.func71, Try.ntmps71
  go_wp2_with fail
  go_loopg [0] n (fun g s0 wr => ∃ k : Nat, k ≤ n ∧ k ≤ g ∧ s0 = .slice A k c ∧ wr = w ∧ Hid (val (L.take k) = val L))
  case atStart => exact ⟨n, Nat.le_refl _, Nat.le_refl _, rfl, rfl, Lib.hid (by rw [HLN.out, List.take_length])⟩
  case round =>
    obtain ⟨k, hk, hkg, rfl, rfl, hv⟩ := hrel
    have HV := hv
    clear hv
    by_cases h0 : k = 0
    · subst h0
      go_wp2_with fail
      go_ret
      refine ⟨rfl, 0, Nat.zero_le _, rfl, ?_⟩
      rw [← HV.out, List.take_zero]
      exact dig_zero
    · obtain ⟨m, rfl⟩ : ∃ m, k = m + 1 := ⟨k - 1, by omega⟩
      obtain ⟨b, o, rfl, -, hc⟩ := dig_at H.out (by omega)
      have hm : m < L.length := by have := HLN.out; omega
      have c0 := hc m hm
      have htk : L.take (m + 1) = L.take m ++ [L[m]] := List.take_succ_eq_append_getElem hm
      have hll : L[m] < B := HLT.out _ (List.getElem_mem hm)
      clear hc
      generalize L[m] = d at *
      by_cases hd : d = 0
      · subst hd
        have HTK := Lib.hid htk
        have HLL := Lib.hid hll
        clear htk hll
        go_wp2_with fail
        go_roundg m
        case measure => omega
        case rel => exact ⟨m, by omega, Nat.le_refl _, rfl, rfl, Lib.hid (by rw [← HV.out, HTK.out, val_snoc_zero])⟩
      · have hd2 : ((d : Int) == 0) = false := by simp; omega
        have hd3 : ¬ d = 0 := hd
        have HTK := Lib.hid htk
        have HLL := Lib.hid hll
        have HD := Lib.hid hd
        clear htk hll hd
        go_wp2_with fail
        go_ret
        refine ⟨rfl, m + 1, hk, rfl, ?_⟩
        rw [← HV.out]
        refine dig_of (fun x hx => HLT.out x (List.mem_of_mem_take hx)) fun x hx => ?_
        rw [HTK.out, List.getLast?_concat] at hx
        injection hx with hx
        rw [← hx]; exact HD.out
/-- A number in new memory. -/
def Num (w : World) (v : Nat) (e : Ending) (w' : World) : Prop := New w w' ∧ ∃ A k c, e = .returned (.slice A k c) ∧ SliceOf repU w' w'.heap.size A k c (dig v)
def cellU (d : Nat) : Value := .int .u32 d
/-- trim, of what was just laid. -/
theorem trim_num {w0 w : World} (hn : New w0 w) {Bd : Nat} {A : Option Addr} {n c : Nat} {L : List Nat} (h : SliceOf repU w Bd A n c L) (hB : Bd ≤ w.heap.size) {v : Nat} (hv : val L = v) :
    Calls Try.prog 71 #[.slice A n c] w (Num w0 v) := by
  refine (trim_any h).mono ?_
  rintro e w' ⟨rfl, k, hk, rfl, hd⟩
  refine ⟨hn, A, k, c, rfl, ?_⟩
  rw [← hv, hd]
  exact (h.take hk (Nat.le_trans hk h.bound.1) h.bound.2).more hB
theorem two_u (W : World) (T : TypeId) {g : Nat} {x y : Int} (s t : Nat) (hs : s < B) (ht : t < B) (hg : g = W.heap.size) (hx : x = (s : Int)) (hy : y = (t : Int)) : SliceOf repU (W.alloc (.cells #[.int .u32 x, .int .u32 y] T)) (W.alloc (.cells #[.int .u32 x, .int .u32 y] T)).heap.size (some ⟨g, 0, none⟩) 2 2 [s, t] := by
  subst hg; subst hx; subst hy
  refine ⟨rfl, Nat.le_refl _, by unfold maxLen; omega, .inr ⟨_, 0, rfl, by show _ < (W.heap.push _).size; simp, fun i hi => ⟨[.int .u32 ([s, t][i] : Nat)], fun j hj => ?_, rfl, ?_⟩⟩⟩
  · have hi0 : i < 2 := by simpa using hi
    have hj0 : j = 0 := Nat.lt_one_iff.1 hj
    subst hj0
    rw [(Blk.made W T #[.int .u32 (s : Int), .int .u32 (t : Int)]).cell]
    match i, hi0 with
    | 0, _ => rfl
    | 1, _ => rfl
  · have hi0 : i < 2 := by simpa using hi
    match i, hi0 with
    | 0, _ => exact hs
    | 1, _ => exact ht
theorem of_any {x : Nat} (hx : x < 18446744073709551616) (w : World) : Calls Try.prog 62 #[.int .u64 x] w (Num w x) := by
  have hl : x % B < B := Nat.mod_lt _ B_pos
  have hh : x / B < B := Nat.div_lt_of_lt_mul (by unfold B; omega)
  have hv : val [x % B, x / B] = x := by
    show x % B + B * (x / B + B * 0) = x
    rw [Nat.mul_zero, Nat.add_zero]
    exact Nat.mod_add_div x B
  have h2 : ((x : Int) / 4294967296) = ((x / B : Nat) : Int) := by unfold B; omega
  have h3 : ((x : Int) % 4294967296) = ((x % B : Nat) : Int) := by unfold B; omega
  have h4 : (((x / B : Nat) : Int) % 4294967296) = ((x / B : Nat) : Int) := by unfold B at *; omega
  have HL := Lib.hid hl
  have HH := Lib.hid hh
  have HV := Lib.hid hv
  clear hl hh hv
  go_enter Try.func62, Try.ntmps62
  go_wp2_with fail
  refine (trim_num ((Kept.refl _ _).alloc _) (two_u _ _ (x % B) (x / B) HL.out HH.out rfl (by simp) (by simp)) (Nat.le_refl _) HV.out).mono ?_
  rintro e w' ⟨hn, A, k, c, rfl, hs⟩
  have HN := Lib.hid hn
  have HS := Lib.hid hs
  clear hn hs
  go_wp2_with fail
  go_ret
  exact ⟨HN.out, A, k, c, rfl, HS.out⟩
theorem tyU : SliceTy Try.prog 89 97 1 4 := by
  obtain ⟨i, hi, hz, hs, hb⟩ := info_parts (P := Try.prog) (e := 97) (z := .int .u32 0) (size := 1) (bytes := 4) (by kernel_rfl)
  exact ⟨Try.underlying89, ⟨i, _, hi, hz, hs, hb, rfl⟩, by decide⟩
/-- A row of digits of the call's own, read. -/
theorem row_read {w : World} {r : Option Nat} {A : Option Addr} {n c : Nat} {L : List Nat} (h : Row w 1 r A n c (L.map cellU)) (hl : L.length = n) (hd : ∀ d ∈ L, d < B) : SliceOf repU w w.heap.size A n c L := by
  have h2 : Row w repU.size r A n c (L.flatMap fun d => [cellU d]) := by
    rw [List.map_eq_flatMap] at h
    exact h
  exact h2.slice (R := repU) (by decide) hl fun x hx => ⟨rfl, hd x hx⟩
set_option maxHeartbeats 1000000 in
theorem times_any {A : Option Addr} {n c v m : Nat} {w : World} (h : SliceOf repU w w.heap.size A n c (dig v)) (hm : m < B) (hn : n ≤ 1000000) :
    Calls Try.prog 68 #[.slice A n c, .int .u32 m] w (Num w (v * m)) := by
  have hln := h.len
  have hbd := h.bound
  have HR := Lib.hid (fun W (hW : New w W) => (h.kept hW (Nat.le_refl _) fun _ _ h => h))
  have hdl := dig_lt v
  have hval := dig_val v
  generalize dig v = L at *
  have hm9 : m ≤ 4294967295 := by unfold B at hm; omega
  have H := Lib.hid h
  have HLN := Lib.hid hln
  have HDL := Lib.hid hdl
  have HVAL := Lib.hid hval
  clear h hln hdl hval
  go_enter Try.func68, Try.ntmps68
  go_wp2_with fail
  have hal : New w (w.alloc (.cells #[] 97)) := (Kept.refl _ _).alloc _
  go_loopw [5, 6, 7] (fun s5 s6 s7 wr => ∃ (i : Nat) (O : List Nat) (cy : Nat) (r : Option Nat) (A' : Option Addr) (c' : Nat), i ≤ n ∧ s7 = .int .i64 i ∧ s6 = .int .u64 cy ∧ s5 = .slice A' i c' ∧ New w wr ∧ Row wr 1 r A' i c' (O.map cellU) ∧ O.length = i ∧ (∀ d ∈ O, d < B) ∧ cy < B ∧ Hid (val O + B ^ i * cy = val (L.take i) * m) ∧ ∀ k, r = some k → w.heap.size ≤ k) (fun _ _ s _ => (n - intOf s).toNat)
  case atStart => exact ⟨0, [], 0, none, _, 0, Nat.zero_le _, rfl, rfl, rfl, hal, ⟨rfl, .inl ⟨rfl, rfl, rfl⟩⟩, rfl, fun d hd => (by cases hd), B_pos, Lib.hid (by simp [val]), fun k hk => (by cases hk)⟩
  case round =>
    obtain ⟨i, O, cy, r, A', c', hi, rfl, rfl, rfl, hnr, hrow, hol, hod, hcy, hv, hfar⟩ := hrel
    have HV := hv
    clear hv
    have hrb := hrow.bound
    by_cases hlt : i < n
    · obtain ⟨b, o, rfl, -, hc⟩ := dig_at (HR.out wr hnr) (by omega)
      have hil : i < L.length := by have := HLN.out; omega
      have c0 := hc i hil
      have hd := HDL.out _ (List.getElem_mem hil)
      have htk : L.take (i + 1) = L.take i ++ [L[i]] := List.take_succ_eq_append_getElem hil
      generalize L[i] = d at *
      obtain ⟨p, hp⟩ : ∃ p, d * m = p := ⟨_, rfl⟩
      have hp1 : p ≤ 4294967295 * 4294967295 := by rw [← hp]; exact Nat.mul_le_mul (by unfold B at hd; omega) hm9
      have hpe : (d : Int) * (m : Int) = (p : Int) := by rw [← hp]; exact (Int.natCast_mul d m).symm
      have hcy9 : cy ≤ 4294967295 := by unfold B at hcy; omega
      obtain ⟨T, hT⟩ : ∃ T, cy + p = T := ⟨_, rfl⟩
      have hTe : (cy : Int) + (p : Int) = (T : Int) := by omega
      have hT9 : T ≤ 18446744073709551615 := by omega
      obtain ⟨q, hq⟩ : ∃ q, T % B = q := ⟨_, rfl⟩
      obtain ⟨e, he⟩ : ∃ e, T / B = e := ⟨_, rfl⟩
      have hqe : (T : Int) % 4294967296 = (q : Int) := by rw [← hq]; unfold B; omega
      have hee : (T : Int) / 4294967296 = (e : Int) := by rw [← he]; unfold B; omega
      have hqB : q < B := by rw [← hq]; exact Nat.mod_lt _ B_pos
      have heB : e < B := by rw [← he]; exact Nat.div_lt_of_lt_mul (by unfold B; omega)
      have hp9 : p ≤ 18446744065119617025 := by omega
      have hpw : IntKind.u64.wrap (p : Int) = (p : Int) := by rw [IntKind.wrap_u64]; omega
      have hTw : IntKind.u64.wrap (T : Int) = (T : Int) := by rw [IntKind.wrap_u64]; omega
      have hd9 : d ≤ 4294967295 := by unfold B at hd; omega
      have hval2 : val (O ++ [q]) + B ^ (i + 1) * e = val (L.take (i + 1)) * m := by
        have hTq : T = q + B * e := by rw [← hq, ← he]; exact (Nat.mod_add_div T B).symm
        have h1 := HV.out
        rw [val_append, hol, htk, val_append, List.length_take, Nat.min_eq_left (by omega), Nat.add_mul, ← h1]
        show val O + B ^ i * (q + B * 0) + B ^ (i + 1) * e = val O + B ^ i * cy + B ^ i * (d + B * 0) * m
        simp only [Nat.mul_zero, Nat.add_zero]
        rw [Nat.mul_assoc (B ^ i) d m, hp, Nat.pow_succ, Nat.mul_assoc, Nat.add_assoc, ← Nat.mul_add, ← hTq, Nat.add_assoc, ← Nat.mul_add, hT]
      have HNR := Lib.hid hnr
      have HROW := Lib.hid hrow
      have HOD := Lib.hid hod
      have HFAR := Lib.hid hfar
      have HTK := Lib.hid htk
      have HP := Lib.hid hp
      have HT := Lib.hid hT
      have HQ := Lib.hid hq
      have HE := Lib.hid he
      have HQB := Lib.hid hqB
      have HEB := Lib.hid heB
      have HVAL2 := Lib.hid hval2
      have HD := Lib.hid hd
      have HCY := Lib.hid hcy
      have HOL := Lib.hid hol
      clear hnr hrow hod hfar htk hp hT hq he hqB heB hval2 hd hcy hol
      clear hc
      go_wp2_with (at_builtin; refine wpList_append_one (cs := [.int .u32 (q : Nat)]) tyU rfl _ _ rfl rfl HROW.out rfl rfl rfl (by simp [Value.oneCell']) (by unfold maxLen; omega) (by omega) ?_; intro r8 A8 c8 w8 hr8 hk8 hn8)
      go_roundw
      case rel =>
        refine ⟨i + 1, O ++ [q], e, r8, A8, c8, by omega, by go_num, rfl, rfl, HNR.out.step hk8 fun j hj x => by have := HFAR.out j x; omega, by rw [List.map_append]; exact hr8, by rw [List.length_append, HOL.out]; rfl, fun x hx => ?_, HEB.out, Lib.hid HVAL2.out, fun k hk => ?_⟩
        · rcases List.mem_append.1 hx with hx | hx
          · exact HOD.out x hx
          · rw [List.mem_singleton.1 hx]; exact HQB.out
        · rcases hn8 k hk with x | x
          · exact HFAR.out k x
          · have := HNR.out.size; omega
      case measure => simp [intOf]; omega
    · obtain rfl : i = n := by omega
      have hcy9 : cy ≤ 4294967295 := by unfold B at hcy; omega
      have hce : (cy : Int) % 4294967296 = (cy : Int) := by omega
      have hvv : val (O ++ [cy]) = v * m := by
        have h1 := HV.out
        rw [HLN.out, List.take_length, HVAL.out, ← HLN.out] at h1
        rw [← h1, val_append, hol]
        show val O + B ^ i * (cy + B * 0) = _
        rw [Nat.mul_zero, Nat.add_zero]
      have HNR := Lib.hid hnr
      have HROW := Lib.hid hrow
      have HOD := Lib.hid hod
      have HFAR := Lib.hid hfar
      have HCY := Lib.hid hcy
      have HOL := Lib.hid hol
      have HVV := Lib.hid hvv
      clear hnr hrow hod hfar hcy hol hvv
      go_wp2_with (at_builtin; refine wpList_append_one (cs := [.int .u32 (cy : Nat)]) tyU rfl _ _ rfl rfl HROW.out rfl rfl rfl (by simp [Value.oneCell']) (by unfold maxLen; omega) (by omega) ?_; intro r8 A8 c8 w8 hr8 hk8 hn8)
      have hr9 : Row w8 1 r8 A8 (i + 1) c8 ((O ++ [cy]).map cellU) := by rw [List.map_append]; exact hr8
      have hn9 : New w w8 := HNR.out.step hk8 fun j hj x => by have := HFAR.out j x; omega
      refine (trim_num hn9 (row_read hr9 (by rw [List.length_append, HOL.out]; rfl) fun x hx => ?_) (Nat.le_refl _) HVV.out).mono ?_
      · rcases List.mem_append.1 hx with hx | hx
        · exact HOD.out x hx
        · rw [List.mem_singleton.1 hx]; exact HCY.out
      rintro e w9 ⟨hn, A, k, c, rfl, hs⟩
      have HN := Lib.hid hn
      have HS := Lib.hid hs
      clear hn hs
      go_wp2_with fail
      go_ret
      exact ⟨HN.out, A, k, c, rfl, HS.out⟩
end Go.Proofs.Ytilioiebecpknaa.Nat5

namespace Go.Proofs.Ytilioiebecpknaa.Nat5
open Go.RowKit Go.Fb Go.NatP
set_option linter.unusedVariables false
theorem dig_shift {v : Nat} (h : v ≠ 0) (j : Nat) : dig (v * B ^ j) = List.replicate j 0 ++ dig v := by
  have e : v * B ^ j = val (List.replicate j 0 ++ dig v) := by
    rw [val_append, dig_val, List.length_replicate]
    have : val (List.replicate j 0) = 0 := by
      induction j with
      | zero => rfl
      | succ j ih => rw [List.replicate_succ, val, ih]; rfl
    rw [this, Nat.zero_add, Nat.mul_comm]
  rw [e]
  refine dig_of (fun d hd => ?_) fun d hd => ?_
  · rcases List.mem_append.1 hd with hd | hd
    · rw [(List.mem_replicate.1 hd).2]; exact B_pos
    · exact dig_lt v d hd
  · cases hq : dig v with
    | nil => exact absurd (dig_nil.1 hq) h
    | cons x l =>
      rw [hq, List.getLast?_append, List.getLast?_cons] at hd
      simp only [Option.some_or] at hd
      refine dig_last (v := v) d ?_
      rw [hq, List.getLast?_cons]; exact hd
theorem src_of {w : World} {Bd : Nat} {A : Option Addr} {n c : Nat} {L : List Nat} (h : SliceOf repU w Bd A n c L) (hn : 0 < n) : Go.Src Try.prog 1 89 (.slice A n c) n (L.map cellU) w := by
  obtain ⟨b, o, rfl, -, hc⟩ := dig_at h hn
  refine Go.Src.ofSlice _ Try.underlying89 _ n c (L.map cellU) (by rw [List.length_map, h.len, Nat.mul_one]) (fun j u hj => ?_) (fun u hu => ?_)
  · rw [add_eq]
    rw [List.getElem?_map] at hj
    cases hq : L[j]? with
    | none => rw [hq] at hj; cases hj
    | some d =>
      rw [hq] at hj
      injection hj with hj
      obtain ⟨hi, rfl⟩ := List.getElem?_eq_some_iff.1 hq
      rw [hc j hi, ← hj]; rfl
  · obtain ⟨d, -, rfl⟩ := List.mem_map.1 hu
    rfl
theorem pow_u32 {r : Nat} (h : r < 32) : IntKind.u32.wrap (2 ^ r) = ((2 ^ r : Nat) : Int) := (by decide +kernel : ∀ r < 32, IntKind.u32.wrap (2 ^ r) = ((2 ^ r : Nat) : Int)) r h
set_option maxHeartbeats 1000000 in
theorem shift_any {A : Option Addr} {n c v k : Nat} {w : World} (h : SliceOf repU w w.heap.size A n c (dig v)) (hk : k ≤ 100000) (hn : n ≤ 100000) :
    Calls Try.prog 61 #[.slice A n c, .int .i64 k] w (Num w (v * 2 ^ k)) := by
  have hln := h.len
  have hbd := h.bound
  by_cases h0 : n = 0
  · subst h0
    have hv : v = 0 := dig_nil.1 (List.eq_nil_of_length_eq_zero hln.symm)
    subst hv
    have H := Lib.hid h
    have HLN := Lib.hid hln
    clear h hln
    go_enter Try.func61, Try.ntmps61
    go_wp2_with fail
    go_ret
    refine ⟨Kept.refl _ _, A, 0, c, rfl, ?_⟩
    rw [Nat.zero_mul]; exact H.out
  have hv : v ≠ 0 := by rintro rfl; rw [dig_zero] at hln; exact h0 hln
  have hn0 : ((n : Int) == 0) = false := by simp; omega
  obtain ⟨j, hj⟩ : ∃ j, k / 32 = j := ⟨_, rfl⟩
  obtain ⟨r, hr⟩ : ∃ r, k % 32 = r := ⟨_, rfl⟩
  have hkj : k = 32 * j + r := by omega
  have q1 : Int.tdiv (k : Int) 32 = (j : Int) := by rw [Int.tdiv_eq_ediv_of_nonneg (by omega)]; omega
  have q2 : Int.tmod (k : Int) 32 = (r : Int) := by rw [Int.tmod_eq_emod_of_nonneg (by omega)]; omega
  have hr31 : r ≤ 31 := by omega
  obtain ⟨m, hm⟩ : ∃ m, 2 ^ r = m := ⟨_, rfl⟩
  have hw : IntKind.u32.wrap (2 ^ (r : Int).toNat) = (m : Int) := by rw [← hm, Int.toNat_natCast]; exact pow_u32 (by omega)
  have hw2 : IntKind.u32.wrap (2 ^ r) = (m : Int) := by rw [← hm]; exact pow_u32 (by omega)
  have hmB : m < B := by rw [← hm]; exact Nat.pow_lt_pow_right (by decide) (show r < 32 by omega)
  have hj9 : j ≤ 3125 := by omega
  have HRD := Lib.hid (fun W (hW : New w W) => (h.kept hW (Nat.le_refl _) fun _ _ h => h))
  have hres : v * B ^ j * m = v * 2 ^ k := by
    rw [← hm, hkj, Nat.pow_add, Nat.pow_mul, ← Nat.mul_assoc]
    rfl
  have hal : New w (w.alloc (.cells #[] 97)) := (Kept.refl _ _).alloc _
  have H := Lib.hid h
  have HLN := Lib.hid hln
  have HV := Lib.hid hv
  have HJ := Lib.hid hj
  have HR := Lib.hid hr
  have HKJ := Lib.hid hkj
  have HM := Lib.hid hm
  have HMB := Lib.hid hmB
  have HRES := Lib.hid hres
  clear h hln hv hj hr hkj hm hmB hres
  go_enter Try.func61, Try.ntmps61
  go_wp2_with fail
  go_loopw [5, 6] (fun s5 s6 wr => ∃ (i : Nat) (r' : Option Nat) (A' : Option Addr) (c' : Nat), i ≤ j ∧ s6 = .int .i64 i ∧ s5 = .slice A' i c' ∧ New w wr ∧ Row wr 1 r' A' i c' ((List.replicate i 0).map cellU) ∧ ∀ k, r' = some k → w.heap.size ≤ k) (fun _ s _ => (j - intOf s).toNat)
  case atStart => exact ⟨0, none, _, 0, Nat.zero_le _, rfl, rfl, hal, ⟨rfl, .inl ⟨rfl, rfl, rfl⟩⟩, fun k hk => (by cases hk)⟩
  case round =>
    obtain ⟨i, r', A', c', hi, rfl, rfl, hnr, hrow, hfar⟩ := hrel
    have hrb := hrow.bound
    by_cases hlt : i < j
    · have hlti : (i : Int) < (j : Int) := by omega
      have HNR := Lib.hid hnr
      have HROW := Lib.hid hrow
      have HFAR := Lib.hid hfar
      clear hnr hrow hfar
      go_wp2_with (at_builtin; refine wpList_append_one (cs := [.int .u32 0]) tyU rfl _ _ rfl rfl HROW.out rfl rfl rfl (by simp [Value.oneCell']) (by unfold maxLen; omega) (by omega) ?_; intro r8 A8 c8 w8 hr8 hk8 hn8)
      go_roundw
      case rel =>
        refine ⟨i + 1, r8, A8, c8, by omega, by go_num, rfl, HNR.out.step hk8 fun j hj x => by have := HFAR.out j x; omega, by rw [List.replicate_succ', List.map_append]; exact hr8, fun k hk => ?_⟩
        rcases hn8 k hk with x | x
        · exact HFAR.out k x
        · have := HNR.out.size; omega
      case measure => simp [intOf]; omega
    · obtain rfl : i = j := by omega
      have hsrc := src_of (HRD.out wr hnr) (by omega)
      have HNR := Lib.hid hnr
      have HROW := Lib.hid hrow
      have HFAR := Lib.hid hfar
      have HSRC := Lib.hid hsrc
      clear hnr hrow hfar hsrc
      go_wp2_with (at_builtin; refine wpList_append_row tyU rfl _ _ rfl rfl HROW.out rfl HSRC.out (by unfold maxLen; omega) (by omega) ?_; intro r8 A8 c8 w8 hr8 hk8 hn8)
      have hn9 : New w w8 := HNR.out.step hk8 fun j hj x => by have := HFAR.out j x; omega
      have hdg : dig (v * B ^ i) = List.replicate i 0 ++ dig v := dig_shift HV.out i
      have hsl : SliceOf repU w8 w8.heap.size A8 (i + n) c8 (dig (v * B ^ i)) := by
        refine row_read (by rw [hdg, List.map_append]; exact hr8) (by rw [hdg, List.length_append, List.length_replicate, HLN.out]) (dig_lt _)
      refine (times_any hsl HMB.out (by omega)).mono ?_
      rintro e w9 ⟨hn, A2, k2, c2, rfl, hs⟩
      rw [HRES.out] at hs
      have hn10 := hn9.trans hn
      have HN10 := Lib.hid hn10
      have HS := Lib.hid hs
      clear hn10 hs
      go_wp2_with fail
      go_ret
      exact ⟨HN10.out, A2, k2, c2, rfl, HS.out⟩
def cmpN (a b : Nat) : Int := if a < b then -1 else if b < a then 1 else 0
theorem dig_len_le {a b : Nat} (h : (dig a).length < (dig b).length) : a < b := by
  have h1 := dig_bound a
  have hb : b ≠ 0 := by rintro rfl; rw [dig_zero] at h; exact absurd h (Nat.not_lt_zero _)
  have h2 := dig_below hb
  have h3 : B ^ (dig a).length ≤ B ^ ((dig b).length - 1) := Nat.pow_le_pow_right B_pos (by omega)
  omega
theorem val_split {L : List Nat} {i : Nat} (hi : i < L.length) : val L = val (L.take i) + B ^ i * (L[i] + B * val (L.drop (i + 1))) := by
  have h1 : L = L.take i ++ (L[i] :: L.drop (i + 1)) := by rw [← List.drop_eq_getElem_cons hi, List.take_append_drop]
  have h2 := val_append (L.take i) (L[i] :: L.drop (i + 1))
  rw [← h1, List.length_take, Nat.min_eq_left (by omega)] at h2
  exact h2
theorem val_less {L M : List Nat} {i : Nat} (hL : i < L.length) (hM : i < M.length) (hl : ∀ d ∈ L, d < B) (hd : L.drop (i + 1) = M.drop (i + 1)) (h : L[i] < M[i]) : val L < val M := by
  rw [val_split hL, val_split hM, hd]
  have h1 := val_lt (l := L.take i) fun d hd => hl d (List.mem_of_mem_take hd)
  rw [List.length_take, Nat.min_eq_left (by omega)] at h1
  have h2 : B ^ i * (L[i] + 1 + B * val (M.drop (i + 1))) ≤ B ^ i * (M[i] + B * val (M.drop (i + 1))) := Nat.mul_le_mul_left _ (by omega)
  have h3 : B ^ i * (L[i] + 1 + B * val (M.drop (i + 1))) = B ^ i * (L[i] + B * val (M.drop (i + 1))) + B ^ i := by rw [show L[i] + 1 + B * val (M.drop (i + 1)) = (L[i] + B * val (M.drop (i + 1))) + 1 by omega, Nat.mul_add, Nat.mul_one]
  omega
set_option maxHeartbeats 1000000 in
theorem compare_any {A A' : Option Addr} {n c n' c' a b Bd Bd' : Nat} {w : World} (h : SliceOf repU w Bd A n c (dig a)) (h' : SliceOf repU w Bd' A' n' c' (dig b)) :
    Calls Try.prog 65 #[.slice A n c, .slice A' n' c'] w fun e w' => e = .returned (.int .i64 (cmpN a b)) ∧ New w w' := by
  have hln := h.len
  have hln' := h'.len
  have hbd := h.bound
  have hbd' := h'.bound
  rcases Nat.lt_trichotomy n n' with hlt | heq | hgt
  · have hab : a < b := dig_len_le (by omega)
    have hE : cmpN a b = -1 := by unfold cmpN; rw [if_pos hab]
    rw [hE]
    have hne : ((n : Int) != (n' : Int)) = true := by simp; omega
    have hl2 : (n : Int) < (n' : Int) := by omega
    have H := Lib.hid h
    have H' := Lib.hid h'
    have HLN := Lib.hid hln
    have HLN' := Lib.hid hln'
    have HAB := Lib.hid hab
    have HE := Lib.hid hE
    have HLT := Lib.hid hlt
    clear h h' hln hln' hab hE hlt
    go_enter Try.func65, Try.ntmps65
    go_wp2_with fail
    go_ret
    exact ⟨rfl, Kept.refl _ _⟩
  · subst heq
    have hla := dig_lt a
    have hlb := dig_lt b
    have hva := dig_val a
    have hvb := dig_val b
    generalize dig a = L at *
    generalize dig b = M at *
    have hEL : ∀ i (hL : i < L.length) (hM : i < M.length), L.drop (i + 1) = M.drop (i + 1) → L[i] < M[i] → cmpN a b = -1 := fun i hL hM hd hlt => by
      have := val_less hL hM hla hd hlt
      unfold cmpN; rw [if_pos (by omega)]
    have hEG : ∀ i (hL : i < L.length) (hM : i < M.length), L.drop (i + 1) = M.drop (i + 1) → M[i] < L[i] → cmpN a b = 1 := fun i hL hM hd hlt => by
      have := val_less hM hL hlb hd.symm hlt
      unfold cmpN; rw [if_neg (by omega), if_pos (by omega)]
    have hEE : L = M → cmpN a b = 0 := fun e => by
      have : a = b := by rw [← hva, ← hvb, e]
      unfold cmpN; rw [if_neg (by omega), if_neg (by omega)]
    have HRA := Lib.hid h
    have HRB := Lib.hid h'
    clear h h' hva hvb hla hlb
    have HLN := Lib.hid hln
    have HLN' := Lib.hid hln'
    have HEL := Lib.hid hEL
    have HEG := Lib.hid hEG
    have HEE := Lib.hid hEE
    clear hln hln' hEL hEG hEE
    go_enter Try.func65, Try.ntmps65
    go_wp2_with fail
    go_loopg [5] n (fun g s5 wr => ∃ i q : Nat, i ≤ n ∧ i ≤ g ∧ s5 = .int .i64 ((i : Int) - 1) ∧ wr = w.drewN q ∧ Hid (L.drop i = M.drop i))
    case atStart => exact ⟨n, 0, Nat.le_refl _, Nat.le_refl _, rfl, rfl, Lib.hid (by rw [List.drop_of_length_le (by rw [← HLN.out]; exact Nat.le_refl _), List.drop_of_length_le (by rw [← HLN'.out]; exact Nat.le_refl _)])⟩
    case round =>
      obtain ⟨i, q, hi, hig, rfl, rfl, hdr⟩ := hrel
      have HDR := hdr
      clear hdr
      by_cases h0 : i = 0
      · subst h0
        go_wp2_with fail
        go_ret
        exact ⟨by rw [HEE.out (by simpa using HDR.out)]; rfl, (Kept.refl _ _).drewN _⟩
      · obtain ⟨j, rfl⟩ : ∃ j, i = j + 1 := ⟨i - 1, by omega⟩
        obtain ⟨b1, o1, rfl, -, hc1⟩ := dig_at HRA.out (by omega)
        obtain ⟨b2, o2, rfl, -, hc2⟩ := dig_at HRB.out (by omega)
        have hjL : j < L.length := by have := HLN.out; omega
        have hjM : j < M.length := by have := HLN'.out; omega
        have c0 := hc1 j hjL
        have d0 := hc2 j hjM
        have hl1 := HEL.out j hjL hjM HDR.out
        have hg1 := HEG.out j hjL hjM HDR.out
        have hd1 : L[j] = M[j] → L.drop j = M.drop j := fun e => by rw [List.drop_eq_getElem_cons hjL, List.drop_eq_getElem_cons hjM, e, HDR.out]
        have hj1 : ((j + 1 : Nat) : Int) - 1 = (j : Int) := by omega
        rw [hj1]
        have hj2 : (j : Int) < (n : Int) := by omega
        generalize L[j] = x at *
        generalize M[j] = y at *
        clear hc1 hc2
        rcases Nat.lt_trichotomy x y with hxy | hxy | hxy
        · have hx2 : (x : Int) < (y : Int) := by omega
          have hE := hl1 hxy
          have HL1 := Lib.hid hl1
          have HG1 := Lib.hid hg1
          have HD1 := Lib.hid hd1
          have HE := Lib.hid hE
          clear hl1 hg1 hd1 hE
          go_wp2_with fail
          go_quiet (fail)
          go_wp2_with fail
          go_ret
          exact ⟨by rw [HE.out]; rfl, by first | exact (Kept.refl _ _).drewN _ | exact ((Kept.refl _ _).drewN _).drewN _⟩
        · subst hxy
          have hdd := hd1 rfl
          have hx3 : ¬ (x : Int) < (x : Int) := by omega
          have HL1 := Lib.hid hl1
          have HG1 := Lib.hid hg1
          have HD1 := Lib.hid hd1
          have HDD := Lib.hid hdd
          clear hl1 hg1 hd1 hdd
          go_wp2_with fail
          go_quiet (fail)
          go_wp2_with fail
          go_quiet (fail)
          go_wp2_with fail
          go_roundg j
          case measure => omega
          case rel => exact ⟨j, _, by omega, Nat.le_refl _, by go_num, rfl, HDD⟩
        · have hx2 : (y : Int) < (x : Int) := by omega
          have hx3 : ¬ (x : Int) < (y : Int) := by omega
          have hE := hg1 hxy
          have HL1 := Lib.hid hl1
          have HG1 := Lib.hid hg1
          have HD1 := Lib.hid hd1
          have HE := Lib.hid hE
          clear hl1 hg1 hd1 hE
          go_wp2_with fail
          go_quiet (fail)
          go_wp2_with fail
          go_quiet (fail)
          go_wp2_with fail
          go_ret
          exact ⟨by rw [HE.out]; rfl, by first | exact (Kept.refl _ _).drewN _ | exact ((Kept.refl _ _).drewN _).drewN _ | exact (((Kept.refl _ _).drewN _).drewN _).drewN _⟩
  · have hab : b < a := dig_len_le (by omega)
    have hE : cmpN a b = 1 := by unfold cmpN; rw [if_neg (by omega), if_pos hab]
    rw [hE]
    have hne : ((n : Int) != (n' : Int)) = true := by simp; omega
    have hl2 : ¬ (n : Int) < (n' : Int) := by omega
    have H := Lib.hid h
    have H' := Lib.hid h'
    have HLN := Lib.hid hln
    have HLN' := Lib.hid hln'
    have HAB := Lib.hid hab
    have HE := Lib.hid hE
    have HGT := Lib.hid hgt
    clear h h' hln hln' hab hE hgt
    go_enter Try.func65, Try.ntmps65
    go_wp2_with fail
    go_ret
    exact ⟨rfl, Kept.refl _ _⟩
end Go.Proofs.Ytilioiebecpknaa.Nat5

namespace Go.Proofs.Ytilioiebecpknaa.Nat5
open Go.RowKit Go.Fb Go.NatP
set_option linter.unusedVariables false
theorem take_snoc {L : List Nat} {i : Nat} (h : i < L.length) : val (L.take (i + 1)) = val (L.take i) + B ^ i * L[i] := by
  rw [List.take_succ_eq_append_getElem h, val_append, List.length_take, Nat.min_eq_left (by omega)]
  show _ + B ^ i * (L[i] + B * 0) = _
  rw [Nat.mul_zero, Nat.add_zero]
theorem take_all {L : List Nat} {i : Nat} (h : L.length ≤ i) : val (L.take i) = val L := by rw [List.take_of_length_le h]
theorem snoc_val (O : List Nat) (q : Nat) : val (O ++ [q]) = val O + B ^ O.length * q := by
  rw [val_append]
  show _ + _ * (q + B * 0) = _
  rw [Nat.mul_zero, Nat.add_zero]
theorem less_law {O L M x : Nat} {p q cy e d m : Nat} (h : O + M = L + p * cy) (hq : d + B * e = q + cy + m) : O + p * q + (M + p * m) = L + p * d + p * B * e := by
  have h1 : p * (d + B * e) = p * (q + cy + m) := by rw [hq]
  rw [Nat.mul_add, Nat.mul_add, Nat.mul_add, ← Nat.mul_assoc] at h1
  omega
set_option maxHeartbeats 2000000 in
theorem less_any {A A' : Option Addr} {n c n' c' a b : Nat} {w : World} (h : SliceOf repU w w.heap.size A n c (dig a)) (h' : SliceOf repU w w.heap.size A' n' c' (dig b)) (hab : b ≤ a) (hn : n ≤ 1000000) :
    Calls Try.prog 66 #[.slice A n c, .slice A' n' c'] w (Num w (a - b)) := by
  have hln := h.len
  have hln' := h'.len
  have hbd := h.bound
  have hbd' := h'.bound
  have hnn : n' ≤ n := by
    rw [hln, hln']
    refine Nat.le_of_not_lt fun hc => ?_
    have := dig_len_le hc
    omega
  have HR := Lib.hid (fun W (hW : New w W) => (h.kept hW (Nat.le_refl _) fun _ _ h => h))
  have HS := Lib.hid (fun W (hW : New w W) => (h'.kept hW (Nat.le_refl _) fun _ _ h => h))
  have hdl := dig_lt a
  have hdm := dig_lt b
  have hval := dig_val a
  have hvam := dig_val b
  generalize dig a = L at *
  generalize dig b = M at *
  have H := Lib.hid h
  have H' := Lib.hid h'
  have HLN := Lib.hid hln
  have HLN' := Lib.hid hln'
  have HDL := Lib.hid hdl
  have HDM := Lib.hid hdm
  have HVAL := Lib.hid hval
  have HVAM := Lib.hid hvam
  have HAB := Lib.hid hab
  clear h h' hln hln' hdl hdm hval hvam hab
  go_enter Try.func66, Try.ntmps66
  go_wp2_with fail
  have hal : New w (w.alloc (.cells #[] 97)) := (Kept.refl _ _).alloc _
  go_loopw [5, 6, 7] (fun s5 s6 s7 wr => ∃ (i : Nat) (O : List Nat) (z : Int) (cy : Nat) (r : Option Nat) (A1 : Option Addr) (c1 : Nat), i ≤ n ∧ s7 = .int .i64 i ∧ s6 = .int .i64 z ∧ s5 = .slice A1 i c1 ∧ New w wr ∧ Row wr 1 r A1 i c1 (O.map cellU) ∧ O.length = i ∧ (∀ d ∈ O, d < B) ∧ cy ≤ 1 ∧ z = -(cy : Int) ∧ Hid (val O + val (M.take i) = val (L.take i) + B ^ i * cy) ∧ ∀ k, r = some k → w.heap.size ≤ k) (fun _ _ s _ => (n - intOf s).toNat)
  case atStart => exact ⟨0, [], 0, 0, none, _, 0, Nat.zero_le _, rfl, rfl, rfl, hal, ⟨rfl, .inl ⟨rfl, rfl, rfl⟩⟩, rfl, fun d hd => (by cases hd), Nat.zero_le _, rfl, Lib.hid (by simp [val]), fun k hk => (by cases hk)⟩
  case round =>
    obtain ⟨i, O, z, cy, r, A1, c1, hi, rfl, rfl, rfl, hnr, hrow, hol, hod, hcy, hz, hv, hfar⟩ := hrel
    have HV := hv
    clear hv
    have hrb := hrow.bound
    by_cases hlt : i < n
    · obtain ⟨b1, o1, rfl, -, hc⟩ := dig_at (HR.out wr hnr) (by omega)
      have hil : i < L.length := by have := HLN.out; omega
      have c0 := hc i hil
      have hd := HDL.out _ (List.getElem_mem hil)
      have htk := take_snoc hil
      generalize L[i] = d at *
      have hd9 : d ≤ 4294967295 := by unfold B at hd; omega
      have hz1 : -1 ≤ z := by omega
      have hz2 : z ≤ 0 := by omega
      obtain ⟨u, hu⟩ : ∃ u, z + (d : Int) = u := ⟨_, rfl⟩
      have hu1 : -1 ≤ u := by omega
      have hu2 : u ≤ 4294967295 := by omega
      have huw : IntKind.i64.wrap u = u := by rw [IntKind.wrap_i64]; omega
      by_cases hm : i < n'
      · obtain ⟨b2, o2, rfl, -, hc2⟩ := dig_at (HS.out wr hnr) (by omega)
        have hil2 : i < M.length := by have := HLN'.out; omega
        have d0 := hc2 i hil2
        have hm2 := HDM.out _ (List.getElem_mem hil2)
        have htm := take_snoc hil2
        generalize M[i] = m at *
        have hm9 : m ≤ 4294967295 := by unfold B at hm2; omega
        obtain ⟨t, ht⟩ : ∃ t, u - (m : Int) = t := ⟨_, rfl⟩
        have ht1 : -4294967296 ≤ t := by omega
        have ht2 : t ≤ 4294967295 := by omega
        have htw : IntKind.i64.wrap t = t := by rw [IntKind.wrap_i64]; omega
        obtain ⟨e, he⟩ : ∃ e : Nat, (if d < cy + m then 1 else 0) = e := ⟨_, rfl⟩
        obtain ⟨q, hq⟩ : ∃ q : Nat, d + B * e - (cy + m) = q := ⟨_, rfl⟩
        have he1 : e ≤ 1 := by rw [← he]; split <;> omega
        have heq : d + B * e = q + cy + m := by
          rw [← hq]; unfold B
          by_cases hx : d < cy + m
          · rw [if_pos hx] at he; omega
          · rw [if_neg hx] at he; omega
        have hqB : q < B := by
          unfold B at *
          by_cases hx : d < cy + m
          · rw [if_pos hx] at he; omega
          · rw [if_neg hx] at he; omega
        have hqe : t % 4294967296 = (q : Int) := by unfold B at *; omega
        obtain ⟨z2, hz2e⟩ : ∃ z2 : Int, z2 = -(e : Int) := ⟨_, rfl⟩
        have hee : t / 4294967296 = z2 := by unfold B at *; omega
        have hv2 : val (O ++ [q]) + val (M.take (i + 1)) = val (L.take (i + 1)) + B ^ (i + 1) * e := by
          rw [snoc_val, hol, htk, htm, Nat.pow_succ]
          exact less_law (x := 0) HV.out heq
        have hmi : (i : Int) < (n' : Int) := by omega
        have hli : (i : Int) < (n : Int) := by omega
        have HNR := Lib.hid hnr
        have HROW := Lib.hid hrow
        have HOD := Lib.hid hod
        have HFAR := Lib.hid hfar
        have HTK := Lib.hid htk
        have HTM := Lib.hid htm
        have HE := Lib.hid he
        have HQ := Lib.hid hq
        have HEQ := Lib.hid heq
        have HQB := Lib.hid hqB
        have HD := Lib.hid hd
        have HM2 := Lib.hid hm2
        have HCY := Lib.hid hcy
        have HOL := Lib.hid hol
        have HZ := Lib.hid hz
        have HZ2E := Lib.hid hz2e
        have HV2 := Lib.hid hv2
        have HE1 := Lib.hid he1
        clear hnr hrow hod hfar htk htm he hq heq hqB hd hm2 hcy hol hz hz2e hv2 he1
        clear hc hc2
        go_wp2_with (at_builtin; refine wpList_append_one (cs := [.int .u32 (q : Nat)]) tyU rfl _ _ rfl rfl HROW.out rfl rfl rfl (by simp [Value.oneCell']) (by unfold maxLen; omega) (by omega) ?_; intro r8 A8 c8 w8 hr8 hk8 hn8)
        go_roundw
        case rel =>
          refine ⟨i + 1, O ++ [q], z2, e, r8, A8, c8, by omega, by go_num, rfl, rfl, HNR.out.step hk8 fun j hj x => by have := HFAR.out j x; omega, by rw [List.map_append]; exact hr8, by rw [List.length_append, HOL.out]; rfl, fun x hx => ?_, HE1.out, HZ2E.out, HV2, fun k hk => ?_⟩
          · rcases List.mem_append.1 hx with hx | hx
            · exact HOD.out x hx
            · rw [List.mem_singleton.1 hx]; exact HQB.out
          · rcases hn8 k hk with x | x
            · exact HFAR.out k x
            · have := HNR.out.size; omega
        case measure => simp [intOf]; omega
      · have htm : val (M.take (i + 1)) = val (M.take i) + B ^ i * 0 := by
          have := HLN'.out
          rw [take_all (by omega), take_all (by omega), Nat.mul_zero, Nat.add_zero]
        obtain ⟨e, he⟩ : ∃ e : Nat, (if d < cy + 0 then 1 else 0) = e := ⟨_, rfl⟩
        obtain ⟨q, hq⟩ : ∃ q : Nat, d + B * e - (cy + 0) = q := ⟨_, rfl⟩
        have he1 : e ≤ 1 := by rw [← he]; split <;> omega
        have heq : d + B * e = q + cy + 0 := by
          rw [← hq]; unfold B
          by_cases hx : d < cy + 0
          · rw [if_pos hx] at he; omega
          · rw [if_neg hx] at he; omega
        have hqB : q < B := by
          unfold B at *
          by_cases hx : d < cy + 0
          · rw [if_pos hx] at he; omega
          · rw [if_neg hx] at he; omega
        have hqe : u % 4294967296 = (q : Int) := by unfold B at *; omega
        obtain ⟨z2, hz2e⟩ : ∃ z2 : Int, z2 = -(e : Int) := ⟨_, rfl⟩
        have hee : u / 4294967296 = z2 := by unfold B at *; omega
        have hv2 : val (O ++ [q]) + val (M.take (i + 1)) = val (L.take (i + 1)) + B ^ (i + 1) * e := by
          rw [snoc_val, hol, htk, htm, Nat.pow_succ]
          exact less_law (x := 0) HV.out heq
        have hmi : ¬ (i : Int) < (n' : Int) := by omega
        have hli : (i : Int) < (n : Int) := by omega
        have HNR := Lib.hid hnr
        have HROW := Lib.hid hrow
        have HOD := Lib.hid hod
        have HFAR := Lib.hid hfar
        have HTK := Lib.hid htk
        have HTM := Lib.hid htm
        have HE := Lib.hid he
        have HQ := Lib.hid hq
        have HEQ := Lib.hid heq
        have HQB := Lib.hid hqB
        have HD := Lib.hid hd
        have HCY := Lib.hid hcy
        have HOL := Lib.hid hol
        have HZ := Lib.hid hz
        have HZ2E := Lib.hid hz2e
        have HV2 := Lib.hid hv2
        have HE1 := Lib.hid he1
        clear hnr hrow hod hfar htk htm he hq heq hqB hd hcy hol hz hz2e hv2 he1
        clear hc
        go_wp2_with (at_builtin; refine wpList_append_one (cs := [.int .u32 (q : Nat)]) tyU rfl _ _ rfl rfl HROW.out rfl rfl rfl (by simp [Value.oneCell']) (by unfold maxLen; omega) (by omega) ?_; intro r8 A8 c8 w8 hr8 hk8 hn8)
        go_roundw
        case rel =>
          refine ⟨i + 1, O ++ [q], z2, e, r8, A8, c8, by omega, by go_num, rfl, rfl, HNR.out.step hk8 fun j hj x => by have := HFAR.out j x; omega, by rw [List.map_append]; exact hr8, by rw [List.length_append, HOL.out]; rfl, fun x hx => ?_, HE1.out, HZ2E.out, HV2, fun k hk => ?_⟩
          · rcases List.mem_append.1 hx with hx | hx
            · exact HOD.out x hx
            · rw [List.mem_singleton.1 hx]; exact HQB.out
          · rcases hn8 k hk with x | x
            · exact HFAR.out k x
            · have := HNR.out.size; omega
        case measure => simp [intOf]; omega
    · obtain rfl : i = n := by omega
      have hvv : val O = a - b := by
        have h1 := HV.out
        have h2 := HLN.out
        have h3 := HLN'.out
        rw [take_all (by omega), take_all (by omega), HVAL.out, HVAM.out] at h1
        have h4 := val_lt hod
        rw [hol] at h4
        have h5 := HAB.out
        rcases Nat.le_one_iff_eq_zero_or_eq_one.1 hcy with h6 | h6
        · rw [h6, Nat.mul_zero] at h1; omega
        · rw [h6, Nat.mul_one] at h1; omega
      have HNR := Lib.hid hnr
      have HROW := Lib.hid hrow
      have HOD := Lib.hid hod
      have HFAR := Lib.hid hfar
      have HCY := Lib.hid hcy
      have HOL := Lib.hid hol
      have HVV := Lib.hid hvv
      have HZ := Lib.hid hz
      clear hnr hrow hod hfar hcy hol hvv hz
      go_wp2_with fail
      refine (trim_num HNR.out (row_read HROW.out HOL.out HOD.out) (Nat.le_refl _) HVV.out).mono ?_
      rintro e w9 ⟨hn, A, k, c, rfl, hs⟩
      have HN := Lib.hid hn
      have HS := Lib.hid hs
      clear hn hs
      go_wp2_with fail
      go_ret
      exact ⟨HN.out, A, k, c, rfl, HS.out⟩
end Go.Proofs.Ytilioiebecpknaa.Nat5

namespace Go.Proofs.Ytilioiebecpknaa.Nat5
open Go.RowKit Go.Fb Go.NatP
set_option linter.unusedVariables false
theorem sum_law {O L M : Nat} {p q cy e d m : Nat} (h : O + p * cy = L + M) (hq : cy + d + m = q + B * e) : O + p * q + p * B * e = L + p * d + (M + p * m) := by
  have h1 : p * (cy + d + m) = p * (q + B * e) := by rw [hq]
  rw [Nat.mul_add, Nat.mul_add, Nat.mul_add, ← Nat.mul_assoc] at h1
  omega
theorem take_more {L : List Nat} {i : Nat} (h : L.length ≤ i) : val (L.take (i + 1)) = val (L.take i) + B ^ i * 0 := by rw [take_all (by omega), take_all h, Nat.mul_zero, Nat.add_zero]
set_option maxHeartbeats 2000000 in
theorem sum_any {A A' : Option Addr} {n c n' c' a b : Nat} {w : World} (h : SliceOf repU w w.heap.size A n c (dig a)) (h' : SliceOf repU w w.heap.size A' n' c' (dig b)) (hn : n ≤ 1000000) (hn' : n' ≤ 1000000) :
    Calls Try.prog 64 #[.slice A n c, .slice A' n' c'] w (Num w (a + b)) := by
  have hln := h.len
  have hln' := h'.len
  have hbd := h.bound
  have hbd' := h'.bound
  have HR := Lib.hid (fun W (hW : New w W) => (h.kept hW (Nat.le_refl _) fun _ _ h => h))
  have HS := Lib.hid (fun W (hW : New w W) => (h'.kept hW (Nat.le_refl _) fun _ _ h => h))
  have hdl := dig_lt a
  have hdm := dig_lt b
  have hval := dig_val a
  have hvam := dig_val b
  generalize dig a = L at *
  generalize dig b = M at *
  obtain ⟨N, hN⟩ : ∃ N, max n n' = N := ⟨_, rfl⟩
  have hN1 : n ≤ N := by omega
  have hN2 : n' ≤ N := by omega
  have hN3 : N ≤ 1000000 := by omega
  have H := Lib.hid h
  have H' := Lib.hid h'
  have HLN := Lib.hid hln
  have HLN' := Lib.hid hln'
  have HDL := Lib.hid hdl
  have HDM := Lib.hid hdm
  have HVAL := Lib.hid hval
  have HVAM := Lib.hid hvam
  have HN := Lib.hid hN
  clear h h' hln hln' hdl hdm hval hvam hN
  go_enter Try.func64, Try.ntmps64
  go_wp2_with fail
  have hal : New w (w.alloc (.cells #[] 97)) := (Kept.refl _ _).alloc _
  go_loopw [5, 6, 7] (fun s5 s6 s7 wr => ∃ (i : Nat) (O : List Nat) (cy : Nat) (r : Option Nat) (A1 : Option Addr) (c1 : Nat), i ≤ N ∧ s7 = .int .i64 i ∧ s6 = .int .u64 cy ∧ s5 = .slice A1 i c1 ∧ New w wr ∧ Row wr 1 r A1 i c1 (O.map cellU) ∧ O.length = i ∧ (∀ d ∈ O, d < B) ∧ cy ≤ 1 ∧ Hid (val O + B ^ i * cy = val (L.take i) + val (M.take i)) ∧ ∀ k, r = some k → w.heap.size ≤ k) (fun _ _ s _ => (N - intOf s).toNat)
  case atStart => exact ⟨0, [], 0, none, _, 0, Nat.zero_le _, rfl, rfl, rfl, hal, ⟨rfl, .inl ⟨rfl, rfl, rfl⟩⟩, rfl, fun d hd => (by cases hd), Nat.zero_le _, Lib.hid (by simp [val]), fun k hk => (by cases hk)⟩
  case round =>
    obtain ⟨i, O, cy, r, A1, c1, hi, rfl, rfl, rfl, hnr, hrow, hol, hod, hcy, hv, hfar⟩ := hrel
    have HV := hv
    clear hv
    have hrb := hrow.bound
    by_cases hlt : i < n
    · by_cases hm : i < n'
      · have hi1 : i < N := by omega
        obtain ⟨b1, o1, rfl, -, hc⟩ := dig_at (HR.out wr hnr) (by omega)
        have hil : i < L.length := by have := HLN.out; omega
        have c0 := hc i hil
        have hd := HDL.out _ (List.getElem_mem hil)
        have htk := take_snoc hil
        generalize L[i] = d at *
        have hd9 : d ≤ 4294967295 := by unfold B at hd; omega
        obtain ⟨u, hu⟩ : ∃ u, cy + d = u := ⟨_, rfl⟩
        have hue : (cy : Int) + (d : Int) = (u : Int) := by omega
        have hu9 : u ≤ 4294967296 := by omega
        have huw : IntKind.u64.wrap (u : Int) = (u : Int) := by rw [IntKind.wrap_u64]; omega
        have hli : (i : Int) < (n : Int) := by omega
        clear hc
        obtain ⟨b2, o2, rfl, -, hc2⟩ := dig_at (HS.out wr hnr) (by omega)
        have hil2 : i < M.length := by have := HLN'.out; omega
        have d0 := hc2 i hil2
        have hm2 := HDM.out _ (List.getElem_mem hil2)
        have htm := take_snoc hil2
        generalize M[i] = m at *
        have hm9 : m ≤ 4294967295 := by unfold B at hm2; omega
        obtain ⟨t, ht⟩ : ∃ t, u + m = t := ⟨_, rfl⟩
        have hte : (u : Int) + (m : Int) = (t : Int) := by omega
        have ht9 : t ≤ 8589934591 := by omega
        have htw : IntKind.u64.wrap (t : Int) = (t : Int) := by rw [IntKind.wrap_u64]; omega
        have hmi : (i : Int) < (n' : Int) := by omega
        clear hc2
        obtain ⟨e, he⟩ : ∃ e : Nat, t / B = e := ⟨_, rfl⟩
        obtain ⟨q, hq⟩ : ∃ q : Nat, t % B = q := ⟨_, rfl⟩
        have heq : cy + d + m = q + B * e := by have := Nat.mod_add_div t B; rw [hq, he] at this; omega
        have he1 : e ≤ 1 := by rw [← he]; unfold B; omega
        have hqB : q < B := by rw [← hq]; exact Nat.mod_lt _ B_pos
        have hqe : (t : Int) % 4294967296 = (q : Int) := by rw [← hq]; unfold B; omega
        have hee : (t : Int) / 4294967296 = (e : Int) := by rw [← he]; unfold B; omega
        have hv2 : val (O ++ [q]) + B ^ (i + 1) * e = val (L.take (i + 1)) + val (M.take (i + 1)) := by
          rw [snoc_val, hol, htk, htm, Nat.pow_succ]
          exact sum_law HV.out heq
        have HNR := Lib.hid hnr
        have HROW := Lib.hid hrow
        have HOD := Lib.hid hod
        have HFAR := Lib.hid hfar
        have HTK := Lib.hid htk
        have HTM := Lib.hid htm
        have HE := Lib.hid he
        have HQ := Lib.hid hq
        have HEQ := Lib.hid heq
        have HQB := Lib.hid hqB
        have HOL := Lib.hid hol
        have HV2 := Lib.hid hv2
        have HE1 := Lib.hid he1
        clear hnr hrow hod hfar htk htm he hq heq hqB hol hv2 he1
        go_wp2_with (at_builtin; refine wpList_append_one (cs := [.int .u32 (q : Nat)]) tyU rfl _ _ rfl rfl HROW.out rfl rfl rfl (by simp [Value.oneCell']) (by unfold maxLen; omega) (by omega) ?_; intro r8 A8 c8 w8 hr8 hk8 hn8)
        go_roundw
        case rel =>
          refine ⟨i + 1, O ++ [q], e, r8, A8, c8, by omega, by go_num, rfl, rfl, HNR.out.step hk8 fun j hj x => by have := HFAR.out j x; omega, by rw [List.map_append]; exact hr8, by rw [List.length_append, HOL.out]; rfl, fun x hx => ?_, HE1.out, HV2, fun k hk => ?_⟩
          · rcases List.mem_append.1 hx with hx | hx
            · exact HOD.out x hx
            · rw [List.mem_singleton.1 hx]; exact HQB.out
          · rcases hn8 k hk with x | x
            · exact HFAR.out k x
            · have := HNR.out.size; omega
        case measure => simp [intOf]; omega
      · have hi1 : i < N := by omega
        obtain ⟨b1, o1, rfl, -, hc⟩ := dig_at (HR.out wr hnr) (by omega)
        have hil : i < L.length := by have := HLN.out; omega
        have c0 := hc i hil
        have hd := HDL.out _ (List.getElem_mem hil)
        have htk := take_snoc hil
        generalize L[i] = d at *
        have hd9 : d ≤ 4294967295 := by unfold B at hd; omega
        obtain ⟨u, hu⟩ : ∃ u, cy + d = u := ⟨_, rfl⟩
        have hue : (cy : Int) + (d : Int) = (u : Int) := by omega
        have hu9 : u ≤ 4294967296 := by omega
        have huw : IntKind.u64.wrap (u : Int) = (u : Int) := by rw [IntKind.wrap_u64]; omega
        have hli : (i : Int) < (n : Int) := by omega
        clear hc
        have htm := take_more (L := M) (i := i) (by have := HLN'.out; omega)
        have hmi : ¬ (i : Int) < (n' : Int) := by omega
        obtain ⟨e, he⟩ : ∃ e : Nat, u / B = e := ⟨_, rfl⟩
        obtain ⟨q, hq⟩ : ∃ q : Nat, u % B = q := ⟨_, rfl⟩
        have heq : cy + d + 0 = q + B * e := by have := Nat.mod_add_div u B; rw [hq, he] at this; omega
        have he1 : e ≤ 1 := by rw [← he]; unfold B; omega
        have hqB : q < B := by rw [← hq]; exact Nat.mod_lt _ B_pos
        have hqe : (u : Int) % 4294967296 = (q : Int) := by rw [← hq]; unfold B; omega
        have hee : (u : Int) / 4294967296 = (e : Int) := by rw [← he]; unfold B; omega
        have hv2 : val (O ++ [q]) + B ^ (i + 1) * e = val (L.take (i + 1)) + val (M.take (i + 1)) := by
          rw [snoc_val, hol, htk, htm, Nat.pow_succ]
          exact sum_law HV.out heq
        have HNR := Lib.hid hnr
        have HROW := Lib.hid hrow
        have HOD := Lib.hid hod
        have HFAR := Lib.hid hfar
        have HTK := Lib.hid htk
        have HTM := Lib.hid htm
        have HE := Lib.hid he
        have HQ := Lib.hid hq
        have HEQ := Lib.hid heq
        have HQB := Lib.hid hqB
        have HOL := Lib.hid hol
        have HV2 := Lib.hid hv2
        have HE1 := Lib.hid he1
        clear hnr hrow hod hfar htk htm he hq heq hqB hol hv2 he1
        go_wp2_with (at_builtin; refine wpList_append_one (cs := [.int .u32 (q : Nat)]) tyU rfl _ _ rfl rfl HROW.out rfl rfl rfl (by simp [Value.oneCell']) (by unfold maxLen; omega) (by omega) ?_; intro r8 A8 c8 w8 hr8 hk8 hn8)
        go_roundw
        case rel =>
          refine ⟨i + 1, O ++ [q], e, r8, A8, c8, by omega, by go_num, rfl, rfl, HNR.out.step hk8 fun j hj x => by have := HFAR.out j x; omega, by rw [List.map_append]; exact hr8, by rw [List.length_append, HOL.out]; rfl, fun x hx => ?_, HE1.out, HV2, fun k hk => ?_⟩
          · rcases List.mem_append.1 hx with hx | hx
            · exact HOD.out x hx
            · rw [List.mem_singleton.1 hx]; exact HQB.out
          · rcases hn8 k hk with x | x
            · exact HFAR.out k x
            · have := HNR.out.size; omega
        case measure => simp [intOf]; omega
    · by_cases hm : i < n'
      · have hi1 : i < N := by omega
        have htk := take_more (L := L) (i := i) (by have := HLN.out; omega)
        have hli : ¬ (i : Int) < (n : Int) := by omega
        obtain ⟨b2, o2, rfl, -, hc2⟩ := dig_at (HS.out wr hnr) (by omega)
        have hil2 : i < M.length := by have := HLN'.out; omega
        have d0 := hc2 i hil2
        have hm2 := HDM.out _ (List.getElem_mem hil2)
        have htm := take_snoc hil2
        generalize M[i] = m at *
        have hm9 : m ≤ 4294967295 := by unfold B at hm2; omega
        obtain ⟨t, ht⟩ : ∃ t, cy + m = t := ⟨_, rfl⟩
        have hte : (cy : Int) + (m : Int) = (t : Int) := by omega
        have ht9 : t ≤ 8589934591 := by omega
        have htw : IntKind.u64.wrap (t : Int) = (t : Int) := by rw [IntKind.wrap_u64]; omega
        have hmi : (i : Int) < (n' : Int) := by omega
        clear hc2
        obtain ⟨e, he⟩ : ∃ e : Nat, t / B = e := ⟨_, rfl⟩
        obtain ⟨q, hq⟩ : ∃ q : Nat, t % B = q := ⟨_, rfl⟩
        have heq : cy + 0 + m = q + B * e := by have := Nat.mod_add_div t B; rw [hq, he] at this; omega
        have he1 : e ≤ 1 := by rw [← he]; unfold B; omega
        have hqB : q < B := by rw [← hq]; exact Nat.mod_lt _ B_pos
        have hqe : (t : Int) % 4294967296 = (q : Int) := by rw [← hq]; unfold B; omega
        have hee : (t : Int) / 4294967296 = (e : Int) := by rw [← he]; unfold B; omega
        have hv2 : val (O ++ [q]) + B ^ (i + 1) * e = val (L.take (i + 1)) + val (M.take (i + 1)) := by
          rw [snoc_val, hol, htk, htm, Nat.pow_succ]
          exact sum_law HV.out heq
        have HNR := Lib.hid hnr
        have HROW := Lib.hid hrow
        have HOD := Lib.hid hod
        have HFAR := Lib.hid hfar
        have HTK := Lib.hid htk
        have HTM := Lib.hid htm
        have HE := Lib.hid he
        have HQ := Lib.hid hq
        have HEQ := Lib.hid heq
        have HQB := Lib.hid hqB
        have HOL := Lib.hid hol
        have HV2 := Lib.hid hv2
        have HE1 := Lib.hid he1
        clear hnr hrow hod hfar htk htm he hq heq hqB hol hv2 he1
        go_wp2_with (at_builtin; refine wpList_append_one (cs := [.int .u32 (q : Nat)]) tyU rfl _ _ rfl rfl HROW.out rfl rfl rfl (by simp [Value.oneCell']) (by unfold maxLen; omega) (by omega) ?_; intro r8 A8 c8 w8 hr8 hk8 hn8)
        go_roundw
        case rel =>
          refine ⟨i + 1, O ++ [q], e, r8, A8, c8, by omega, by go_num, rfl, rfl, HNR.out.step hk8 fun j hj x => by have := HFAR.out j x; omega, by rw [List.map_append]; exact hr8, by rw [List.length_append, HOL.out]; rfl, fun x hx => ?_, HE1.out, HV2, fun k hk => ?_⟩
          · rcases List.mem_append.1 hx with hx | hx
            · exact HOD.out x hx
            · rw [List.mem_singleton.1 hx]; exact HQB.out
          · rcases hn8 k hk with x | x
            · exact HFAR.out k x
            · have := HNR.out.size; omega
        case measure => simp [intOf]; omega
      · obtain rfl : i = N := by have := HN.out; omega
        have hcy9 : cy ≤ 1 := hcy
        have hce : (cy : Int) % 4294967296 = (cy : Int) := by omega
        have hvv : val (O ++ [cy]) = a + b := by
          have h1 := HV.out
          have h2 := HLN.out
          have h3 := HLN'.out
          rw [take_all (by omega), take_all (by omega), HVAL.out, HVAM.out] at h1
          rw [snoc_val, hol]; exact h1
        have hli : ¬ (i : Int) < (n : Int) := by omega
        have hmi : ¬ (i : Int) < (n' : Int) := by omega
        have HNR := Lib.hid hnr
        have HROW := Lib.hid hrow
        have HOD := Lib.hid hod
        have HFAR := Lib.hid hfar
        have HOL := Lib.hid hol
        have HVV := Lib.hid hvv
        clear hnr hrow hod hfar hol hvv
        go_wp2_with (at_builtin; refine wpList_append_one (cs := [.int .u32 (cy : Nat)]) tyU rfl _ _ rfl rfl HROW.out rfl rfl rfl (by simp [Value.oneCell']) (by unfold maxLen; omega) (by omega) ?_; intro r8 A8 c8 w8 hr8 hk8 hn8)
        have hr9 : Row w8 1 r8 A8 (i + 1) c8 ((O ++ [cy]).map cellU) := by rw [List.map_append]; exact hr8
        have hn9 : New w w8 := HNR.out.step hk8 fun j hj x => by have := HFAR.out j x; omega
        refine (trim_num hn9 (row_read hr9 (by rw [List.length_append, HOL.out]; rfl) fun x hx => ?_) (Nat.le_refl _) HVV.out).mono ?_
        · rcases List.mem_append.1 hx with hx | hx
          · exact HOD.out x hx
          · rw [List.mem_singleton.1 hx]; unfold B; omega
        rintro e w9 ⟨hn, A, k, c, rfl, hs⟩
        have HN := Lib.hid hn
        have HS := Lib.hid hs
        clear hn hs
        go_wp2_with fail
        go_ret
        exact ⟨HN.out, A, k, c, rfl, HS.out⟩
end Go.Proofs.Ytilioiebecpknaa.Nat5
