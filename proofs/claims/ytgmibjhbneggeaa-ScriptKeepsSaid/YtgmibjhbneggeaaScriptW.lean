/- The walks of package script (layer 16). -/
import Derived.Test.YtgmibjhbneggeaaChecked
import Derived.Test.YtgmibjhbneggeaaScriptP
import Derived.Test.YtgmibjhbneggeaaLaw
import Derived.WalkLawsBesides
import Derived.Outline
import Derived.Deep.DeepMust
namespace Go.Proofs.Ytgmibjhbneggeaa.Script
open Go.RowKit Go.Fb Go.BytesP Go.ScriptP
set_option linter.unusedVariables false

theorem ret_int {k : IntKind} {a b : Int} (h : a = b) : Ending.returned (.int k a) = .returned (.int k b) := by rw [h]

def kindB (k : Int) : Bool := decide (1 ≤ k ∧ k ≤ 3)
theorem kind_any (k : Int) (w : World) : Calls Try.prog 28 #[.int .i64 k] w fun e w' => e = .returned (.bool (kindB k)) ∧ w = w' := by
  by_cases h1 : k = 1
  · subst h1; go_enter Try.func28, Try.ntmps28; go_wp2; go_ret; exact ⟨rfl, rfl⟩
  · by_cases h2 : k = 2
    · subst h2; go_enter Try.func28, Try.ntmps28; go_wp2; go_ret; exact ⟨rfl, rfl⟩
    · by_cases h3 : k = 3
      · subst h3; go_enter Try.func28, Try.ntmps28; go_wp2; go_ret; exact ⟨rfl, rfl⟩
      · have e1 : (k == 1) = false := by simpa using h1
        have e2 : (k == 2) = false := by simpa using h2
        have e3 : (k == 3) = false := by simpa using h3
        have e : kindB k = false := by unfold kindB; simp; omega
        have E := Lib.hid e; clear e
        go_enter Try.func28, Try.ntmps28; go_wp2; go_ret; exact ⟨by rw [E.out]; rfl, rfl⟩

theorem wrong_any (s : Step) (w : World) : Calls Try.prog 18 #[.agg #[.int .i64 s.k, .int .i64 s.n, .int .i64 s.v]] w fun e w' => e = .returned (.int .i64 (wrong s)) ∧ New w w' := by
  have hk : kindB s.k = true ↔ 1 ≤ s.k ∧ s.k ≤ 3 := by unfold kindB; simp
  obtain ⟨k, n, v⟩ := s
  simp only at hk ⊢
  by_cases h1 : kindB k = true
  · have g1 := hk.1 h1
    have Hg := Lib.hid g1
    clear hk g1
    by_cases h2 : n < 0
    · have e : wrong ⟨k, n, v⟩ = 2 := by unfold wrong; simp only; have := Hg.out; rw [if_neg (by omega), if_pos (by omega)]
      have E := Lib.hid e; clear e
      go_enter Try.func18, Try.ntmps18
      go_wp2_with (go_at_call 28; refine (kind_any _ _).mono ?_; rintro e w' ⟨rfl, rfl⟩)
      go_ret
      exact ⟨by rw [E.out]; rfl, (Kept.refl _ _).alloc _⟩
    · by_cases h3 : 4294967295 < n
      · have e : wrong ⟨k, n, v⟩ = 2 := by unfold wrong; simp only; have := Hg.out; rw [if_neg (by omega), if_pos (by omega)]
        have E := Lib.hid e; clear e
        go_enter Try.func18, Try.ntmps18
        go_wp2_with (go_at_call 28; refine (kind_any _ _).mono ?_; rintro e w' ⟨rfl, rfl⟩)
        go_ret
        exact ⟨by rw [E.out]; rfl, (Kept.refl _ _).alloc _⟩
      · by_cases h4 : v = 0
        · have h4' : (v != 0) = false := by simpa using h4
          have e : wrong ⟨k, n, v⟩ = 0 := by unfold wrong; simp only; have := Hg.out; rw [if_neg (by omega), if_neg (by omega), if_neg (by omega)]
          have E := Lib.hid e; clear e h4
          go_enter Try.func18, Try.ntmps18
          go_wp2_with (go_at_call 28; refine (kind_any _ _).mono ?_; rintro e w' ⟨rfl, rfl⟩)
          go_ret
          exact ⟨by rw [E.out]; rfl, (Kept.refl _ _).alloc _⟩
        · have h4' : (v != 0) = true := by simpa using h4
          by_cases h5 : k = 2
          · have h5' : (k != 2) = false := by simpa using h5
            have e : wrong ⟨k, n, v⟩ = 0 := by unfold wrong; simp only; have := Hg.out; rw [if_neg (by omega), if_neg (by omega), if_neg (by omega)]
            have E := Lib.hid e; clear e h4 h5
            go_enter Try.func18, Try.ntmps18
            go_wp2_with (go_at_call 28; refine (kind_any _ _).mono ?_; rintro e w' ⟨rfl, rfl⟩)
            go_ret
            exact ⟨by rw [E.out]; rfl, (Kept.refl _ _).alloc _⟩
          · have h5' : (k != 2) = true := by simpa using h5
            have e : wrong ⟨k, n, v⟩ = 11 := by unfold wrong; simp only; have := Hg.out; rw [if_neg (by omega), if_neg (by omega), if_pos (by omega)]
            have E := Lib.hid e; clear e h4 h5
            go_enter Try.func18, Try.ntmps18
            go_wp2_with (go_at_call 28; refine (kind_any _ _).mono ?_; rintro e w' ⟨rfl, rfl⟩)
            go_ret
            exact ⟨by rw [E.out]; rfl, (Kept.refl _ _).alloc _⟩
  · have h1' : kindB k = false := by simpa using h1
    have hnot : ¬ (1 ≤ k ∧ k ≤ 3) := fun h => h1 (hk.2 h)
    have e : wrong ⟨k, n, v⟩ = 1 := by unfold wrong; simp only; rw [if_pos (by omega)]
    have E := Lib.hid e; clear e h1 hk hnot
    go_enter Try.func18, Try.ntmps18
    go_wp2_with (go_at_call 28; refine (kind_any _ _).mono ?_; rintro e w' ⟨rfl, rfl⟩)
    go_ret
    exact ⟨by rw [E.out]; rfl, (Kept.refl _ _).alloc _⟩
/-- How a step of a script lies. -/
def repStep : Rep Step := ((Rep.int .i64).pair ((Rep.int .i64).pair ((Rep.int .i64).pair Rep.unit))).via fun s => (s.k, s.n, s.v, ())
theorem repStep_cells {w : World} {B : Nat} {s : Step} {cs : List Value} (h : repStep.cells w B s cs) : cs = [.int .i64 s.k, .int .i64 s.n, .int .i64 s.v] ∧ -9223372036854775808 ≤ s.v ∧ s.v ≤ 9223372036854775807 := by
  obtain ⟨_, _, rfl, ⟨rfl, _⟩, _, _, rfl, ⟨rfl, _⟩, _, _, rfl, ⟨rfl, hv⟩, rfl⟩ := h
  exact ⟨rfl, bounds_i64 hv⟩
theorem steps_at {w : World} {B : Nat} {A : Option Addr} {n c : Nat} {l : List Step} (h : SliceOf repStep w B A n c l) (hn : 0 < n) :
    ∃ b o, A = some ⟨b, o, none⟩ ∧ b < B ∧ ∀ i (h : i < l.length), w.cell? ⟨b, o + i * 3, none⟩ = some (.int .i64 l[i].k) ∧ w.cell? ⟨b, o + i * 3 + 1, none⟩ = some (.int .i64 l[i].n) ∧ w.cell? ⟨b, o + i * 3 + 2, none⟩ = some (.int .i64 l[i].v) := by
  obtain ⟨b, o, e, hb, hc⟩ := h.get hn
  refine ⟨b, o, e, hb, fun i hi => ?_⟩
  obtain ⟨es, g1, g2⟩ := hc i hi
  obtain ⟨rfl, _⟩ := repStep_cells g2
  exact ⟨g1 0 (by decide), g1 1 (by decide), g1 2 (by decide)⟩
theorem steps_inV {w : World} {B : Nat} {A : Option Addr} {n c : Nat} {l : List Step} (h : SliceOf repStep w B A n c l) : InV l := by
  intro s hs
  obtain ⟨i, hi, rfl⟩ := List.mem_iff_getElem.1 hs
  obtain ⟨b, o, _, _, hc⟩ := h.get (by have := h.len; omega)
  obtain ⟨es, _, g2⟩ := hc i hi
  exact (repStep_cells g2).2
theorem may_walk (A : Option Addr) (n c : Nat) (l : List Step) (w : World) (hl : SliceOf repStep w w.heap.size A n c l) : Calls Try.prog 9 #[.slice A n c] w fun e w' => e = .returned (.tuple #[.int .i64 (may l).1, .int .i64 (may l).2]) ∧ New w w' := by
  have hn := hl.len
  have hb := hl.bound
  have HL := Lib.hid hl
  have HN := Lib.hid hn
  clear hl hn
  by_cases h0 : 1024 < n
  · have e : may l = (3, 1024) := by unfold may; rw [if_pos (by have := HN.out; omega)]
    have E := Lib.hid e; clear e
    go_enter Try.func9, Try.ntmps9
    go_wp2
    go_ret2
    exact ⟨by rw [E.out]; rfl, Kept.refl _ _⟩
  · go_enter Try.func9, Try.ntmps9
    go_wp2
    go_loopw [12] (fun i wr => ∃ k : Nat, k ≤ n ∧ i = .int .i64 k ∧ may l = mayFrom k (l.drop k) ∧ New w wr) (fun i _ => (n - intOf i).toNat)
    case atStart => exact ⟨0, by omega, rfl, by unfold may; rw [if_neg (by have := HN.out; omega)]; rfl, Kept.refl _ _⟩
    case round =>
      obtain ⟨k, hk, rfl, hm, hnew⟩ := hrel
      have HM := Lib.hid hm
      have HW := Lib.hid hnew
      clear hm hnew
      by_cases hlt : k < n
      · obtain ⟨b, o, rfl, hb', hc⟩ := steps_at (HL.out.below HW.out.below) (by omega)
        have hkl : k < l.length := by have := HN.out; omega
        obtain ⟨c0, c1, c2⟩ := hc k hkl
        have hd : l.drop k = l[k] :: l.drop (k + 1) := List.drop_eq_getElem_cons hkl
        have HD := Lib.hid hd
        clear hc hd
        by_cases hw0 : wrong l[k] = 0
        · have hw0' : (wrong l[k] != 0) = false := by simpa using hw0
          have HW0 := Lib.hid hw0
          clear hw0
          go_wp2_with (go_at_call 18; refine (wrong_any _ _).mono ?_; rintro e w1 ⟨rfl, hw1⟩)
          go_roundw
          case rel => exact ⟨k + 1, by omega, by go_num, by rw [HM.out, HD.out, mayFrom, if_pos HW0.out], (HW.out.alloc _).trans hw1⟩
          case measure => simp [intOf]; omega
        · have hw0' : (wrong l[k] != 0) = true := by simpa using hw0
          have HW0 := Lib.hid hw0
          clear hw0
          go_wp2_with (go_at_call 18; refine (wrong_any _ _).mono ?_; rintro e w1 ⟨rfl, hw1⟩)
          go_ret2
          exact ⟨by rw [HM.out, HD.out, mayFrom, if_neg HW0.out]; rfl, (HW.out.alloc _).trans hw1⟩
      · obtain rfl : k = n := by omega
        go_wp2
        go_ret2
        exact ⟨by rw [HM.out, List.drop_of_length_le (by have := HN.out; omega)]; rfl, HW.out⟩
/-! ### lay -/
theorem tyBytes : SliceTy Try.prog 27 5 1 1 := by
  obtain ⟨i, hi, hz, hs, hb⟩ := info_parts (P := Try.prog) (e := 5) (z := .int .u8 0) (size := 1) (bytes := 1) (by kernel_rfl)
  exact ⟨Try.underlying27, ⟨i, _, hi, hz, hs, hb, rfl⟩, by decide⟩
/-- The array of eight bytes behind k rounds. -/
def laid (n : Int) (k : Nat) : Array Value := ((le n k ++ List.replicate (8 - k) 0).map bv).toArray
theorem laid_size (n : Int) (k : Nat) (hk : k ≤ 8) : (laid n k).size = 8 := by simp [laid, length_le]; omega
theorem laid_get (n : Int) (k : Nat) (hk : k < 8) : (laid n k)[k]? = some (.int .u8 0) := by
  obtain ⟨m, hm⟩ : ∃ m, 8 - k = m + 1 := ⟨7 - k, by omega⟩
  simp only [laid, List.getElem?_toArray, List.getElem?_map]
  rw [List.getElem?_append_right (by rw [length_le]; omega), length_le, hm]
  simp [bv]
theorem laid_set (n : Int) (k : Nat) (hk : k < 8) {u : Int} (hu : u = (n / 2 ^ (8 * k)) % 256) : (laid n k).setIfInBounds k (.int .u8 u) = laid n (k + 1) := by
  obtain ⟨m, hm⟩ : ∃ m, 8 - k = m + 1 := ⟨7 - k, by omega⟩
  simp only [laid, List.setIfInBounds_toArray, hm]
  rw [show 8 - (k + 1) = m by omega, le_snoc, List.map_append, List.set_append, if_neg (by simp [length_le])]
  simp only [List.length_map, length_le, Nat.sub_self, List.replicate_succ, List.map_cons, List.set_cons_zero, List.map_append, List.append_assoc, List.cons_append, List.nil_append]
  congr 3
  rw [hu, ← byte_shift]; rfl
theorem lay_walk (B : Nat) (v : Value) (n : Int) (m : Nat) (l : List UInt8) (w : World) (hv : Src 5 w B v l) (hB : B ≤ w.heap.size) (h0 : 0 ≤ n) (h1 : n ≤ 18446744073709551615) (hm0 : 0 < m) (hm : m ≤ 8) (hlen : l.length ≤ 1048576) :
    Calls Try.prog 20 #[v, .int .u64 n, .int .i64 m] w fun e w' => ∃ g c, e = .returned (.slice (some ⟨g, 0, none⟩) (l.length + m) c) ∧ OwnB 5 w' B (.slice (some ⟨g, 0, none⟩) (l.length + m) c) (l ++ le n m) ∧ Kept (fun k => v.ownBlock = some k) w w' ∧ (v.ownBlock = some g ∨ w.heap.size ≤ g) := by
  go_enter Try.func20, Try.ntmps20
  go_wp2
  go_loopw [9] (fun i wr => ∃ k : Nat, k ≤ 8 ∧ i = .int .i64 k ∧ Blk wr w.heap.size 59 (laid n k) ∧ New w wr) (fun i _ => (8 - intOf i).toNat)
  case atStart => exact ⟨0, by omega, rfl, Blk.made _ _ _, (Kept.refl _ _).alloc _⟩
  case round =>
    obtain ⟨k, hk, rfl, hblk, hnew⟩ := hrel
    have HB := Lib.hid hblk
    have HN := Lib.hid hnew
    clear hblk hnew
    by_cases hlt : k < 8
    · have hc : wr.cell? ⟨w.heap.size, k, none⟩ = some (.int .u8 0) := by rw [HB.out.cell, laid_get n k hlt]
      have hf : wr.frozen? ⟨w.heap.size, k, none⟩ = false := HB.out.free k
      go_wp2
      go_roundw
      case rel => exact ⟨k + 1, by omega, by go_num, by rw [← laid_set n k hlt rfl]; exact HB.out.set _, HN.out.setCell (.inl (Nat.le_refl _)) _⟩
      case measure => simp [intOf]; omega
    · obtain rfl : k = 8 := by omega
      have hown : Src 5 wr B v l := hv.kept HN.out
      have HO := Lib.hid hown
      have hsz := HN.out.size
      have hnews : ∀ j u, ((le n m).map bv)[j]? = some u → wr.cell? ((⟨w.heap.size, 0, none⟩ : Addr).add j) = some u := by
        intro j u hu
        rw [add_eq, Nat.zero_add, HB.out.cell, laid, ← hu, List.getElem?_toArray]
        have hj : j < m := by
          rcases Nat.lt_or_ge j m with h | h
          · exact h
          · rw [List.getElem?_eq_none (by simpa [length_le] using h)] at hu; cases hu
        rw [Nat.sub_self, List.replicate_zero, List.append_nil, ← le_take m 8 n hm, List.map_take, List.getElem?_take, if_pos hj]
      have HS := Lib.hid hnews
      have hsl := fun W => run_sliceAt_head (P := Try.prog) 59 5 8 1 ⟨w.heap.size, 0, none⟩ m Try.underlying59 (fun W => by kernel_rfl) hm W
      clear hown hnews
      have C := Lib.hid (show (le n m).length = m ∧ l.length + m ≤ 140737488355328 ∧ B ≤ wr.heap.size from ⟨length_le _ _, by omega, by omega⟩)
      go_wp2_with (at_builtin; refine wpList_bytes tyBytes rfl _ _ rfl B rfl HO.out ⟨w.heap.size, 0, none⟩ m 8 (le n m) rfl C.out.1 HS.out hm0 C.out.2.1 C.out.2.2 ?_; intro g cap w' hown' hkept hlain)
      go_ret
      exact ⟨g, cap, rfl, hown', (HN.out.mono (fun _ _ h => h.elim)).trans hkept, by
        rcases hlain with h | h
        · exact .inl h
        · exact .inr (by omega)⟩
end Go.Proofs.Ytgmibjhbneggeaa.Script
