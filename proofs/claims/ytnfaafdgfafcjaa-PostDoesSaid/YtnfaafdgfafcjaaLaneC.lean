/- The walks of slices.Clone at values and at waiters; of package lane's State (layer 9). -/
import Derived.Test.YtnfaafdgfafcjaaLaneOa
import Derived.Deep.RegionHeld3
namespace Go.Proofs.Ytnfaafdgfafcjaa.Lane
open Go.RowKit Go.Fb
set_option linter.unusedVariables false
/-- A number of 64 bits, of whatever size. -/
def repV : Rep Int where
  size := 1
  cells _ _ x cs := cs = [.int .i64 x]
  length h := by rw [h]; rfl
  stays _ h := h
  more _ h := h
theorem to_rep {α : Type} {R S : Rep α} (hs : R.size = S.size) (hc : ∀ {w : World} {B : Nat} {x : α} {cs : List Value}, R.cells w B x cs → S.cells w B x cs) {w : World} {B : Nat} {A : Option Addr} {n c : Nat} {l : List α} (h : SliceOf R w B A n c l) : SliceOf S w B A n c l := by
  obtain ⟨h1, h2, h3, h4⟩ := h
  refine ⟨h1, h2, h3, h4.imp id fun ⟨b, o, e, hb, hc'⟩ => ⟨b, o, e, hb, fun i hi => ?_⟩⟩
  obtain ⟨es, g1, g2⟩ := hc' i hi
  exact ⟨es, by rw [← hs]; exact g1, hc g2⟩
theorem map_flat (l : List Int) : l.map (Value.int .i64) = l.flatMap fun x => [Value.int .i64 x] := by induction l <;> simp_all [List.flatMap_cons]
theorem vals_read {w : World} {r : Option Nat} {A : Option Addr} {n c : Nat} {l : List Int} (h : Row w 1 r A n c (l.map (Value.int .i64))) (hl : l.length = n) : SliceOf repV w w.heap.size A n c l := by
  rw [map_flat] at h
  exact h.slice (R := repV) (by decide) hl fun x _ => rfl
theorem vals_src {w : World} {B : Nat} {A : Option Addr} {n c : Nat} {l : List Int} (h : SliceOf repV w B A n c l) : Go.Src Try.prog 1 26 (.slice A n c) n (l.map (Value.int .i64)) w := by
  rw [map_flat]
  exact SliceOf.src (R := repV) (f := fun x => [Value.int .i64 x]) (fun h => h) (by intro x u hu; rw [List.mem_singleton.1 hu]; rfl) (P := Try.prog) Try.underlying26 h
theorem waits_src {w : World} {B : Nat} {A : Option Addr} {n c : Nat} {l : List (Int × Int)} (h : SliceOf repW w B A n c l) : Go.Src Try.prog 2 27 (.slice A n c) n (l.flatMap cellsW) w :=
  SliceOf.src (R := repW) (f := cellsW) (fun h => h) (by intro x u hu; simp only [cellsW, List.mem_cons, List.not_mem_nil, or_false] at hu; rcases hu with rfl | rfl <;> rfl) (P := Try.prog) Try.underlying27 h
theorem nil_of {α : Type} {R : Rep α} {w : World} {B n c : Nat} {l : List α} (h : SliceOf R w B none n c l) : n = 0 ∧ l = [] := by
  have h1 := h.len
  rcases h.2.2.2 with h2 | ⟨b, o, e, _⟩
  · exact ⟨h2, List.eq_nil_of_length_eq_zero (by omega)⟩
  · cases e
theorem clone_vals {w : World} {B : Nat} {A : Option Addr} {n c : Nat} {l : List Int} (h : SliceOf repV w B A n c l) (hB : B ≤ w.heap.size) (hn : n ≤ 8000000000000) :
    Calls Try.prog 44 #[.slice A n c] w fun e w' => ∃ r' A' c', e = .returned (.slice A' n c') ∧ Row w' 1 r' A' n c' (l.map (Value.int .i64)) ∧ (∀ k, r' = some k → w.heap.size ≤ k) ∧ New w w' := by
  cases A with
  | none =>
    obtain ⟨rfl, rfl⟩ := nil_of h
    have hq := fun (w : World) => Lib.run_eql_slice_nil (P := Try.prog) w 26 2 none 0 c 0 0 Try.underlying26
    clear h
    go_enter Try.func44, Try.ntmps44
    go_wp2
    go_ret
    exact ⟨none, none, 0, rfl, Row.nil _ _, by simp, Kept.refl _ _⟩
  | some ad =>
    have hbd := h.bound
    have hsrc := vals_src (h.kept ((Kept.refl (fun _ => False) w).alloc (.cells #[] 2)) hB fun _ _ h => h)
    have hq := fun (w : World) => Lib.run_eql_slice_nil (P := Try.prog) w 26 2 (some ad) n c 0 0 Try.underlying26
    have hrow0 : Row (w.alloc (.cells #[] 2)) 1 none (some ⟨w.heap.size, 0, none⟩) 0 0 [] := ⟨rfl, .inl ⟨rfl, rfl, rfl⟩⟩
    have H := Lib.hid h
    have HSRC := Lib.hid hsrc
    have HROW0 := Lib.hid hrow0
    clear h hsrc hrow0
    go_enter Try.func44, Try.ntmps44
    go_wp2_with (at_builtin; refine wpList_append_row tyVals rfl (.tmp 5) (.tmp 6) rfl rfl HROW0.out rfl HSRC.out (by unfold maxLen; omega) (by omega) ?_; intro r2 A2 c2 w2 hr2 hk2 hn2; rw [Nat.zero_add, List.nil_append] at hr2; have HR2 := Lib.hid hr2; have HK2 := Lib.hid hk2; have HN2 := Lib.hid hn2; clear hr2 hk2 hn2)
    go_ret
    refine ⟨r2, A2, c2, by simp [Array.getD], HR2.out, fun k hk => ?_, ((Kept.refl _ _).alloc _).step HK2.out fun i hi e => by cases e⟩
    rcases HN2.out k hk with h | h
    · cases h
    · rw [← size1] at h; omega
theorem clone_waits {w : World} {B : Nat} {A : Option Addr} {n c : Nat} {l : List (Int × Int)} (h : SliceOf repW w B A n c l) (hB : B ≤ w.heap.size) (hn : n ≤ 8000000000000) :
    Calls Try.prog 45 #[.slice A n c] w fun e w' => ∃ r' A' c', e = .returned (.slice A' n c') ∧ Row w' 2 r' A' n c' (l.flatMap cellsW) ∧ (∀ k, r' = some k → w.heap.size ≤ k) ∧ New w w' := by
  cases A with
  | none =>
    obtain ⟨rfl, rfl⟩ := nil_of h
    have hq := fun (w : World) => Lib.run_eql_slice_nil (P := Try.prog) w 27 36 none 0 c 0 0 Try.underlying27
    clear h
    go_enter Try.func45, Try.ntmps45
    go_wp2
    go_ret
    exact ⟨none, none, 0, rfl, Row.nil _ _, by simp, Kept.refl _ _⟩
  | some ad =>
    have hbd := h.bound
    have hsrc := waits_src (h.kept ((Kept.refl (fun _ => False) w).alloc (.cells #[] 36)) hB fun _ _ h => h)
    have hq := fun (w : World) => Lib.run_eql_slice_nil (P := Try.prog) w 27 36 (some ad) n c 0 0 Try.underlying27
    have hrow0 : Row (w.alloc (.cells #[] 36)) 2 none (some ⟨w.heap.size, 0, none⟩) 0 0 [] := ⟨rfl, .inl ⟨rfl, rfl, rfl⟩⟩
    have H := Lib.hid h
    have HSRC := Lib.hid hsrc
    have HROW0 := Lib.hid hrow0
    clear h hsrc hrow0
    go_enter Try.func45, Try.ntmps45
    go_wp2_with (at_builtin; refine wpList_append_row tyWaits rfl (.tmp 5) (.tmp 6) rfl rfl HROW0.out rfl HSRC.out (by unfold maxLen; omega) (by omega) ?_; intro r2 A2 c2 w2 hr2 hk2 hn2; rw [Nat.zero_add, List.nil_append] at hr2; have HR2 := Lib.hid hr2; have HK2 := Lib.hid hk2; have HN2 := Lib.hid hn2; clear hr2 hk2 hn2)
    go_ret
    refine ⟨r2, A2, c2, by simp [Array.getD], HR2.out, fun k hk => ?_, ((Kept.refl _ _).alloc _).step HK2.out fun i hi e => by cases e⟩
    rcases HN2.out k hk with h | h
    · cases h
    · rw [← size1] at h; omega
/-- How a lane stands, as it is told: in memory that is new since B. -/
structure Told (B : Nat) (w : World) (rv : Option Nat) (Av : Option Addr) (cv : Nat) (rw : Option Nat) (Aw : Option Addr) (cw : Nat) (L : Lane) : Prop where
  vals : Row w 1 rv Av L.vals.length cv (L.vals.map (Value.int .i64))
  waits : Row w 2 rw Aw L.waits.length cw (L.waits.flatMap cellsW)
  fv : ∀ k, rv = some k → B ≤ k
  fw : ∀ k, rw = some k → B ≤ k
  d : ∀ k, rv = some k → rw ≠ some k
def stC (L : Lane) (Av : Option Addr) (cv : Nat) (Aw : Option Addr) (cw : Nat) : Value := .agg #[.slice Av L.vals.length cv, .slice Aw L.waits.length cw, .int .i64 L.taken, .int .i64 L.dropped]
theorem kept4 {w1 W : World} {B : Nat} (hk : New w1 W) (v0 v1 v2 v3 : Value) : Kept (fun k => k = B) w1 ((((W.setCell ⟨B, 0, none⟩ v0).setCell ⟨B, 1, none⟩ v1).setCell ⟨B, 2, none⟩ v2).setCell ⟨B, 3, none⟩ v3) := by
  have h0 : Kept (fun k => k = B) w1 W := hk.mono fun _ _ h => h.elim
  have h1 := h0.setCell (p := ⟨B, 0, none⟩) (.inr rfl) v0
  have h2 := h1.setCell (p := ⟨B, 1, none⟩) (.inr rfl) v1
  have h3 := h2.setCell (p := ⟨B, 2, none⟩) (.inr rfl) v2
  exact h3.setCell (p := ⟨B, 3, none⟩) (.inr rfl) v3
section
variable {w : World} {b : Nat} {F : Nat → Prop} {L : Lane}
set_option maxHeartbeats 1000000 in
theorem state_any (h : At w b F L) (hlv : L.vals.length ≤ 8000000000000) (hlw : L.waits.length ≤ 8000000000000) : Calls Try.prog 28 #[.pointer (some ⟨b, 0, none⟩)] w fun e w' => ∃ rv Av cv rw Aw cw, e = .returned (stC L Av cv Aw cw) ∧ Told w.heap.size w' rv Av cv rw Aw cw L ∧ New w w' := by
  have hz := Blk.made w 29 #[.slice none 0 0, .slice none 0 0, .int .i64 0, .int .i64 0]
  have hn0 : New w (w.alloc (.cells #[.slice none 0 0, .slice none 0 0, .int .i64 0, .int .i64 0] 29)) := (Kept.refl _ _).alloc _
  have hbl := h.lt b h.fb
  have h0 := h
  obtain ⟨⟨rv, Av, cv, rw, Aw, cw, hp, h1, h2⟩, h3, h4⟩ := h0
  have hp := hp.kept hn0 id (fun _ _ h => h) (fun _ _ h => h)
  have hs0 := size1 w (.cells #[.slice none 0 0, .slice none 0 0, .int .i64 0, .int .i64 0] 29)
  have hrv : ∀ k, rv = some k → ¬ k = w.heap.size := fun k e => by have := h4 k (h1 k e); omega
  have hrw : ∀ k, rw = some k → ¬ k = w.heap.size := fun k e => by have := h4 k (h2 k e); omega
  have hbB : ¬ b = w.heap.size := by omega
  have HW := Lib.hid hn0
  have HZ := Lib.hid hz
  have HSZ := Lib.hid hs0
  clear h hz hn0 h1 h2 h3 h4 hbl hs0
  go_enter Try.func28, Try.ntmps28
  go_upto_region 1 with (fail)
  generalize w.alloc (.cells #[.slice none 0 0, .slice none 0 0, .int .i64 0, .int .i64 0] 29) = w1 at *
  obtain ⟨c0, c1, c2, c3, c4⟩ := hp.cells
  obtain ⟨B, hB⟩ : ∃ B, B = w.heap.size := ⟨_, rfl⟩
  rw [← hB] at HZ HSZ hbB hrv hrw ⊢
  have HK : Hid (∀ W, Kept (fun k => k = B) w1 W → Parts W b L rv Av cv rw Aw cw) := Lib.hid fun W hk => hp.kept hk hbB hrv hrw
  have HS0 := Lib.hid (show ∀ W, Kept (fun k => k = B) w1 W → (W.cell? ⟨b, 1, none⟩ = some (.slice Av L.vals.length cv) ∧ W.cell? ⟨b, 2, none⟩ = some (.slice Aw L.waits.length cw) ∧ W.cell? ⟨b, 3, none⟩ = some (.int .i64 L.taken) ∧ W.cell? ⟨b, 4, none⟩ = some (.int .i64 L.dropped)) from fun W hk => by
    obtain ⟨d0, d1, d2, d3, d4⟩ := (HK.out W hk).cells
    exact ⟨d1, d2, d3, d4⟩)
  have HS := Lib.hid (fun W (hk : New w1 W) => HS0.out W (hk.mono fun _ _ h => h.elim))
  have HSB := Lib.hid (fun W v0 v1 v2 v3 (hk : New w1 W) => HS0.out ((((W.setCell ⟨B, 0, none⟩ v0).setCell ⟨B, 1, none⟩ v1).setCell ⟨B, 2, none⟩ v2).setCell ⟨B, 3, none⟩ v3) (kept4 hk v0 v1 v2 v3))
  have HCV := Lib.hid (fun W (hk : New w1 W) => (clone_vals (w := W) (vals_read (HK.out W (hk.mono fun _ _ h => h.elim)).vals rfl) (Nat.le_refl _) hlv).mono fun e w' ⟨r', A', c', e1, e2, e3, e4⟩ => (⟨r', A', c', e1, Lib.hid (show Row w' 1 r' A' L.vals.length c' (L.vals.map (Value.int .i64)) ∧ (∀ k, r' = some k → W.heap.size ≤ k) ∧ New W w' from ⟨e2, e3, e4⟩), hk.trans e4⟩ : ∃ r' A' c', e = Ending.returned (.slice A' L.vals.length c') ∧ Hid (Row w' 1 r' A' L.vals.length c' (L.vals.map (Value.int .i64)) ∧ (∀ k, r' = some k → W.heap.size ≤ k) ∧ New W w') ∧ New w1 w'))
  have HCW := Lib.hid (fun W (hk : New w1 W) => (clone_waits (w := W) (waits_read (HK.out W (hk.mono fun _ _ h => h.elim)).waits rfl) (Nat.le_refl _) hlw).mono fun e w' ⟨r', A', c', e1, e2, e3, e4⟩ => (⟨r', A', c', e1, Lib.hid (show Row w' 2 r' A' L.waits.length c' (L.waits.flatMap cellsW) ∧ (∀ k, r' = some k → W.heap.size ≤ k) ∧ New W w' from ⟨e2, e3, e4⟩), hk.trans e4⟩ : ∃ r' A' c', e = Ending.returned (.slice A' L.waits.length c') ∧ Hid (Row w' 2 r' A' L.waits.length c' (L.waits.flatMap cellsW) ∧ (∀ k, r' = some k → W.heap.size ≤ k) ∧ New W w') ∧ New w1 w'))
  have HZW : Hid (∀ W, New w1 W → (W.cell? ⟨B, 0, none⟩ = some (.slice none 0 0) ∧ W.cell? ⟨B, 1, none⟩ = some (.slice none 0 0) ∧ W.cell? ⟨B, 2, none⟩ = some (.int .i64 0) ∧ W.cell? ⟨B, 3, none⟩ = some (.int .i64 0)) ∧ ∀ i, W.frozen? ⟨B, i, none⟩ = false) := Lib.hid fun W hk => by
    have hz := HZ.out.kept hk id
    exact ⟨⟨hz.cell 0, hz.cell 1, hz.cell 2, hz.cell 3⟩, hz.free⟩
  have b1 := hp.vals.bound
  have b2 := hp.waits.bound
  obtain ⟨nv, hnv⟩ : ∃ n, n = L.vals.length := ⟨_, rfl⟩
  obtain ⟨nw, hnw⟩ : ∃ n, n = L.waits.length := ⟨_, rfl⟩
  rw [← hnv] at c1 b1 hlv
  rw [← hnw] at c2 b2 hlw
  simp only [← hnv, ← hnw] at HS HSB HCV HCW
  clear HS0
  have HNV := Lib.hid hnv
  have HNW := Lib.hid hnw
  have HB := Lib.hid hB
  have HRV := Lib.hid hrv
  have HRW := Lib.hid hrw
  clear hnv hnw hB hrv hrw
  clear hp
  go_region_held3 (fun W => W.cell? ⟨b, 1, none⟩ = some (.slice Av nv cv) ∧ W.cell? ⟨b, 2, none⟩ = some (.slice Aw nw cw) ∧ W.cell? ⟨b, 3, none⟩ = some (.int .i64 L.taken) ∧ W.cell? ⟨b, 4, none⟩ = some (.int .i64 L.dropped)) (first | ((with_reducible refine HSB.out _ _ _ _ _ ?_); with_reducible assumption) | ((with_reducible refine HS.out _ ?_); with_reducible assumption) | (with_reducible exact HS.out _ (Kept.refl _ _).drew)) (first | (go_at_call 44; refine (HCV.out _ (by first | assumption | exact (Kept.refl _ _).drew)).mono ?_; rintro e w5 ⟨r5, A5, c5, rfl, X5, hw5⟩; obtain ⟨⟨y0, y1, y2, y3⟩, yf⟩ := HZW.out w5 hw5) | (go_at_call 45; refine (HCW.out _ (by first | assumption | exact (Kept.refl _ _).drew)).mono ?_; rintro e w6 ⟨r6, A6, c6, rfl, X6, hw6⟩; obtain ⟨⟨y0, y1, y2, y3⟩, yf⟩ := HZW.out w6 hw6))
  obtain ⟨q1, q2, q3⟩ := X5.out
  obtain ⟨q4, q5, q6⟩ := X6.out
  go_wp2_with fail
  have hb7 := ((((HZ.out.kept hw6 id).set (i := 0) (.slice A5 nv c5)).set (i := 1) (.slice A6 nw c6)).set (i := 2) (.int .i64 L.taken)).set (i := 3) (.int .i64 L.dropped)
  have hk7 := kept4 (B := B) (Kept.refl (fun _ => False) w6) (.slice A5 nv c5) (.slice A6 nw c6) (.int .i64 L.taken) (.int .i64 L.dropped)
  generalize (((w6.setCell ⟨B, 0, none⟩ (.slice A5 nv c5)).setCell ⟨B, 1, none⟩ (.slice A6 nw c6)).setCell ⟨B, 2, none⟩ (.int .i64 L.taken)).setCell ⟨B, 3, none⟩ (.int .i64 L.dropped) = w7 at *
  have z0 := hb7.cell 0
  have z1 := hb7.cell 1
  have z2 := hb7.cell 2
  have z3 := hb7.cell 3
  simp at z0 z1 z2 z3
  have hB1 : B < w1.heap.size := HZ.out.lt
  have g1 : ∀ k, r5 = some k → B < k := fun k e => Nat.lt_of_lt_of_le hB1 (q2 k e)
  have g2 : ∀ k, r6 = some k → w1.heap.size ≤ k := fun k e => Nat.le_trans hw5.size (q5 k e)
  have l5 := q1.lt (by decide)
  have ht : Told B w7 r5 A5 c5 r6 A6 c6 L := by
    refine ⟨?_, ?_, fun k e => Nat.le_of_lt (g1 k e), fun k e => by have := g2 k e; omega, fun k e e' => ?_⟩
    · rw [← HNV.out]; exact (q1.new (by decide) q6).of_kept (by decide) hk7 (fun k e e' => by have := g1 k e; omega)
    · rw [← HNW.out]; exact q4.of_kept (by decide) hk7 (fun k e e' => by have := g2 k e; omega)
    · have h1 := l5 k e
      have h2 := q5 k e'
      omega
  have hnn : New w w7 := ((HW.out.trans hw6).step hk7 fun k hk e => by have := HB.out; omega)
  refine bodyPost_ret (v := stC L A5 c5 A6 c6) (by simp [results, Try.results28, go_sem, stC, z0, z1, z2, z3, HNV.out, HNW.out]) rfl ?_
  exact ⟨r5, A5, c5, r6, A6, c6, rfl, by rw [← HB.out]; exact ht, hnn⟩
end
end Go.Proofs.Ytnfaafdgfafcjaa.Lane
