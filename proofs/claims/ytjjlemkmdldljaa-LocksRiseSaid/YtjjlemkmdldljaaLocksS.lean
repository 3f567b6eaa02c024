/- Both kinds of locks side by side, and the walk of the law's step (layer 12). -/
import Derived.Test.YtjjlemkmdldljaaLocksQ
import Derived.Test.YtjjlemkmdldljaaLocksR
namespace Go.Proofs.Ytjjlemkmdldljaa.Locks
open Go.RowKit Go.Fb
set_option linter.unusedVariables false
/-- Both stand, in memory that is new since w0 and of their own, apart from X. -/
def PairX (X : Nat → Prop) (w0 : World) (b d : Nat) (L M : List (Int × List Int)) (w : World) : Prop :=
  ∃ F G, At w b F L ∧ RAt w d G M ∧ (∀ k, F k → ¬ G k) ∧ (∀ k, F k → w0.heap.size ≤ k) ∧ (∀ k, G k → w0.heap.size ≤ k) ∧ New w0 w ∧ ∀ k, X k → w0.heap.size ≤ k ∧ k < w.heap.size ∧ ¬ F k ∧ ¬ G k
section
variable {X X' : Nat → Prop} {w0 w w' : World} {b d : Nat} {L L' M M' : List (Int × List Int)}
theorem PairX.mono (h : PairX X w0 b d L M w) (hX : ∀ k, X' k → X k) : PairX X' w0 b d L M w := by
  obtain ⟨F, G, h1, h2, h3, h4, h5, h6, h7⟩ := h
  exact ⟨F, G, h1, h2, h3, h4, h5, h6, fun k hk => h7 k (hX k hk)⟩
theorem PairX.kept (h : PairX X w0 b d L M w) (hk : Kept X w w') : PairX X w0 b d L M w' := by
  obtain ⟨F, G, h1, h2, h3, h4, h5, h6, h7⟩ := h
  have hs := hk.size
  exact ⟨F, G, h1.kept hk fun k hF hX => (h7 k hX).2.2.1 hF, h2.kept hk fun k hG hX => (h7 k hX).2.2.2 hG, h3, h4, h5, h6.step hk fun k hk' hX => by have := (h7 k hX).1; omega, fun k hX => ⟨(h7 k hX).1, Nat.lt_of_lt_of_le (h7 k hX).2.1 hs, (h7 k hX).2.2⟩⟩
theorem PairX.new (h : PairX X w0 b d L M w) (hk : New w w') : PairX X w0 b d L M w' := h.kept (hk.mono fun _ _ h => h.elim)
/-- .. with more that is new. -/
theorem PairX.more (h : PairX X w0 b d L M w) (hk : New w w') (hX : ∀ k, X' k → X k ∨ (w.heap.size ≤ k ∧ k < w'.heap.size)) : PairX X' w0 b d L M w' := by
  obtain ⟨F, G, h1, h2, h3, h4, h5, h6, h7⟩ := h
  have hs := hk.size
  have hs0 := h6.size
  refine ⟨F, G, h1.new hk, h2.new hk, h3, h4, h5, h6.trans hk, fun k hk' => ?_⟩
  rcases hX k hk' with e | ⟨e1, e2⟩
  · exact ⟨(h7 k e).1, Nat.lt_of_lt_of_le (h7 k e).2.1 hs, (h7 k e).2.2⟩
  · exact ⟨by omega, e2, fun e => by have := h1.lt k e; omega, fun e => by have := h2.lt k e; omega⟩
theorem PairX.left (h : PairX X w0 b d L M w) {f : Nat} {args : Array Value} {v : Value} (hc : ∀ F, At w b F L → Calls Try.prog f args w (Ends w b F L' v)) :
    Calls Try.prog f args w fun e w' => e = .returned v ∧ Kept (fun k => ¬ X k) w w' ∧ PairX X w0 b d L' M w' := by
  obtain ⟨F, G, h1, h2, h3, h4, h5, h6, h7⟩ := h
  refine (hc F h1).mono ?_
  rintro e w' ⟨rfl, h1', hk⟩
  have hs := hk.size
  have hs0 := h6.size
  refine ⟨rfl, hk.mono fun k _ hF hX => (h7 k hX).2.2.1 hF, grow F w w', G, h1', h2.kept hk fun k hG hF => h3 k hF hG, ?_, ?_, h5, h6.step hk fun k hk' hF => by have := h4 k hF; omega, fun k hX => ⟨(h7 k hX).1, Nat.lt_of_lt_of_le (h7 k hX).2.1 hs, fun e => ?_, (h7 k hX).2.2.2⟩⟩
  · intro k hF hG
    rcases hF.1 with e | e
    · exact h3 k e hG
    · have := h2.lt k hG; omega
  · intro k hF
    rcases hF.1 with e | e
    · exact h4 k e
    · omega
  · rcases e.1 with e | e
    · exact (h7 k hX).2.2.1 e
    · have := (h7 k hX).2.1; omega
theorem PairX.right (h : PairX X w0 b d L M w) {f : Nat} {args : Array Value} {v : Value} (hc : ∀ F, RAt w d F M → Calls Try.prog f args w (REnds w d F M' v)) :
    Calls Try.prog f args w fun e w' => e = .returned v ∧ Kept (fun k => ¬ X k) w w' ∧ PairX X w0 b d L M' w' := by
  obtain ⟨F, G, h1, h2, h3, h4, h5, h6, h7⟩ := h
  refine (hc G h2).mono ?_
  rintro e w' ⟨rfl, h2', hk⟩
  have hs := hk.size
  have hs0 := h6.size
  refine ⟨rfl, hk.mono fun k _ hF hX => (h7 k hX).2.2.2 hF, F, grow G w w', h1.kept hk fun k hF hG => h3 k hF hG, h2', ?_, h4, ?_, h6.step hk fun k hk' hF => by have := h5 k hF; omega, fun k hX => ⟨(h7 k hX).1, Nat.lt_of_lt_of_le (h7 k hX).2.1 hs, (h7 k hX).2.2.1, fun e => ?_⟩⟩
  · intro k hF hG
    rcases hG.1 with e | e
    · exact h3 k hF e
    · have := h1.lt k hF; omega
  · intro k hF
    rcases hF.1 with e | e
    · exact h5 k e
    · omega
  · rcases e.1 with e | e
    · exact (h7 k hX).2.2.2 e
    · have := (h7 k hX).2.1; omega
theorem PairX.end_left (h : PairX X w0 b d L M w) (p : Int) (hL : L.length ≤ 1048576) : Calls Try.prog 15 #[.pointer (some ⟨b, 0, none⟩), .int .i64 p] w fun e w' =>
    ∃ r A c, e = .returned (.slice A (endL L p).2.length c) ∧ Row w' 2 r A (endL L p).2.length c ((endL L p).2.flatMap gvC) ∧ Kept (fun k => ¬ X k) w w' ∧ PairX (fun k => X k ∨ r = some k) w0 b d (endL L p).1 M w' := by
  obtain ⟨F, G, h1, h2, h3, h4, h5, h6, h7⟩ := h
  refine (end_any h1 p hL).mono ?_
  rintro e w' ⟨r, A, c, rfl, hr, hf, F', h1', hF', hrF, hk⟩
  have hs := hk.size
  have hs0 := h6.size
  have hrl := hr.lt (by decide)
  refine ⟨r, A, c, rfl, hr, hk.mono fun k _ hF hX => (h7 k hX).2.2.1 hF, F', G, h1', h2.kept hk fun k hG hF => h3 k hF hG, ?_, ?_, h5, h6.step hk fun k hk' hF => by have := h4 k hF; omega, ?_⟩
  · intro k hF hG
    rcases hF' k hF with e | e
    · exact h3 k e hG
    · have := h2.lt k hG; omega
  · intro k hF
    rcases hF' k hF with e | e
    · exact h4 k e
    · omega
  · intro k hX
    rcases hX with hX | hX
    · refine ⟨(h7 k hX).1, Nat.lt_of_lt_of_le (h7 k hX).2.1 hs, fun e => ?_, (h7 k hX).2.2.2⟩
      rcases hF' k e with e | e
      · exact (h7 k hX).2.2.1 e
      · have := (h7 k hX).2.1; omega
    · have := hf k hX
      exact ⟨by omega, hrl k hX, hrF k hX, fun e => by have := h2.lt k e; omega⟩
theorem PairX.end_right (h : PairX X w0 b d L M w) (p : Int) (hL : M.length ≤ 1048576) (hQ : ∀ x ∈ M, x.2.length ≤ 1048576) : Calls Try.prog 31 #[.pointer (some ⟨d, 0, none⟩), .int .i64 p] w fun e w' =>
    ∃ r A c, e = .returned (.slice A (rendL M p).2.length c) ∧ Row w' 2 r A (rendL M p).2.length c ((rendL M p).2.flatMap gvC) ∧ (∀ k, r = some k → w.heap.size ≤ k) ∧ Kept (fun k => ¬ X k) w w' ∧ PairX X w0 b d L (rendL M p).1 w' := by
  obtain ⟨F, G, h1, h2, h3, h4, h5, h6, h7⟩ := h
  refine (rend_any h2 p hL hQ).mono ?_
  rintro e w' ⟨r, A, c, rfl, hr, hf, F', h2', hF', hrF, hk⟩
  have hs := hk.size
  have hs0 := h6.size
  refine ⟨r, A, c, rfl, hr, hf, hk.mono fun k _ hF hX => (h7 k hX).2.2.2 hF, F, F', h1.kept hk fun k hF hG => h3 k hF hG, h2', ?_, h4, ?_, h6.step hk fun k hk' hF => by have := h5 k hF; omega, ?_⟩
  · intro k hF hG
    rcases hF' k hG with e | e
    · exact h3 k hF e
    · have := h1.lt k hF; omega
  · intro k hF
    rcases hF' k hF with e | e
    · exact h5 k e
    · omega
  · intro k hX
    refine ⟨(h7 k hX).1, Nat.lt_of_lt_of_le (h7 k hX).2.1 hs, (h7 k hX).2.2.1, fun e => ?_⟩
    rcases hF' k e with e | e
    · exact (h7 k hX).2.2.2 e
    · have := (h7 k hX).2.1; omega
end
def stepL (L : List (Int × List Int)) (kind n p : Int) : List (Int × List Int) := if kind = 1 then (takeL L n p).1 else if kind = 2 then (giveL L n p).1 else if kind = 3 then (endL L p).1 else L
theorem gv_at {w : World} {r : Option Nat} {A : Option Addr} {n c j : Nat} {g : List (Int × Int)} {xs : List Value} (h : Row w 2 r A n c xs) (hx : ∀ i, j * 2 ≤ i → xs[i]? = (g.flatMap gvC)[i]?) (hj : j < n) (hg : j < g.length) : ∃ b o, r = some b ∧ A = some ⟨b, o, none⟩ ∧ w.cell? ⟨b, o + j * 2, none⟩ = some (.int .i64 g[j].1) ∧ w.cell? ⟨b, o + j * 2 + 1, none⟩ = some (.int .i64 g[j].2) ∧
    w.frozen? ⟨b, o + j * 2, none⟩ = false ∧ w.frozen? ⟨b, o + j * 2 + 1, none⟩ = false := by
  obtain ⟨b, o, e1, e2, h5⟩ := h.at_index hj
  obtain ⟨v0, a0, b0, f0⟩ := h5 0 (by decide)
  obtain ⟨v1, a1, b1, f1⟩ := h5 1 (by decide)
  rw [hx _ (by omega), flatMap_get (f := gvC) (size := 2) g (fun x _ => rfl) j hg 0 (by decide)] at a0
  rw [hx _ (by omega), flatMap_get (f := gvC) (size := 2) g (fun x _ => rfl) j hg 1 (by decide)] at a1
  simp only [gvC, List.getElem?_cons_zero, List.getElem?_cons_succ, Option.some.injEq] at a0 a1
  subst a0; subst a1
  exact ⟨b, o, e1, e2, b0, b1, f0, f1⟩
set_option maxHeartbeats 8000000 in
set_option maxRecDepth 100000 in
theorem step_any {w0 w : World} {b d B : Nat} {L : List (Int × List Int)} (h : PairX (fun _ => False) w0 b d L L w) (hi : Inv B L) (hB : B ≤ 1048576) (kind n p : Int) :
    Calls Try.prog 22 #[.pointer (some ⟨b, 0, none⟩), .pointer (some ⟨d, 0, none⟩), .agg #[.int .i64 kind, .int .i64 n, .int .i64 p]] w fun e w' => e = .returned (.bool true) ∧ PairX (fun _ => False) w0 b d (stepL L kind n p) (stepL L kind n p) w' := by
  have hQ : ∀ x ∈ L, x.2.length ≤ 1048576 := fun x hx => Nat.le_trans (hi.sml x hx) hB
  have hL : L.length ≤ 1048576 := Nat.le_trans hi.len (by decide)
  have hal : New w (w.alloc (.cells #[.int .i64 kind, .int .i64 n, .int .i64 p] 34)) := (Kept.refl _ _).alloc _
  have hbx : Blk (w.alloc (.cells #[.int .i64 kind, .int .i64 n, .int .i64 p] 34)) w.heap.size 34 #[.int .i64 kind, .int .i64 n, .int .i64 p] := Blk.made _ _ _
  have hp : PairX (fun k => k = w.heap.size) w0 b d L L (w.alloc (.cells #[.int .i64 kind, .int .i64 n, .int .i64 p] 34)) := h.more hal fun k e => .inr ⟨by omega, by have := hbx.lt; omega⟩
  have HI := Lib.hid hi
  have HQ := Lib.hid hQ
  have H := Lib.hid h
  clear hi hQ h
  by_cases h1 : kind = 1
  · subst h1
    have HS := Lib.hid (show stepL L 1 n p = (takeL L n p).1 from rfl)
    go_enter Try.func22, Try.ntmps22
    go_upto_region 1 with (fail)
    generalize w.alloc (.cells #[.int .i64 1, .int .i64 n, .int .i64 p] 34) = w1 at *
    have z0 := hbx.cell 0
    have z1 := hbx.cell 1
    have z2 := hbx.cell 2
    simp only [List.getElem?_toArray, List.getElem?_cons_zero, List.getElem?_cons_succ] at z0 z1 z2
    have hleft := hp.left (fun F hA => take_any hA n p HQ.out)
    have HLEFT := Lib.hid hleft
    have HP := Lib.hid hp
    have HBX := Lib.hid hbx
    have HAL := Lib.hid hal
    clear hleft hp hbx hal
    go_wp2_with fail
    refine HLEFT.out.mono ?_
    rintro e w2 ⟨rfl, hk2, hp2⟩
    have hbx2 := HBX.out.kept hk2 (fun h => h rfl)
    have z0 := hbx2.cell 0
    have z1 := hbx2.cell 1
    have z2 := hbx2.cell 2
    simp only [List.getElem?_toArray, List.getElem?_cons_zero, List.getElem?_cons_succ] at z0 z1 z2
    have hright := hp2.right (fun F hA => rtake_any hA n p HQ.out)
    have HRIGHT := Lib.hid hright
    have HP2 := Lib.hid hp2
    have HBX2 := Lib.hid hbx2
    have HK2 := Lib.hid hk2
    clear hright hp2 hbx2 hk2
    go_wp2_with fail
    refine HRIGHT.out.mono ?_
    rintro e w3 ⟨rfl, hk3, hp3⟩
    have hend := hp3.mono (X' := fun _ => False) fun _ h => h.elim
    rw [← HS.out] at hend
    have HEND := Lib.hid hend
    clear hend
    clear hk3 hp3
    generalize (takeL L n p).2.1 = x1 at *
    generalize (takeL L n p).2.2 = x2 at *
    go_wp2_with fail
    go_ret
    exact ⟨by simp, HEND.out⟩
  · by_cases h2 : kind = 2
    · subst h2
      have HS := Lib.hid (show stepL L 2 n p = (giveL L n p).1 from rfl)
      clear h1
      go_enter Try.func22, Try.ntmps22
      go_upto_region 1 with (fail)
      generalize w.alloc (.cells #[.int .i64 2, .int .i64 n, .int .i64 p] 34) = w1 at *
      have z0 := hbx.cell 0
      have z1 := hbx.cell 1
      have z2 := hbx.cell 2
      simp only [List.getElem?_toArray, List.getElem?_cons_zero, List.getElem?_cons_succ] at z0 z1 z2
      have hleft := hp.left (fun F hA => give_any hA n p)
      have HLEFT := Lib.hid hleft
      have HP := Lib.hid hp
      have HBX := Lib.hid hbx
      have HAL := Lib.hid hal
      clear hleft hp hbx hal
      go_wp2_with fail
      refine HLEFT.out.mono ?_
      rintro e w2 ⟨rfl, hk2, hp2⟩
      have hbx2 := HBX.out.kept hk2 (fun h => h rfl)
      have z0 := hbx2.cell 0
      have z1 := hbx2.cell 1
      have z2 := hbx2.cell 2
      simp only [List.getElem?_toArray, List.getElem?_cons_zero, List.getElem?_cons_succ] at z0 z1 z2
      have hright := hp2.right (fun F hA => rgive_any hA n p HQ.out)
      have HRIGHT := Lib.hid hright
      have HP2 := Lib.hid hp2
      have HBX2 := Lib.hid hbx2
      have HK2 := Lib.hid hk2
      clear hright hp2 hbx2 hk2
      go_wp2_with fail
      refine HRIGHT.out.mono ?_
      rintro e w3 ⟨rfl, hk3, hp3⟩
      have hend := hp3.mono (X' := fun _ => False) fun _ h => h.elim
      rw [← HS.out] at hend
      have HEND := Lib.hid hend
      clear hend
      clear hk3 hp3
      generalize (giveL L n p).2.1 = x1 at *
      generalize (giveL L n p).2.2 = x2 at *
      go_wp2_with fail
      go_ret
      exact ⟨by simp, HEND.out⟩
    · by_cases h3 : kind = 3
      · subst h3
        have HS := Lib.hid (show stepL L 3 n p = (endL L p).1 from rfl)
        clear h1 h2
        go_enter Try.func22, Try.ntmps22
        go_upto_region 1 with (fail)
        generalize w.alloc (.cells #[.int .i64 3, .int .i64 n, .int .i64 p] 34) = w1 at *
        have z0 := hbx.cell 0
        have z1 := hbx.cell 1
        have z2 := hbx.cell 2
        simp only [List.getElem?_toArray, List.getElem?_cons_zero, List.getElem?_cons_succ] at z0 z1 z2
        have hleft := hp.end_left p hL
        have HLEFT := Lib.hid hleft
        have HP := Lib.hid hp
        have HBX := Lib.hid hbx
        have HAL := Lib.hid hal
        clear hleft hp hbx hal
        go_wp2_with fail
        refine HLEFT.out.mono ?_
        rintro e w2 ⟨r1, A1, c1, rfl, hr1, hk2, hp2⟩
        have hbx2 := HBX.out.kept hk2 (fun h => h rfl)
        have z0 := hbx2.cell 0
        have z1 := hbx2.cell 1
        have z2 := hbx2.cell 2
        simp only [List.getElem?_toArray, List.getElem?_cons_zero, List.getElem?_cons_succ] at z0 z1 z2
        have hright := hp2.end_right p hL HQ.out
        rw [← end_eq HI.out p] at hright
        have hb1 := hr1.bound
        obtain ⟨g, hg⟩ : ∃ g, g = (endL L p).2 := ⟨_, rfl⟩
        obtain ⟨m, hm⟩ : ∃ m, m = g.length := ⟨_, rfl⟩
        have hm8 : m ≤ 8 := by
          rw [hm, hg]
          have h1 : (endL L p).2.length = (heldL (L.map (dropP p)) p).length := handTo_len _ _ _ _
          have h2 := heldTo_len (L.map (dropP p)) p (L.map (dropP p)).length
          have h3 : (L.map (dropP p)).length = L.length := List.length_map ..
          have h4 := HI.out.len
          unfold heldL at h1
          omega
        rw [← hg, ← hm] at hr1 hright hb1
        have hl1 := hr1.lt (by decide)
        rw [← hg, ← hm]
        have HRIGHT := Lib.hid hright
        have HP2 := Lib.hid hp2
        have HBX2 := Lib.hid hbx2
        have HK2 := Lib.hid hk2
        have HR1 := Lib.hid hr1
        have HG := Lib.hid hg
        have HM := Lib.hid hm
        have HL1 := Lib.hid hl1
        clear hright hp2 hbx2 hk2 hr1 hg hm hl1
        go_wp2_with fail
        refine HRIGHT.out.mono ?_
        rintro e w3 ⟨r2, A2, c2, rfl, hr2, hf2, hk3, hp3⟩
        have hr13 := HR1.out.of_kept (by decide) hk3 (fun k e h => h (.inr e))
        have hp4 := (hp3.mono (X' := fun k => r1 = some k) fun k h => .inr h)
        rw [← HS.out] at hp4
        have hb2 := hr2.bound
        have hne : ∀ k, r2 = some k → ¬ r1 = some k := fun k e h => by have := HL1.out k h; have := hf2 k e; omega
        have HP4 := Lib.hid (fun W (hk : Kept (fun k => r1 = some k) w3 W) => (hp4.kept hk).mono (X' := fun _ => False) fun _ h => h.elim)
        have HRB := Lib.hid (fun W (hk : Kept (fun k => r1 = some k) w3 W) => hr2.of_kept (by decide) hk hne)
        have hl3 := hr13.lt (by decide)
        have HR13 := Lib.hid hr13
        have HR2 := Lib.hid hr2
        have HF2 := Lib.hid hf2
        have HK3 := Lib.hid hk3
        have HP3 := Lib.hid hp3
        have HL3 := Lib.hid hl3
        clear hr13 hr2 hf2 hk3 hp3 hl3
        clear hne z0 z1 z2 hp4
        go_wp2_with fail
        go_loopw [17] (fun i wr => ∃ j : Nat, j ≤ m ∧ i = .int .i64 j ∧ Kept (fun k => r1 = some k) w3 wr ∧ ∃ xs, Row wr 2 r1 A1 m c1 xs ∧ ∀ i, j * 2 ≤ i → xs[i]? = (g.flatMap gvC)[i]?) (fun i _ => (m - intOf i).toNat)
        case atStart => exact ⟨0, Nat.zero_le _, rfl, Kept.refl _ _, _, HR13.out, fun _ _ => rfl⟩
        case round =>
          obtain ⟨j, hj, rfl, hkr, xs, hrx, hxs⟩ := hrel
          by_cases hlt : j < m
          · obtain ⟨ga, oa, hga, rfl, ca0, ca1, fa0, fa1⟩ := gv_at hrx hxs hlt (by have := HM.out; omega)
            obtain ⟨gb, ob, hgb, rfl, cb0, cb1, -, -⟩ := gv_at (HRB.out wr hkr) (fun _ _ => rfl) hlt (by have := HM.out; omega)
            generalize g[j].1 = v0 at *
            generalize g[j].2 = v1 at *
            have e2 : (0 : Int) ≤ (j : Int) := by omega
            have e3 : (j : Int) < (m : Int) := by omega
            have HKR := Lib.hid hkr
            have HRX := Lib.hid hrx
            have HXS := Lib.hid hxs
            have HGA := Lib.hid hga
            clear hkr hrx hxs hga hgb
            go_wp2_with fail
            go_quiet (fail)
            go_wp2_with fail
            go_roundw
            case rel =>
              refine ⟨j + 1, by omega, by go_num, ((HKR.out.drewN _).setCell (.inr HGA.out) _).setCell (.inr HGA.out) _, (xs.set (j * 2) (.int .i64 (-1))).set (j * 2 + 1) (.int .i64 (-2)), ?_, ?_⟩
              · exact ((HRX.out.drewN _).set rfl (j := j * 2) (by omega) _).set rfl (j := j * 2 + 1) (by omega) _
              · intro i hi
                rw [List.getElem?_set_ne (by omega), List.getElem?_set_ne (by omega)]
                exact HXS.out i (by omega)
            case measure => simp [intOf]; omega
          · obtain rfl : j = m := by omega
            have HKR := Lib.hid hkr
            have HRX := Lib.hid hrx
            clear hkr hrx
            clear hxs
            go_wp2_with fail
            go_loopw [15, 18] (fun s kk wr' => ∃ (k2 : Nat) (r : Option Nat) (A : Option Addr) (c : Nat) (xs : List Value), k2 ≤ 9 ∧ kk = .int .i64 k2 ∧ s = .slice A (j + k2) c ∧ Row wr' 2 r A (j + k2) c xs ∧ (∀ j, r = some j → r1 = some j ∨ w3.heap.size ≤ j) ∧ Kept (fun k => r1 = some k) w3 wr') (fun _ kk _ => (9 - intOf kk).toNat)
            case atStart => exact ⟨0, r1, A1, c1, xs, by omega, rfl, rfl, HRX.out, fun j e => .inl e, HKR.out⟩
            case round =>
              obtain ⟨k2, r, A, c, xs2, hk2', rfl, rfl, hr2, hf2, hkw2⟩ := hrel
              have hb2' := hr2.bound
              by_cases hl9 : k2 < 9
              · have HRA := Lib.hid hr2
                have HFA := Lib.hid hf2
                have HKW2 := Lib.hid hkw2
                clear hr2 hf2 hkw2
                go_wp2_with (at_builtin; refine wpList_append_one (cs := [.int .i64 (-3), .int .i64 (-3)]) tyGiven rfl (.tmp 138) (.tmp 140) rfl rfl HRA.out rfl rfl rfl (by simp [Value.oneCell']) (by unfold maxLen; omega) (by omega) ?_; intro r3 A3 c3 w4 hr3 hk3 hn3; have HR3 := Lib.hid hr3; have HK3' := Lib.hid hk3; have HN3 := Lib.hid hn3; clear hr3 hk3 hn3)
                go_roundw
                case rel =>
                  refine ⟨k2 + 1, r3, A3, c3, _, by omega, by go_num, rfl, HR3.out, fun j e => ?_, HKW2.out.step HK3'.out fun j hj e => ?_⟩
                  · rcases HN3.out j e with h | h
                    · exact HFA.out j h
                    · exact .inr (Nat.le_trans HKW2.out.size h)
                  · rcases HFA.out j e with h | h
                    · exact h
                    · omega
                case measure => simp [intOf]; omega
              · have hkk2 : ¬ ((k2 : Int) < 9) := by omega
                have hend := HP4.out _ hkw2
                have HEND := Lib.hid hend
                clear hend
                clear hr2 hf2 hkw2
                go_wp2_with fail
                go_ret
                exact ⟨rfl, HEND.out⟩
      · by_cases h4 : kind = 4
        · subst h4
          have HS := Lib.hid (show stepL L 4 n p = L from rfl)
          clear h1 h2 h3
          go_enter Try.func22, Try.ntmps22
          go_upto_region 1 with (fail)
          generalize w.alloc (.cells #[.int .i64 4, .int .i64 n, .int .i64 p] 34) = w1 at *
          have z0 := hbx.cell 0
          have z2 := hbx.cell 2
          simp only [List.getElem?_toArray, List.getElem?_cons_zero, List.getElem?_cons_succ] at z0 z2
          have hp0 := hp
          obtain ⟨F, G, hA, hR, -⟩ := hp
          have hwl := holds_any hA p hL
          have HWR := Lib.hid (fun W (hW : New w1 W) => rholds_any (hR.new hW) p hL)
          have HBN := Lib.hid (fun W (hW : New w1 W) => hbx.kept hW id)
          have hm8 : (heldL L p).length ≤ 8 := Nat.le_trans (heldTo_len _ _ _) HI.out.len
          rw [← held_eq HI.out.own] at HWR
          generalize heldL L p = ns at *
          obtain ⟨m, hm⟩ : ∃ m, m = ns.length := ⟨_, rfl⟩
          rw [← hm] at hwl HWR hm8
          have HWL := Lib.hid hwl
          have HP0 := Lib.hid hp0
          have HA := Lib.hid hA
          have HR := Lib.hid hR
          have HBX := Lib.hid hbx
          have HAL := Lib.hid hal
          have HM := Lib.hid hm
          clear hwl hp0 hA hR hbx hal hm
          go_wp2_with fail
          refine HWL.out.mono ?_
          rintro e w2 ⟨r1, A1, c1, rfl, hr1, hf1, hk1⟩
          have hbx2 := HBN.out w2 hk1
          have z2 := hbx2.cell 2
          simp only [List.getElem?_toArray, List.getElem?_cons_zero, List.getElem?_cons_succ] at z2
          have hwr := HWR.out w2 hk1
          have hb1 := hr1.bound
          have HBX2 := Lib.hid hbx2
          have HK1 := Lib.hid hk1
          have HR1 := Lib.hid hr1
          have HF1 := Lib.hid hf1
          have HWR2 := Lib.hid hwr
          clear hbx2 hk1 hr1 hf1 hwr
          go_wp2_with fail
          refine HWR2.out.mono ?_
          rintro e w3 ⟨r2, A2, c2, rfl, hr2, hf2, hk2⟩
          have hr13 := HR1.out.new (by decide) hk2
          have hin := ints_same hr13 hr2 rfl
          have hn3 := HK1.out.trans hk2
          have hb2 := hr2.bound
          have HR13 := Lib.hid hr13
          have HIN := Lib.hid hin
          have HN3 := Lib.hid hn3
          clear hr13 hin hn3
          clear hr2 hf2 hk2
          go_wp2_with fail
          refine HIN.out.mono ?_
          rintro e w4 ⟨rfl, hk4⟩
          have hr14 := HR13.out.new (by decide) hk4
          have hn4 := HN3.out.trans hk4
          have HR14 := Lib.hid hr14
          have HN4 := Lib.hid hn4
          clear hr14 hn4
          clear hk4
          go_wp2_with fail
          go_loopw [21] (fun kk wr' => ∃ k : Nat, k ≤ m ∧ kk = .int .i64 k ∧ New w1 wr' ∧ ∃ xs, Row wr' 1 r1 A1 m c1 xs) (fun kk _ => (m - intOf kk).toNat)
          case atStart => exact ⟨0, Nat.zero_le _, rfl, HN4.out, _, HR14.out⟩
          case round =>
            obtain ⟨k, hk, rfl, hkw, xs, hrx⟩ := hrel
            by_cases hlk : k < m
            · obtain ⟨gy, oy, v0, hyr, rfl, x0, xf⟩ := row_here1 hrx k hlk
              have f2 : (0 : Int) ≤ (k : Int) := by omega
              have f3 : (k : Int) < (m : Int) := by omega
              have HKW := Lib.hid hkw
              have HRX := Lib.hid hrx
              have HYR := Lib.hid hyr
              clear hkw hrx hyr
              go_wp2_with fail
              go_roundw
              case rel => exact ⟨k + 1, by omega, by go_num, HKW.out.setCell (.inl (HF1.out gy HYR.out)) _, _, HRX.out.set rfl (j := k) (by omega) _⟩
              case measure => simp [intOf]; omega
            · obtain rfl : k = m := by omega
              have HKW := Lib.hid hkw
              have HRX := Lib.hid hrx
              clear hkw hrx
              go_wp2_with fail
              go_loopw [19, 22] (fun s kk wr' => ∃ (k2 : Nat) (r : Option Nat) (A : Option Addr) (c : Nat) (xs : List Value), k2 ≤ 9 ∧ kk = .int .i64 k2 ∧ s = .slice A (k + k2) c ∧ Row wr' 1 r A (k + k2) c xs ∧ (∀ j, r = some j → w1.heap.size ≤ j) ∧ New w1 wr') (fun _ kk _ => (9 - intOf kk).toNat)
              case atStart => exact ⟨0, r1, A1, c1, xs, by omega, rfl, rfl, HRX.out, HF1.out, HKW.out⟩
              case round =>
                obtain ⟨k2, r, A, c, xs2, hk2', rfl, rfl, hr2, hf2, hkw2⟩ := hrel
                have hb2' := hr2.bound
                by_cases hl9 : k2 < 9
                · have HRA := Lib.hid hr2
                  have HFA := Lib.hid hf2
                  have HKW2 := Lib.hid hkw2
                  clear hr2 hf2 hkw2
                  go_wp2_with (at_builtin; refine wpList_append_one (cs := [.int .i64 (-6)]) tyInts rfl (.tmp 167) (.tmp 168) rfl rfl HRA.out rfl rfl rfl (by simp [Value.oneCell']) (by unfold maxLen; omega) (by omega) ?_; intro r3 A3 c3 w5 hr3 hk3 hn3; have HR3 := Lib.hid hr3; have HK3' := Lib.hid hk3; have HN3' := Lib.hid hn3; clear hr3 hk3 hn3)
                  go_roundw
                  case rel =>
                    refine ⟨k2 + 1, r3, A3, c3, _, by omega, by go_num, rfl, HR3.out, fun j e => ?_, HKW2.out.step HK3'.out fun j hj e => absurd (HFA.out j e) (Nat.not_le.2 hj)⟩
                    rcases HN3'.out j e with h | h
                    · exact HFA.out j h
                    · exact Nat.le_trans HKW2.out.size h
                  case measure => simp [intOf]; omega
                · have hkk2 : ¬ ((k2 : Int) < 9) := by omega
                  have hend := (HP0.out.new hkw2).mono (X' := fun _ => False) fun _ h => h.elim
                  rw [← HS.out] at hend
                  have HEND := Lib.hid hend
                  clear hend
                  clear hr2 hf2 hkw2
                  go_wp2_with fail
                  go_ret
                  exact ⟨rfl, HEND.out⟩
        · have HS := Lib.hid (show stepL L kind n p = L by unfold stepL; rw [if_neg h1, if_neg h2, if_neg h3])
          have g1 : (kind == 1) = false := by simpa using h1
          have g2 : (kind == 2) = false := by simpa using h2
          have g3 : (kind == 3) = false := by simpa using h3
          have g4 : (kind == 4) = false := by simpa using h4
          clear h1 h2 h3 h4
          go_enter Try.func22, Try.ntmps22
          go_upto_region 1 with (fail)
          generalize w.alloc (.cells #[.int .i64 kind, .int .i64 n, .int .i64 p] 34) = w1 at *
          have z0 := hbx.cell 0
          have z2 := hbx.cell 2
          simp only [List.getElem?_toArray, List.getElem?_cons_zero, List.getElem?_cons_succ] at z0 z2
          have hp0 := hp
          obtain ⟨F, G, hA, hR, -⟩ := hp
          have hwl := waits_any hA p
          have HWR := Lib.hid (fun W (hW : New w1 W) => rwaits_any (hR.new hW) p)
          have HBN := Lib.hid (fun W (hW : New w1 W) => hbx.kept hW id)
          generalize (waitAt L p).1 = x1 at *
          generalize (waitAt L p).2 = x2 at *
          have HWL := Lib.hid hwl
          have HP0 := Lib.hid hp0
          have HA := Lib.hid hA
          have HR := Lib.hid hR
          have HBX := Lib.hid hbx
          have HAL := Lib.hid hal
          clear hwl hp0 hA hR hbx hal
          go_wp2_with fail
          refine HWL.out.mono ?_
          rintro e w2 ⟨rfl, hk2⟩
          have hbx2 := HBN.out w2 hk2
          have z2 := hbx2.cell 2
          simp only [List.getElem?_toArray, List.getElem?_cons_zero, List.getElem?_cons_succ] at z2
          have hwr := HWR.out w2 hk2
          have hend := (HP0.out.new hk2).mono (X' := fun _ => False) fun _ h => h.elim
          rw [← HS.out] at hend
          have HWR2 := Lib.hid hwr
          have HEND := Lib.hid hend
          have HBX2 := Lib.hid hbx2
          have HK2 := Lib.hid hk2
          clear hwr hend hbx2 hk2
          go_wp2_with fail
          refine HWR2.out.mono ?_
          rintro e w3 ⟨rfl, rfl⟩
          go_wp2_with fail
          go_ret
          exact ⟨by simp, HEND.out⟩
end Go.Proofs.Ytjjlemkmdldljaa.Locks
