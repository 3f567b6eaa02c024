/- The walk of the law's played, and of LocksTurns (layer 12). -/
import Derived.Test.YtjjlemkmdldljaaLocksS
namespace Go.Proofs.Ytjjlemkmdldljaa.Locks
open Go.RowKit Go.Fb
set_option linter.unusedVariables false
structure Op where
  kind : Int
  lock : Int
  proc : Int
def repOp : Rep Op where
  size := 3
  cells _ _ x cs := cs = [.int .i64 x.kind, .int .i64 x.lock, .int .i64 x.proc] ∧ (Lit.int .i64 x.kind).wf = true ∧ (Lit.int .i64 x.lock).wf = true ∧ (Lit.int .i64 x.proc).wf = true
  length h := by rw [h.1]; rfl
  stays _ h := h
  more _ h := h
theorem opens_op : Opens Try.prog repOp 34 := by
  have h : Opens Try.prog (((Rep.int .i64).pair ((Rep.int .i64).pair ((Rep.int .i64).pair Rep.unit)))) 34 := opens_struct Try.underlying34 (by kernel_rfl)
    (opensAt_cons rfl (by kernel_rfl) (opens_int Try.underlying3) (opensAt_cons rfl (by kernel_rfl) (opens_int Try.underlying3) (opensAt_cons rfl (by kernel_rfl) (opens_int Try.underlying3) opensAt_nil)))
  intro H enc w fuel cs y hy
  obtain ⟨x, hx⟩ := h H enc w fuel cs y hy
  obtain ⟨_, _, rfl, ⟨rfl, h1⟩, _, _, rfl, ⟨rfl, h2⟩, _, _, rfl, ⟨rfl, h3⟩, rfl⟩ := hx
  exact ⟨⟨x.1, x.2.1, x.2.2.1⟩, rfl, h1, h2, h3⟩
theorem op_at {w : World} {B : Nat} {A : Option Addr} {n c : Nat} {l : List Op} (h : SliceOf repOp w B A n c l) (hn : 0 < n) :
    ∃ b o, A = some ⟨b, o, none⟩ ∧ b < B ∧ ∀ i (h : i < l.length), (w.cell? ⟨b, o + i * 3, none⟩ = some (.int .i64 l[i].kind) ∧ w.cell? ⟨b, o + i * 3 + 1, none⟩ = some (.int .i64 l[i].lock) ∧ w.cell? ⟨b, o + i * 3 + 2, none⟩ = some (.int .i64 l[i].proc)) := by
  obtain ⟨b, o, e, hb, hc⟩ := h.get hn
  refine ⟨b, o, e, hb, fun i hi => ?_⟩
  obtain ⟨es, g1, g2, _, w2, w3⟩ := hc i hi
  subst g2
  exact ⟨g1 0 (by decide), g1 1 (by decide), g1 2 (by decide)⟩
theorem Inv.step {B : Nat} {L : List (Int × List Int)} (h : Inv B L) (kind n p : Int) : Inv (B + 1) (stepL L kind n p) := by
  unfold stepL
  split
  · exact h.take n p
  · split
    · exact (h.give n p).mono (by omega)
    · split
      · rw [end_eq h p]; exact (h.rend p).mono (by omega)
      · exact h.mono (by omega)
theorem Inv.start (n : Nat) (hn : n ≤ 8) : Inv 0 (List.replicate n (-1, [])) := by
  refine ⟨by simpa using hn, ?_, ?_, ?_, ?_, ?_⟩
  · intro x hx; rw [List.eq_of_mem_replicate hx]; decide
  · intro x hx y hy; rw [List.eq_of_mem_replicate hx] at hy; cases hy
  · intro x hx; rw [List.eq_of_mem_replicate hx]; simp
  · intro x hx; rw [List.eq_of_mem_replicate hx]; simp
  · intro i j hi hj hij y hy
    rw [List.getElem_replicate] at hy
    cases hy
theorem PairX.stands {w0 w : World} {b d B : Nat} {L : List (Int × List Int)} (h : PairX (fun _ => False) w0 b d L L w) (hi : Inv B L) (hB : B ≤ 1048576) : Calls Try.prog 21 #[.pointer (some ⟨b, 0, none⟩), .pointer (some ⟨d, 0, none⟩)] w fun e w' => e = .returned (.bool true) ∧ PairX (fun _ => False) w0 b d L L w' := by
  have h0 := h
  obtain ⟨F, G, h1, h2, -⟩ := h
  refine (stands_any h1 h2 (Nat.le_trans hi.len (by decide)) (fun x hx => Nat.le_trans (hi.sml x hx) hB)).mono ?_
  rintro e w' ⟨rfl, hn⟩
  exact ⟨rfl, h0.new hn⟩
theorem PairX.fresh {X : Nat → Prop} {w0 w : World} {b d : Nat} {L M : List (Int × List Int)} (h : PairX X w0 b d L M w) : New w0 w := by
  obtain ⟨F, G, h1, h2, h3, h4, h5, h6, h7⟩ := h
  exact h6
set_option maxHeartbeats 4000000 in
theorem played_any {w0 w : World} {b d B0 : Nat} {L : List (Int × List Int)} (h : PairX (fun _ => False) w0 b d L L w) (hi : Inv B0 L) {A : Option Addr} {n c : Nat} {l : List Op} (hl : SliceOf repOp w0 w0.heap.size A n c l) (hn : B0 + n ≤ 1048576) :
    Calls Try.prog 10 #[.pointer (some ⟨b, 0, none⟩), .pointer (some ⟨d, 0, none⟩), .slice A n c] w fun e w' => e = .returned (.bool true) ∧ New w0 w' := by
  have hs := h.stands hi (by omega)
  have hb := hl.bound
  have hll := hl.len
  have HS := Lib.hid hs
  have H := Lib.hid h
  have HI := Lib.hid hi
  have HSL := Lib.hid hl
  have HLL := Lib.hid hll
  clear hs h hi hl hll
  go_enter Try.func10, Try.ntmps10
  go_wp2_with fail
  refine HS.out.mono ?_
  rintro e w1 ⟨rfl, hp1⟩
  have HP1 := Lib.hid hp1
  clear hp1
  go_wp2_with fail
  go_loopw [7] (fun i wr => ∃ j : Nat, j ≤ n ∧ i = .int .i64 j ∧ ∃ L', PairX (fun _ => False) w0 b d L' L' wr ∧ Inv (B0 + j) L') (fun i _ => (n - intOf i).toNat)
  case atStart => exact ⟨0, Nat.zero_le _, rfl, L, HP1.out, HI.out⟩
  case round =>
    obtain ⟨j, hj, rfl, L', hpr, hir⟩ := hrel
    by_cases hlt : j < n
    · obtain ⟨b0, o0, rfl, hb0, hc0⟩ := op_at (HSL.out.kept hpr.fresh (Nat.le_refl _) fun _ _ h => h) (by omega)
      have hkL : j < l.length := by have := HLL.out; omega
      obtain ⟨z0, z1, z2⟩ := hc0 j hkL
      generalize l[j] = q at *
      obtain ⟨qp, qf, qn⟩ := q
      simp only at z0 z1 z2
      have hstep := step_any hpr hir (by omega) qp qf qn
      have hst := fun W (hW : PairX (fun _ => False) w0 b d (stepL L' qp qf qn) (stepL L' qp qf qn) W) => hW.stands (hir.step qp qf qn) (by omega)
      have hinv := hir.step qp qf qn
      generalize stepL L' qp qf qn = L2 at *
      have e2 : (0 : Int) ≤ (j : Int) := by omega
      have e3 : (j : Int) < (n : Int) := by omega
      have HPR := Lib.hid hpr
      have HIR := Lib.hid hir
      have HSTEP := Lib.hid hstep
      have HST := Lib.hid hst
      have HINV := Lib.hid hinv
      clear hpr hir hstep hst hinv
      clear hc0 hkL
      go_wp2_with fail
      refine HSTEP.out.mono ?_
      rintro e w2 ⟨rfl, hp2⟩
      have hs2 := HST.out w2 hp2
      have HS2 := Lib.hid hs2
      clear hs2
      clear hp2
      go_wp2_with fail
      refine HS2.out.mono ?_
      rintro e w3 ⟨rfl, hp3⟩
      have HP3 := Lib.hid hp3
      clear hp3
      go_wp2_with fail
      go_roundw
      case rel => exact ⟨j + 1, by omega, by go_num, L2, HP3.out, HINV.out⟩
      case measure => simp [intOf]; omega
    · obtain rfl : j = n := by omega
      have hend := hpr.fresh
      have HEND := Lib.hid hend
      clear hend
      clear hpr hir
      go_wp2_with fail
      go_ret
      exact ⟨rfl, HEND.out⟩
set_option maxHeartbeats 4000000 in
theorem turns_walk (k : Int) (A : Option Addr) (n c : Nat) (l : List Op) (w : World) (hl : SliceOf repOp w w.heap.size A n c l) (hn : n ≤ 1048576) :
    Calls Try.prog 4 #[.int .i64 k, .slice A n c] w fun e w' => e = .returned (.bool true) ∧ New w w' := by
  have hnew := new_any k w
  have HNEW := Lib.hid hnew
  have HSL := Lib.hid hl
  clear hnew hl
  go_enter Try.func4, Try.ntmps4
  go_wp2_with fail
  refine HNEW.out.mono ?_
  rintro e w1 ⟨hn1, hw1⟩
  have hnew2 := rnew_any k w1
  have HNEW2 := Lib.hid hnew2
  have HN1 := Lib.hid hn1
  clear hnew2 hn1
  rcases hw1 with ⟨k0, k8, rfl, F, hA, hF⟩ | ⟨kn, rfl⟩
  · have HA := Lib.hid hA
    have HF := Lib.hid hF
    clear hA hF
    go_wp2_with fail
    refine HNEW2.out.mono ?_
    rintro e w2 ⟨hn2, hw2⟩
    rcases hw2 with ⟨-, -, rfl, G, hR, hG⟩ | ⟨kn, rfl⟩
    · have hp : PairX (fun _ => False) w w.heap.size w1.heap.size (List.replicate k.toNat (-1, [])) (List.replicate k.toNat (-1, [])) w2 :=
        ⟨F, G, HA.out.new hn2, hR, fun k hF' hG' => by have := HA.out.lt k hF'; have := hG k hG'; omega, HF.out, fun k hG' => by have := hG k hG'; have := HN1.out.size; omega, HN1.out.trans hn2, fun _ h => h.elim⟩
      have hpl := played_any hp (Inv.start _ (by omega)) HSL.out (by omega)
      have HPL := Lib.hid hpl
      clear hpl
      clear hp hn2 hR hG
      generalize w.heap.size = b at *
      generalize w1.heap.size = d at *
      go_wp2_with fail
      refine HPL.out.mono ?_
      rintro e w3 ⟨rfl, hn3⟩
      have hfix := fixed_any w3
      have HFIX := Lib.hid hfix
      have HN3 := Lib.hid hn3
      clear hfix hn3
      go_wp2_with fail
      refine HFIX.out.mono ?_
      rintro e w4 ⟨rfl, hn4⟩
      have hend := HN3.out.trans hn4
      have HEND := Lib.hid hend
      clear hend
      clear hn4
      go_wp2_with fail
      go_ret
      exact ⟨rfl, HEND.out⟩
    · exact absurd ⟨k0, k8⟩ kn
  · go_wp2_with fail
    refine HNEW2.out.mono ?_
    rintro e w2 ⟨hn2, hw2⟩
    rcases hw2 with ⟨k0, k8, rfl, G, hR, hG⟩ | ⟨kn', rfl⟩
    · exact absurd ⟨k0, k8⟩ kn
    · have hfix := fixed_any w2
      have hn3 := HN1.out.trans hn2
      have HFIX := Lib.hid hfix
      have HN3 := Lib.hid hn3
      have KN := Lib.hid kn
      have KN' := Lib.hid kn'
      clear hfix hn3 kn kn'
      clear hn2
      go_wp2_with fail
      refine HFIX.out.mono ?_
      rintro e w4 ⟨rfl, hn4⟩
      have hend := HN3.out.trans hn4
      have HEND := Lib.hid hend
      clear hend
      clear hn4
      go_wp2_with fail
      go_ret
      exact ⟨rfl, HEND.out⟩
end Go.Proofs.Ytjjlemkmdldljaa.Locks
