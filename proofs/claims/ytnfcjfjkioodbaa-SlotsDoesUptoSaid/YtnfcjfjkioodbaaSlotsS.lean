/- The walk of SlotsDoes. -/
import Derived.Test.YtnfcjfjkioodbaaSlotsG
namespace Go.Proofs.Ytnfcjfjkioodbaa.Slots
open Go.RowKit Go.Fb Go.SlotsP
set_option linter.unusedVariables false
/-- A question. -/
structure Ask where
  part : Int
  from_ : Int
  num : Int
def repAsk : Rep Ask where
  size := 3
  cells _ _ x cs := cs = [.int .i64 x.part, .int .i64 x.from_, .int .i64 x.num] ∧ (Lit.int .i64 x.part).wf = true ∧ (Lit.int .i64 x.from_).wf = true ∧ (Lit.int .i64 x.num).wf = true
  length h := by rw [h.1]; rfl
  stays _ h := h
  more _ h := h
theorem opens_ask : Opens Try.prog repAsk 31 := by
  have h : Opens Try.prog (((Rep.int .i64).pair ((Rep.int .i64).pair ((Rep.int .i64).pair Rep.unit)))) 31 := opens_struct Try.underlying31 (by kernel_rfl)
    (opensAt_cons rfl (by kernel_rfl) (opens_int Try.underlying3) (opensAt_cons rfl (by kernel_rfl) (opens_int Try.underlying2) (opensAt_cons rfl (by kernel_rfl) (opens_int Try.underlying2) opensAt_nil)))
  intro H enc w fuel cs y hy
  obtain ⟨x, hx⟩ := h H enc w fuel cs y hy
  obtain ⟨_, _, rfl, ⟨rfl, h1⟩, _, _, rfl, ⟨rfl, h2⟩, _, _, rfl, ⟨rfl, h3⟩, rfl⟩ := hx
  exact ⟨⟨x.1, x.2.1, x.2.2.1⟩, rfl, h1, h2, h3⟩
theorem ask_at {w : World} {B : Nat} {A : Option Addr} {n c : Nat} {l : List Ask} (h : SliceOf repAsk w B A n c l) (hn : 0 < n) :
    ∃ b o, A = some ⟨b, o, none⟩ ∧ b < B ∧ ∀ i (h : i < l.length), (w.cell? ⟨b, o + i * 3, none⟩ = some (.int .i64 l[i].part) ∧ w.cell? ⟨b, o + i * 3 + 1, none⟩ = some (.int .i64 l[i].from_) ∧ w.cell? ⟨b, o + i * 3 + 2, none⟩ = some (.int .i64 l[i].num)) ∧
      (l[i].from_ ≤ 9223372036854775807 ∧ l[i].num ≤ 9223372036854775807) := by
  obtain ⟨b, o, e, hb, hc⟩ := h.get hn
  refine ⟨b, o, e, hb, fun i hi => ?_⟩
  obtain ⟨es, g1, g2, _, w2, w3⟩ := hc i hi
  subst g2
  exact ⟨⟨g1 0 (by decide), g1 1 (by decide), g1 2 (by decide)⟩, (bounds_i64 w2).2, (bounds_i64 w3).2⟩
set_option maxRecDepth 100000 in
set_option maxHeartbeats 4000000 in
theorem does_walk (A : Option Addr) (n c : Nat) (T : List Int) (parts : Int) (A2 : Option Addr) (m c2 : Nat) (L : List Ask) (w : World) (hl : SliceOf (Rep.int .i64) w w.heap.size A n c T) (hL : SliceOf repAsk w w.heap.size A2 m c2 L) :
    Calls Try.prog 3 #[.slice A n c, .int .i64 parts, .slice A2 m c2] w fun e w' => e = .returned (.bool true) ∧ New w w' := by
  have hb := hl.bound
  have hfix := fixed_any w
  by_cases hn : n ≤ 1048576
  · have hlong := fun W => long_no A n c W hb hn
    have hbm := hL.bound
    have hmL := hL.len
    have hnT := hl.len
    have HL := Lib.hid hl
    have HFIX := Lib.hid hfix
    have HLONG := Lib.hid hlong
    have HLL := Lib.hid hL
    have HML := Lib.hid hmL
    have HNT := Lib.hid hnT
    clear hl hfix hlong hL hmL hnT
    go_enter Try.func3, Try.ntmps3
    go_wp2_with fail
    refine HFIX.out.mono ?_
    rintro e w1 ⟨rfl, hw1⟩
    have hmade := made_any A n c T parts w1 ((HL.out.kept hw1 (Nat.le_refl _) fun _ _ h => h).more hw1.size) hn
    have HMADE := Lib.hid hmade
    have HW1 := Lib.hid hw1
    clear hmade hw1
    go_wp2_with (go_at_call 7; refine (HLONG.out _).mono ?_; rintro e w' ⟨rfl, rfl⟩)
    refine HMADE.out.mono ?_
    rintro e w2 ⟨hw2, ⟨hE, b, r, o, c3, b2, r2, o2, c4, rfl, hA, hA2⟩ | ⟨hE, rfl⟩⟩
    · have hn2 : New w w2 := HW1.out.trans hw2
      have HA := Lib.hid hA
      have HA2 := Lib.hid hA2
      have HN2 := Lib.hid hn2
      have HE := Lib.hid hE
      clear hA hA2 hn2 hE
      clear hw2
      go_wp2_with fail
      go_loopw [11] (fun i wr => ∃ k : Nat, k ≤ m ∧ i = .int .i64 k ∧ New w2 wr) (fun i _ => (m - (intOf i).toNat))
      case atStart => exact ⟨0, by omega, rfl, Kept.refl _ _⟩
      case round =>
        obtain ⟨k, hk, rfl, hnr⟩ := hrel
        by_cases hlt : k < m
        · have hLr := HLL.out.kept (HN2.out.trans hnr) (Nat.le_refl _) fun _ _ h => h
          obtain ⟨b0, o0, rfl, hb0, hc0⟩ := ask_at hLr (by omega)
          have hkL : k < L.length := by have := HML.out; omega
          obtain ⟨⟨z0, z1, z2⟩, z3, z4⟩ := hc0 k hkL
          generalize L[k] = q at *
          obtain ⟨qp, qf, qn⟩ := q
          simp only at z0 z1 z2 z3 z4
          have hs1 := size1 wr (.cells #[.int .i64 qp, .int .i64 qf, .int .i64 qn] 31)
          have hb1 : Blk (wr.alloc (.cells #[.int .i64 qp, .int .i64 qf, .int .i64 qn] 31)) wr.heap.size 31 #[.int .i64 qp, .int .i64 qf, .int .i64 qn] := Blk.made _ _ _
          have HNR := Lib.hid hnr
          have HLR := Lib.hid hLr
          have HB1 := Lib.hid hb1
          have HS1 := Lib.hid hs1
          clear hnr hLr hb1 hs1
          clear hc0 hkL
          go_wp2_with fail
          generalize hW : wr.alloc (.cells #[.int .i64 qp, .int .i64 qf, .int .i64 qn] 31) = W at *
          have hnW : New w2 W := by rw [← hW]; exact HNR.out.alloc _
          clear hW
          have x0 := HB1.out.cell 0
          have x1 := HB1.out.cell 1
          have x2 := HB1.out.cell 2
          simp only [List.getElem?_toArray, List.getElem?_cons_zero, List.getElem?_cons_succ] at x0 x1 x2
          have hAW := HA.out.new hnW
          have hBW := HA2.out.new hnW
          have K1 := Lib.hid (fun q => nth_any (hAW.drewN q) qp qf qn z3 z4)
          have K2 := Lib.hid (fun q => rnth_any (hBW.drewN q) qp qf qn z3 z4)
          have K3 := Lib.hid (fun q => owner_any (hAW.drewN q) qf)
          have K4 := Lib.hid (fun q => rowner_any (hBW.drewN q) qf)
          have K5 := Lib.hid (fun q => gap_any (hAW.drewN q) qp)
          have K6 := Lib.hid (fun q => rgap_any (hBW.drewN q) qp)
          have K7 := Lib.hid (fun q => count_any (hAW.drewN q) qp qf qn z3 z4)
          have K8 := Lib.hid (fun q => rcount_any (hBW.drewN q) qp qf qn z3 z4)
          have K9 := Lib.hid (fun q => len_any (hAW.drewN q))
          rw [← HNT.out] at K9
          generalize nth T qp qf qn = res at *
          obtain ⟨r1, r3⟩ := res
          simp only at K1 K2
          generalize ownI T qf = v1 at *
          generalize gap T qp = v2 at *
          generalize count T qp qf qn = v3 at *
          have HNW := Lib.hid hnW
          clear hnW
          clear hAW hBW z0 z1 z2
          refine (K1.out 0).mono ?_
          rintro e w' ⟨rfl, q1, rfl⟩
          go_wp2_with fail
          refine (K2.out _).mono ?_
          rintro e w' ⟨rfl, q2, rfl⟩
          go_wp2_with fail
          go_quiet (first | (with_reducible exact quiet2 (K3.out _)) | (with_reducible exact quiet2 (K4.out _)) | (with_reducible exact quiet2 (K5.out _)) | (with_reducible exact quiet2 (K6.out _)) | (with_reducible exact quiet2 (K7.out _)) | (with_reducible exact quiet2 (K8.out _)) | (with_reducible exact quiet2 (K9.out _)))
          go_wp2_with fail
          go_roundw
          case rel => exact ⟨k + 1, by omega, by go_num, HNW.out.drewN _⟩
          case measure => simp [intOf]; omega
        · obtain rfl : k = m := by omega
          have hN := HN2.out.trans hnr
          go_wp2_with fail
          go_ret
          exact ⟨rfl, hN⟩
    · have hn2 : New w w2 := HW1.out.trans hw2
      go_wp2_with fail
      go_ret
      exact ⟨rfl, hn2⟩
  · have hlong := fun W => long_yes A n c W hb hn
    have HL := Lib.hid hl
    have HFIX := Lib.hid hfix
    have HLONG := Lib.hid hlong
    clear hl hfix hlong
    clear hn
    go_enter Try.func3, Try.ntmps3
    go_wp2_with fail
    refine HFIX.out.mono ?_
    rintro e w1 ⟨rfl, hw1⟩
    go_wp2_with (refine (HLONG.out _).mono ?_; rintro e w' ⟨rfl, rfl⟩)
    go_ret
    exact ⟨rfl, hw1⟩
end Go.Proofs.Ytnfcjfjkioodbaa.Slots
