/- The walk of chapter 6's law CodeChecks. -/
import Derived.Test.YtfffjlcifokdmaaCodeO
namespace Go.Proofs.Ytfffjlcifokdmaa.Code
open Go.RowKit Go.Fb Go.BytesP Go.CodeP Go.ReaderP
set_option linter.unusedVariables false

def At5 (b : Nat) (x : Ins) (W : World) : Prop := W.cell? ⟨b, 0, none⟩ = some (.int .i64 x.op) ∧ W.cell? ⟨b, 1, none⟩ = some (.int .i64 x.a) ∧ W.cell? ⟨b, 2, none⟩ = some (.int .i64 x.b) ∧ W.cell? ⟨b, 3, none⟩ = some (.int .i64 x.c) ∧ W.cell? ⟨b, 4, none⟩ = some (.int .i64 x.imm)
theorem at5_new {b : Nat} {x : Ins} {W W' : World} (h : At5 b x W) (hb : b < W.heap.size) (hn : New W W') : At5 b x W' := by
  obtain ⟨h0, h1, h2, h3, h4⟩ := h
  exact ⟨(hn.cell (p := ⟨b, 0, none⟩) hb id).trans h0, (hn.cell (p := ⟨b, 1, none⟩) hb id).trans h1, (hn.cell (p := ⟨b, 2, none⟩) hb id).trans h2, (hn.cell (p := ⟨b, 3, none⟩) hb id).trans h3, (hn.cell (p := ⟨b, 4, none⟩) hb id).trans h4⟩
theorem at5_lt {b : Nat} {x : Ins} {W : World} (h : At5 b x W) : b < W.heap.size := (lt_of_cell h.1).1
set_option maxRecDepth 100000 in
set_option maxHeartbeats 2000000 in
theorem checks_walk (cs : Array Value) (x : Ins) (hx : cs.toList = cellsI x) (n locks op : Int) (w : World) :
    Calls Try.prog 4 #[.agg cs, .int .i64 n, .int .i64 locks, .int .i64 op] w fun e w' => e = .returned (.bool true) ∧ New w w' := by
  obtain rfl : cs = #[.int .i64 x.op, .int .i64 x.a, .int .i64 x.b, .int .i64 x.c, .int .i64 x.imm] := by
    apply Array.toList_inj.1; rw [hx]; rfl
  clear hx
  go_enter Try.func4, Try.ntmps4
  go_wp2_with (go_at_call 10; refine (awake_any _).mono ?_; rintro e w1 ⟨rfl, hw1⟩)
  have hb : At5 w.heap.size x w1 := at5_new (x := x) ⟨(Blk.made w _ _).cell 0, (Blk.made w _ _).cell 1, (Blk.made w _ _).cell 2, (Blk.made w _ _).cell 3, (Blk.made w _ _).cell 4⟩ (by simp) hw1
  have hn1 : New w w1 := ((Kept.refl _ _).alloc _).trans hw1
  have HB := Lib.hid hb
  have HN1 := Lib.hid hn1
  clear hb hn1
  clear hw1
  go_loopw [9] (fun i wr => ∃ k : Int, -1 ≤ k ∧ k ≤ 36 ∧ i = .int .i64 k ∧ At5 w.heap.size x wr ∧ New w wr) (fun i _ => (36 - intOf i).toNat)
  case atStart => exact ⟨-1, by omega, by omega, rfl, HB.out, HN1.out⟩
  case round =>
    obtain ⟨k, hk0, hk1, rfl, hat, hnew⟩ := hrel
    have HAT := Lib.hid hat
    have HNEW := Lib.hid hnew
    clear hat hnew
    by_cases hlt : k ≤ 35
    · go_wp2_with fail
      refine (fields_any _ _).mono ?_
      rintro e w2 ⟨rfl, hw2⟩
      have ha2 := at5_new HAT.out (at5_lt HAT.out) hw2
      have hn2 := HNEW.out.trans hw2
      have HW2 := Lib.hid hw2
      clear hw2
      go_wp2_with fail
      refine (ref_fields _ _).mono ?_
      rintro e w3 ⟨rfl, rfl⟩
      generalize hasA k = ba at *
      generalize hasB k = bb at *
      generalize hasC k = bc at *
      generalize hasI k = bi at *
      have q1 : (ba != ba) = false := by simp
      have q2 : (bb != bb) = false := by simp
      have q3 : (bc != bc) = false := by simp
      have q4 : (bi != bi) = false := by simp
      obtain ⟨c0, c1, c2, c3, c4⟩ := ha2
      have HN2 := Lib.hid hn2
      clear hn2
      go_wp2_with fail
      have hw5 : At5 w2.heap.size ⟨k, x.a, x.b, x.c, x.imm⟩ (w2.alloc (.cells #[.int .i64 k, .int .i64 x.a, .int .i64 x.b, .int .i64 x.c, .int .i64 x.imm] 25)) := ⟨(Blk.made w2 _ _).cell 0, (Blk.made w2 _ _).cell 1, (Blk.made w2 _ _).cell 2, (Blk.made w2 _ _).cell 3, (Blk.made w2 _ _).cell 4⟩
      have hat2 : At5 w.heap.size x (w2.alloc (.cells #[.int .i64 k, .int .i64 x.a, .int .i64 x.b, .int .i64 x.c, .int .i64 x.imm] 25)) := at5_new (at5_new HAT.out (at5_lt HAT.out) HW2.out) (by have := at5_lt HAT.out; have := HW2.out.size; omega) ((Kept.refl _ _).alloc _)
      have hn5 : New w (w2.alloc (.cells #[.int .i64 k, .int .i64 x.a, .int .i64 x.b, .int .i64 x.c, .int .i64 x.imm] 25)) := HN2.out.alloc _
      generalize (w2.alloc (.cells #[.int .i64 k, .int .i64 x.a, .int .i64 x.b, .int .i64 x.c, .int .i64 x.imm] 25)) = W5 at *
      have hlt5 := at5_lt hw5
      have hl5 := at5_lt hat2
      have hc13 : ∀ W, At5 w2.heap.size ⟨k, x.a, x.b, x.c, x.imm⟩ W → Calls Try.prog 13 #[agg ⟨k, x.a, x.b, x.c, x.imm⟩, .int .i64 n, .int .i64 locks] W fun e w' => e = .returned (.int .i64 (check ⟨k, x.a, x.b, x.c, x.imm⟩ n locks)) ∧ At5 w2.heap.size ⟨k, x.a, x.b, x.c, x.imm⟩ w' ∧ New W w' := fun W hW =>
        (check_any ⟨k, x.a, x.b, x.c, x.imm⟩ n locks W).mono fun e w' ⟨h1, h2⟩ => ⟨h1, at5_new hW (at5_lt hW) h2, h2⟩
      have hc14 : ∀ W, At5 w2.heap.size ⟨k, x.a, x.b, x.c, x.imm⟩ W → Calls Try.prog 14 #[agg ⟨k, x.a, x.b, x.c, x.imm⟩, .int .i64 n, .int .i64 locks] W fun e w' => e = .returned (.int .i64 (check ⟨k, x.a, x.b, x.c, x.imm⟩ n locks)) ∧ At5 w2.heap.size ⟨k, x.a, x.b, x.c, x.imm⟩ w' ∧ New W w' := fun W hW =>
        (ref_check ⟨k, x.a, x.b, x.c, x.imm⟩ n locks W).mono fun e w' ⟨h1, h2⟩ => ⟨h1, at5_new hW (at5_lt hW) h2, h2⟩
      generalize check ⟨k, x.a, x.b, x.c, x.imm⟩ n locks = v at *
      unfold At5 at hw5 hc13 hc14
      unfold agg at hc13 hc14
      simp only at hw5 hc13 hc14
      obtain ⟨d0, d1, d2, d3, d4⟩ := hw5
      have q5 : (v != v) = false := by simp
      have HC13 := Lib.hid hc13
      have HC14 := Lib.hid hc14
      have HN5 := Lib.hid hn5
      have HAT2 := Lib.hid hat2
      clear hc13 hc14 hn5 hat2
      clear c0 c1 c2 c3 c4
      go_region_held3 (fun w' => w'.cell? ⟨w2.heap.size, 0, none⟩ = some (.int .i64 k) ∧ w'.cell? ⟨w2.heap.size, 1, none⟩ = some (.int .i64 x.a) ∧ w'.cell? ⟨w2.heap.size, 2, none⟩ = some (.int .i64 x.b) ∧ w'.cell? ⟨w2.heap.size, 3, none⟩ = some (.int .i64 x.c) ∧ w'.cell? ⟨w2.heap.size, 4, none⟩ = some (.int .i64 x.imm)) (first | assumption | go_keep) (first | (go_at_call 13; refine (HC13.out _ (by assumption)).mono ?_; rintro e w6 ⟨rfl, hs6, hw6⟩) | (go_at_call 14; refine (HC14.out _ (by assumption)).mono ?_; rintro e w7 ⟨rfl, hs7, hw7⟩))
      have h57 : New W5 w7 := (((Kept.refl _ _).drew).trans hw6).trans hw7
      have h7 := HN5.out.trans h57
      have ha7 := at5_new HAT2.out hl5 h57
      have H7 := Lib.hid h7
      have HA7 := Lib.hid ha7
      clear h7 ha7
      clear hs6 hs7 hw6 hw7 h57
      go_wp2_with fail
      exact ⟨⟨k + 1, by omega, by omega, by go_num, HA7.out, H7.out⟩, by simp [intOf]; omega⟩
    · obtain rfl : k = 36 := by omega
      go_wp2_with fail
      refine (fields_any _ _).mono ?_
      rintro e w2 ⟨rfl, hw2⟩
      have hw5 := at5_new HAT.out (at5_lt HAT.out) hw2
      have hn5 := HNEW.out.trans hw2
      clear hw2
      go_wp2_with fail
      refine (ref_fields _ _).mono ?_
      rintro e w3 ⟨rfl, rfl⟩
      generalize hasA op = ba at *
      generalize hasB op = bb at *
      generalize hasC op = bc at *
      generalize hasI op = bi at *
      have q1 : (ba == ba) = true := by simp
      have q2 : (bb == bb) = true := by simp
      have q3 : (bc == bc) = true := by simp
      have q4 : (bi == bi) = true := by simp
      have hc13 : ∀ W, At5 w.heap.size x W → Calls Try.prog 13 #[agg x, .int .i64 n, .int .i64 locks] W fun e w' => e = .returned (.int .i64 (check x n locks)) ∧ At5 w.heap.size x w' ∧ New W w' := fun W hW =>
        (check_any x n locks W).mono fun e w' ⟨h1, h2⟩ => ⟨h1, at5_new hW (at5_lt hW) h2, h2⟩
      have hc14 : ∀ W, At5 w.heap.size x W → Calls Try.prog 14 #[agg x, .int .i64 n, .int .i64 locks] W fun e w' => e = .returned (.int .i64 (check x n locks)) ∧ At5 w.heap.size x w' ∧ New W w' := fun W hW =>
        (ref_check x n locks W).mono fun e w' ⟨h1, h2⟩ => ⟨h1, at5_new hW (at5_lt hW) h2, h2⟩
      generalize check x n locks = v at *
      unfold At5 at hw5 hc13 hc14
      unfold agg at hc13 hc14
      obtain ⟨d0, d1, d2, d3, d4⟩ := hw5
      have q5 : (v == v) = true := by simp
      have HC13 := Lib.hid hc13
      have HC14 := Lib.hid hc14
      have HN5 := Lib.hid hn5
      clear hc13 hc14 hn5
      go_wp2_with fail
      go_region_held3 (fun w' => w'.cell? ⟨w.heap.size, 0, none⟩ = some (.int .i64 x.op) ∧ w'.cell? ⟨w.heap.size, 1, none⟩ = some (.int .i64 x.a) ∧ w'.cell? ⟨w.heap.size, 2, none⟩ = some (.int .i64 x.b) ∧ w'.cell? ⟨w.heap.size, 3, none⟩ = some (.int .i64 x.c) ∧ w'.cell? ⟨w.heap.size, 4, none⟩ = some (.int .i64 x.imm)) (first | assumption | go_keep) (first | (go_at_call 13; refine (HC13.out _ (by assumption)).mono ?_; rintro e w6 ⟨rfl, hs6, hw6⟩) | (go_at_call 14; refine (HC14.out _ (by assumption)).mono ?_; rintro e w7 ⟨rfl, hs7, hw7⟩))
      have h8 := ((HN5.out.drew).trans hw6).trans hw7
      have H8 := Lib.hid h8
      clear h8
      clear hs6 hs7 hw6 hw7
      all_goals go_wp2_with fail
      go_ret
      exact ⟨rfl, H8.out⟩
end Go.Proofs.Ytfffjlcifokdmaa.Code
