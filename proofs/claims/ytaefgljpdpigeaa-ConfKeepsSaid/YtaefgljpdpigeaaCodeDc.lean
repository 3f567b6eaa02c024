/- The walks of Decode (layer 6): the reference's Get. -/
import Derived.Test.YtaefgljpdpigeaaCodeEc
import Derived.Test.YtaefgljpdpigeaaReaderP
import Derived.Deep.QuietTactic
import Derived.BigQuiet
import Derived.StillTailTactics
namespace Go.Proofs.Ytaefgljpdpigeaa.Code
open Go.RowKit Go.Fb Go.BytesP Go.CodeP Go.ReaderP
set_option linter.unusedVariables false

theorem wrap_eq (n : Int) : IntKind.i64.wrap n = wrap64 n := by unfold wrap64; exact IntKind.wrap_i64 n
theorem get_bytes {bs : List UInt8} (h : 12 ≤ bs.length) : get (bs.take 12) = ⟨(bs[0]'(by omega)).toNat, (bs[1]'(by omega)).toNat, (bs[2]'(by omega)).toNat, (bs[3]'(by omega)).toNat, wrap64 (numV bs 4 8)⟩ := by
  have e : (bs.take 12).drop 4 = (bs.drop 4).take 8 := by rw [List.drop_take]
  unfold CodeP.get numV
  rw [e]
  congr 2
  all_goals
    rw [List.getD_eq_getElem?_getD, List.getElem?_take, if_pos (by decide), List.getElem?_eq_getElem (by omega)]
    rfl
set_option maxRecDepth 100000 in
set_option maxHeartbeats 1000000 in
theorem ref_get (B : Nat) (A : Option Addr) (n c : Nat) (bs : List UInt8) (w : World) (hb : SliceOf Rep.byte w B A n c bs) (hB : B ≤ w.heap.size) (hn : 12 ≤ n) :
    Calls Try.prog 79 #[.slice A n c] w fun e w' => e = .returned (agg (get (bs.take 12))) ∧ New w w' := by
  have hbd := hb.bound
  have hl := hb.len
  have hg := get_bytes (bs := bs) (by omega)
  obtain ⟨b, o, rfl, hbB, hc⟩ := hb.bytes (by omega)
  have e0 : w.cell? ⟨b, o, none⟩ = some (.int .u8 ((bs[0]'(by omega)).toNat : Int)) := hc 0 (by omega)
  have e1 := hc 1 (by omega)
  have e2 := hc 2 (by omega)
  have e3 := hc 3 (by omega)
  have t0 := (bs[0]'(by omega)).toNat_lt
  have t1 := (bs[1]'(by omega)).toNat_lt
  have t2 := (bs[2]'(by omega)).toNat_lt
  have t3 := (bs[3]'(by omega)).toNat_lt
  have hv8 := numV_lt bs 4 8
  have HC : Hid (∀ i, i < 8 → ∃ h : 4 + i < bs.length, w.cell? ⟨b, o + (4 + i), none⟩ = some (.int .u8 (bs[4 + i].toNat : Int))) := Lib.hid fun i hi => ⟨by omega, hc (4 + i) (by omega)⟩
  have HL := Lib.hid (show 12 ≤ bs.length by omega)
  have hbw : b < w.heap.size := by omega
  generalize (bs[0]'(by omega)).toNat = x0 at *
  generalize (bs[1]'(by omega)).toNat = x1 at *
  generalize (bs[2]'(by omega)).toNat = x2 at *
  generalize (bs[3]'(by omega)).toNat = x3 at *
  have HG := Lib.hid hg
  clear hg
  clear hb hc hl
  go_enter Try.func79, Try.ntmps79
  go_wp2
  have hblk : Blk (w.alloc (.cells #[.int .i64 0, .int .i64 0, .int .i64 0, .int .i64 0, .int .i64 0] 62)) w.heap.size 62 #[.int .i64 0, .int .i64 0, .int .i64 0, .int .i64 0, .int .i64 0] := Blk.made _ _ _
  have hkep : New w (w.alloc (.cells #[.int .i64 0, .int .i64 0, .int .i64 0, .int .i64 0, .int .i64 0] 62)) := (Kept.refl _ _).alloc _
  generalize w.alloc (.cells #[.int .i64 0, .int .i64 0, .int .i64 0, .int .i64 0, .int .i64 0] 62) = W1 at *
  replace e0 := (hkep.cell (p := ⟨b, o, none⟩) hbw id).trans e0
  replace e1 := (hkep.cell (p := ⟨b, o + 1, none⟩) hbw id).trans e1
  replace e2 := (hkep.cell (p := ⟨b, o + 2, none⟩) hbw id).trans e2
  replace e3 := (hkep.cell (p := ⟨b, o + 3, none⟩) hbw id).trans e3
  have HC1 : Hid (∀ i, i < 8 → ∃ h : 4 + i < bs.length, W1.cell? ⟨b, o + (4 + i), none⟩ = some (.int .u8 (bs[4 + i].toNat : Int))) := Lib.hid fun i hi => by
    obtain ⟨h, hc⟩ := HC.out i hi
    exact ⟨h, (hkep.cell (p := ⟨b, o + (4 + i), none⟩) hbw id).trans hc⟩
  have z0 : W1.cell? ⟨w.heap.size, 0, none⟩ = some (.int .i64 0) := hblk.cell 0
  have z1 : W1.cell? ⟨w.heap.size, 1, none⟩ = some (.int .i64 0) := hblk.cell 1
  have z2 : W1.cell? ⟨w.heap.size, 2, none⟩ = some (.int .i64 0) := hblk.cell 2
  have z3 : W1.cell? ⟨w.heap.size, 3, none⟩ = some (.int .i64 0) := hblk.cell 3
  have z4 : W1.cell? ⟨w.heap.size, 4, none⟩ = some (.int .i64 0) := hblk.cell 4
  have f0 : W1.frozen? ⟨w.heap.size, 0, none⟩ = false := hblk.free 0
  have f1 : W1.frozen? ⟨w.heap.size, 1, none⟩ = false := hblk.free 1
  have f2 : W1.frozen? ⟨w.heap.size, 2, none⟩ = false := hblk.free 2
  have f3 : W1.frozen? ⟨w.heap.size, 3, none⟩ = false := hblk.free 3
  have f4 : W1.frozen? ⟨w.heap.size, 4, none⟩ = false := hblk.free 4
  have HBLK := Lib.hid hblk
  have HKEP := Lib.hid hkep
  clear hblk hkep
  go_loop [3, 4] (fun v i => ∃ k : Nat, k ≤ 8 ∧ i = .int .i64 k ∧ v = .int .u64 (numV bs 4 k)) (fun _ i => (8 - intOf i).toNat)
  case atStart => exact ⟨0, by omega, rfl, rfl⟩
  case round =>
    obtain ⟨k, hk, rfl, rfl⟩ := hrel
    by_cases hlt : k < 8
    · obtain ⟨hkl, hcell⟩ := HC1.out k hlt
      have hvl := numV_lt bs 4 k
      have hor := or_byte (c := bs[4 + k].toNat) hvl (by omega) bs[4 + k].toNat_lt
      have hsn := numV_snoc hkl
      have hcv := u64_byte bs[4 + k]
      have w5 : IntKind.i64.wrap (8 * (k : Int)) = 8 * (k : Int) := IntWalk.i64_in _ (by omega)
      have HOR := Lib.hid hor
      have HSN := Lib.hid hsn
      clear hor hsn
      clear hvl
      go_wp2
      go_round
      case rel => exact ⟨k + 1, by omega, by go_num, by rw [HSN.out, ← HOR.out]⟩
      case measure => simp [intOf]; omega
    · obtain rfl : k = 8 := by omega
      generalize numV bs 4 8 = v8 at *
      have q0 : IntKind.i64.wrap (x0 : Int) = (x0 : Int) := IntWalk.i64_in _ (by omega)
      have q1 : IntKind.i64.wrap (x1 : Int) = (x1 : Int) := IntWalk.i64_in _ (by omega)
      have q2 : IntKind.i64.wrap (x2 : Int) = (x2 : Int) := IntWalk.i64_in _ (by omega)
      have q3 : IntKind.i64.wrap (x3 : Int) = (x3 : Int) := IntWalk.i64_in _ (by omega)
      have q8 : IntKind.i64.wrap (v8 : Int) = wrap64 v8 := wrap_eq _
      clear hv8
      have j0 : (0 : Int) < (n : Int) := by omega
      have j1 : (1 : Int) < (n : Int) := by omega
      have j2 : (2 : Int) < (n : Int) := by omega
      have j3 : (3 : Int) < (n : Int) := by omega
      have i0 : 0 < n := by omega
      have i1 : 1 < n := by omega
      have i2 : 2 < n := by omega
      have i3 : 3 < n := by omega
      go_wp2
      go_still_tail 19, (by kernel_rfl)
      change wpList _ _ _ _ _ W1.drew
      clear q0 q1 q2 q3 q8
      have hk2 : New w W1.drew := HKEP.out.drew
      have hb2 : Blk W1.drew w.heap.size 62 #[.int .i64 0, .int .i64 0, .int .i64 0, .int .i64 0, .int .i64 0] := HBLK.out.kept (Kept.refl (fun _ => False) W1).drew id
      clear e0 e1 e2 e3 HC1 z0 z1 z2 z3 z4 f0 f1 f2 f3 f4 HKEP HBLK
      generalize W1.drew = W2 at *
      have z0 : W2.cell? ⟨w.heap.size, 0, none⟩ = some (.int .i64 0) := hb2.cell 0
      have z1 : W2.cell? ⟨w.heap.size, 1, none⟩ = some (.int .i64 0) := hb2.cell 1
      have z2 : W2.cell? ⟨w.heap.size, 2, none⟩ = some (.int .i64 0) := hb2.cell 2
      have z3 : W2.cell? ⟨w.heap.size, 3, none⟩ = some (.int .i64 0) := hb2.cell 3
      have z4 : W2.cell? ⟨w.heap.size, 4, none⟩ = some (.int .i64 0) := hb2.cell 4
      have f0 : W2.frozen? ⟨w.heap.size, 0, none⟩ = false := hb2.free 0
      have f1 : W2.frozen? ⟨w.heap.size, 1, none⟩ = false := hb2.free 1
      have f2 : W2.frozen? ⟨w.heap.size, 2, none⟩ = false := hb2.free 2
      have f3 : W2.frozen? ⟨w.heap.size, 3, none⟩ = false := hb2.free 3
      have f4 : W2.frozen? ⟨w.heap.size, 4, none⟩ = false := hb2.free 4
      clear hb2
      go_wp2
      rw [HG.out]
      refine bodyPost_ret (v := agg ⟨x0, x1, x2, x3, wrap64 v8⟩) (by simp [results, Try.results79, go_sem, agg, z0, z1, z2, z3, z4]) rfl ⟨rfl, ?_⟩
      exact ((((hk2.setCell (.inl (Nat.le_refl _)) _).setCell (.inl (Nat.le_refl _)) _).setCell (.inl (Nat.le_refl _)) _).setCell (.inl (Nat.le_refl _)) _).setCell (.inl (Nat.le_refl _)) _
end Go.Proofs.Ytaefgljpdpigeaa.Code
