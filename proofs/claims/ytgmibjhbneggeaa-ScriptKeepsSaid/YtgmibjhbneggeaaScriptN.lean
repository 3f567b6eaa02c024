/- The walk of package script's reader (layer 16): number. -/
import Derived.Test.YtgmibjhbneggeaaScriptW
import Derived.Deep.QuietTactic
import Derived.BigQuiet
import Derived.StillTailTactics
import Derived.Laws.CopyOwn
namespace Go.Proofs.Ytgmibjhbneggeaa.Script
open Go.RowKit Go.Fb Go.BytesP Go.ScriptP
set_option linter.unusedVariables false

/-- The reader: bytes, and a place. -/
def Rd (w : World) (r : Nat) (A : Option Addr) (n c p : Nat) : Prop := Blk w r 46 #[.slice A n c, .int .i64 p]
theorem number_none (B r : Nat) (A : Option Addr) (n c p m : Nat) (bs : List UInt8) (w : World) (hr : Rd w r A n c p) (hb : SliceOf Rep.byte w B A n c bs) (hB : B ≤ r) (hp : p ≤ n) (hm : m ≤ 8) (hs : n < p + m) :
    Calls Try.prog 22 #[.pointer (some ⟨r, 0, none⟩), .int .i64 m] w fun e w' => e = .returned (.tuple #[.int .u64 0, .bool false]) ∧ ∃ q, w' = w.drewN q := by
  have c0 : w.cell? ⟨r, 0, none⟩ = some (.slice A n c) := Blk.cell hr 0
  have c1 : w.cell? ⟨r, 1, none⟩ = some (.int .i64 p) := Blk.cell hr 1
  have hbd := hb.bound
  clear hr hb
  go_enter Try.func22, Try.ntmps22
  go_wp2
  go_quiet (fail)
  go_wp2
  go_ret2
  exact ⟨rfl, _, rfl⟩
/-- What is read, and zeros up to eight bytes. -/
def eight (bs : List UInt8) (p m : Nat) : List UInt8 := (bs.drop p).take m ++ List.replicate (8 - m) 0
theorem eight_length {bs : List UInt8} {p m : Nat} (h : p + m ≤ bs.length) (hm : m ≤ 8) : (eight bs p m).length = 8 := by
  unfold eight; rw [List.length_append, List.length_take, List.length_drop, List.length_replicate]; omega
theorem eight_val (bs : List UInt8) (p m : Nat) : val (eight bs p m) = val ((bs.drop p).take m) := val_zeros _ _
theorem eight_splice {bs : List UInt8} {p m : Nat} (h : p + m ≤ bs.length) (hm : m ≤ 8) : splice ((List.replicate 8 (0 : UInt8)).map bv) 0 (((bs.drop p).take m).map bv) = (eight bs p m).map bv := by
  have hl : ((bs.drop p).take m).length = m := by rw [List.length_take, List.length_drop]; omega
  unfold splice eight
  rw [List.map_append, List.length_map, hl, List.take_zero, List.nil_append, Nat.zero_add, ← List.map_drop, List.drop_replicate]
theorem number_some (B r : Nat) (A : Option Addr) (n c p m : Nat) (bs : List UInt8) (w : World) (hr : Rd w r A n c p) (hb : SliceOf Rep.byte w B A n c bs) (hB : B ≤ r) (hm0 : 0 < m) (hm : m ≤ 8) (hs : p + m ≤ n) :
    Calls Try.prog 22 #[.pointer (some ⟨r, 0, none⟩), .int .i64 m] w fun e w' => e = .returned (.tuple #[.int .u64 (val ((bs.drop p).take m)), .bool true]) ∧ Rd w' r A n c (p + m) ∧ Kept (fun k => k = r) w w' := by
  have c0 : w.cell? ⟨r, 0, none⟩ = some (.slice A n c) := Blk.cell hr 0
  have c1 : w.cell? ⟨r, 1, none⟩ = some (.int .i64 p) := Blk.cell hr 1
  have hbd := hb.bound
  obtain ⟨b, o, rfl, hbB, hc⟩ := hb.bytes (by omega)
  have HC := Lib.hid hc
  have HR := Lib.hid hr
  have hn := Lib.hid hb.len
  clear hr hb hc
  go_enter Try.func22, Try.ntmps22
  go_wp2
  go_quiet (fail)
  go_wp2
  have hsl := fun W => run_sliceAt_whole (P := Try.prog) 59 5 8 1 ⟨w.heap.size, 0, none⟩ Try.underlying59 (fun W => by kernel_rfl) W
  have hblk : Blk ((w.drewN nq).alloc (.cells ((List.replicate 8 (0 : UInt8)).map bv).toArray 59)) w.heap.size 59 ((List.replicate 8 (0 : UInt8)).map bv).toArray := Blk.made _ _ _
  have hkep : New w ((w.drewN nq).alloc (.cells ((List.replicate 8 (0 : UInt8)).map bv).toArray 59)) := ((Kept.refl _ _).drewN _).alloc _
  change (Code.wp _ _ _ _ ((w.drewN nq).alloc (.cells ((List.replicate 8 (0 : UInt8)).map bv).toArray 59)))
  generalize (w.drewN nq).alloc (.cells ((List.replicate 8 (0 : UInt8)).map bv).toArray 59) = W1 at *
  have hrl := HR.out.lt
  have d0 : W1.cell? ⟨r, 0, none⟩ = some (.slice (some ⟨b, o, none⟩) n c) := (hkep.cell hrl id).trans c0
  have d1 : W1.cell? ⟨r, 1, none⟩ = some (.int .i64 p) := (hkep.cell hrl id).trans c1
  have HBK := Lib.hid hblk
  have HKP := Lib.hid hkep
  clear hblk hkep c0 c1
  have w1 : IntKind.i64.wrap ((p : Int) + (m : Int)) = (p : Int) + (m : Int) := IntWalk.i64_in _ (by omega)
  have w2 : ((p : Int) + (m : Int)).toNat = p + m := by omega
  have w3 : (0 : Int) ≤ (p : Int) + (m : Int) := by omega
  have w4 : (p : Int) + (m : Int) ≤ (c : Int) := by omega
  have w5 : ¬ c = p := by omega
  have w6 : p + m - p = m := by omega
  go_still_tail 16, (by kernel_rfl)
  change wpList _ _ _ _ _ W1.drew
  have hpb : p + m ≤ bs.length := by have := hn.out; omega
  have hsz1 := HKP.out.size
  have hbw : b < w.heap.size := by omega
  refine wpList_copy_splice rfl _ _ 27 27 rfl 5 Try.underlying27 (by kernel_rfl) (some ⟨w.heap.size, 0, none⟩) (some ⟨b, o + p, none⟩) 8 8 m (c - p) rfl rfl w.heap.size 0 ((List.replicate 8 (0 : UInt8)).map bv) 59 HBK.out (((bs.drop p).take m).map bv) ?c1 ?c2 ?c3 (bv_one _) w.heap.size W1.drew (Below.refl _ _) (Nat.le_refl _) ?_
  case c1 => rw [List.length_map, List.length_take, List.length_drop]; show min m (bs.length - p) = min m 8; omega
  case c2 =>
    intro _
    refine ⟨rfl, _, rfl, fun j v hj => ?_⟩
    have hjm : j < m := by
      rcases Nat.lt_or_ge j m with h | h
      · exact h
      · rw [List.getElem?_eq_none (by rw [List.length_map, List.length_take]; omega)] at hj; cases hj
    rw [List.getElem?_map, List.getElem?_take, if_pos hjm, List.getElem?_drop, List.getElem?_eq_getElem (by omega)] at hj
    rw [add_eq]
    show W1.cell? ⟨b, o + p + j, none⟩ = some v
    rw [HKP.out.cell hbw id, Nat.add_assoc, HC.out (p + j) (by omega)]
    exact hj
  case c3 => rw [List.length_map, List.length_take, List.length_map, List.length_replicate]; omega
  intro w' hsp hbl
  have hsp' := hsp.out
  rw [eight_splice hpb hm] at hsp'
  have HSP : Hid (Blk w' w.heap.size 59 ((eight bs p m).map bv).toArray) := hsp'
  have HBL := Lib.hid hbl
  have e0 : w'.cell? ⟨r, 0, none⟩ = some (.slice (some ⟨b, o, none⟩) n c) := (hbl.cell (p := ⟨r, 0, none⟩) hrl).trans d0
  have e1 : w'.cell? ⟨r, 1, none⟩ = some (.int .i64 p) := (hbl.cell (p := ⟨r, 1, none⟩) hrl).trans d1
  have f1 : w'.frozen? ⟨r, 1, none⟩ = false := (hbl.frozen (p := ⟨r, 1, none⟩) hrl).trans ((HKP.out.frozen hrl id).trans (HR.out.free 1))
  clear hsp hbl hsp' d0 d1 w1 w2 w3 w4 w5 w6 hsl
  have hL := eight_length hpb hm
  have HL := Lib.hid hL
  have hsz8 : (Try.prog.info? 59).map (·.size) = some ((eight bs p m).map bv).toArray.size := by
    rw [List.size_toArray, List.length_map, hL]; kernel_rfl
  have HS8 := Lib.hid hsz8
  clear hL hsz8
  go_wp2_with (refine wpList_load_row rfl 59 _ rfl w.heap.size rfl 59 ((eight bs p m).map bv).toArray (0, 0) _ (HSP.out.other (Nat.ne_of_gt hrl) _) Try.underlying59 rfl HS8.out ?_)
  go_loop [7, 48] (fun v i => ∃ k : Nat, k ≤ 8 ∧ i = .int .i64 k ∧ v = .int .u64 (val ((eight bs p m).take k))) (fun _ i => (8 - intOf i).toNat)
  case atStart => exact ⟨0, by omega, rfl, rfl⟩
  case round =>
    obtain ⟨k, hk, rfl, rfl⟩ := hrel
    by_cases hlt : k < 8
    · have hkl : k < (eight bs p m).length := by rw [HL.out]; exact hlt
      have hidx := fun W => run_index_bytes (P := Try.prog) Try.underlying59 (fun W => by kernel_rfl) (fun W => by kernel_rfl) (eight bs p m) HL.out k hkl W
      have hvl := val_lt ((eight bs p m).take k)
      rw [List.length_take, Nat.min_eq_left (by omega)] at hvl
      have hor := or_byte (c := (eight bs p m)[k].toNat) hvl hlt (eight bs p m)[k].toNat_lt
      have hsn : val ((eight bs p m).take (k + 1)) = val ((eight bs p m).take k) + 256 ^ k * (eight bs p m)[k].toNat := by
        rw [List.take_succ_eq_append_getElem hkl, val_snoc, List.length_take, Nat.min_eq_left (by omega)]
      have HOR := Lib.hid hor
      have HSN := Lib.hid hsn
      have hcv := u64_byte (eight bs p m)[k]
      clear hor hsn hvl
      go_wp2
      go_round
      case rel => exact ⟨k + 1, by omega, by go_num, by rw [HSN.out, ← HOR.out]⟩
      case measure => simp [intOf]; omega
    · obtain rfl : k = 8 := by omega
      have hv : val ((eight bs p m).take 8) = val ((bs.drop p).take m) := by rw [List.take_of_length_le (by rw [HL.out]; omega), eight_val]
      have HV := Lib.hid hv
      clear hv
      go_wp2
      go_ret2
      refine ⟨by rw [← HV.out]; rfl, ?_, ?_⟩
      · have h1 : Blk w' r 46 #[.slice (some ⟨b, o, none⟩) n c, .int .i64 p] := Blk.below (w := W1.drew) (Blk.kept (g := fun _ => False) HR.out HKP.out.drew id) HBL.out hrl
        exact h1.set _
      · have h1 : New w w' := HKP.out.drew.step (Kept.of_below HBL.out) fun i hi h => by omega
        exact Kept.setCell (g := fun k => k = r) (h1.mono fun _ _ h => h.elim) (.inr rfl) _
end Go.Proofs.Ytgmibjhbneggeaa.Script
