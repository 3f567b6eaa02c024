/- The walks of Encode (layer 6), and of the reference's Put. -/
import Derived.Test.YtaefgljpdpigeaaCodeM
namespace Go.Proofs.Ytaefgljpdpigeaa.Code
open Go.RowKit Go.Fb Go.BytesP Go.CodeP
set_option linter.unusedVariables false

theorem tyBytes : SliceTy Try.prog 27 5 1 1 := by
  obtain ⟨i, hi, hz, hs, hb⟩ := info_parts (P := Try.prog) (e := 5) (z := .int .u8 0) (size := 1) (bytes := 1) (by kernel_rfl)
  exact ⟨Try.underlying27, ⟨i, _, hi, hz, hs, hb, rfl⟩, by decide⟩
/-- Bytes that may be written. -/
abbrev RowB (w : World) (r : Option Nat) (A : Option Addr) (n c : Nat) (l : List UInt8) : Prop := Row w 1 r A n c (l.map bv)
/-- The first four bytes. -/
def four (x : Ins) : List UInt8 := le x.op 1 ++ (le x.a 1 ++ (le x.b 1 ++ le x.c 1))
theorem enc_four (x : Ins) : enc x = four x ++ le x.imm 8 := by simp [enc, four]
theorem four_length (x : Ins) : (four x).length = 4 := by simp [four, length_le]
theorem four_cells {x : Ins} {n locks : Int} (h : check x n locks = 0) : (four x).map bv = [.int .u8 x.op, .int .u8 x.a, .int .u8 x.b, .int .u8 x.c] := by
  obtain ⟨o1, o2, a1, a2, b1, b2, c1, c2, _⟩ := wrong_zero h
  unfold four
  rw [le_one o1 (by omega), le_one a1 (by omega), le_one b1 (by omega), le_one c1 (by omega), bv_small o1 (by omega), bv_small a1 (by omega), bv_small b1 (by omega), bv_small c1 (by omega)]
  rfl
theorem byte_bv (u : Int) (k : Nat) : Value.int .u8 ((u / 2 ^ (8 * k)) % 256) = bv (UInt8.ofNat (u / 256 ^ k % 256).toNat) := by
  rw [← byte_shift]; rfl
theorem u64_bd (v : Int) : 0 ≤ IntKind.u64.wrap v ∧ IntKind.u64.wrap v ≤ 18446744073709551615 := by rw [IntKind.wrap_u64]; omega
set_option maxHeartbeats 1000000 in
theorem ref_put (r : Option Nat) (A : Option Addr) (n c : Nat) (pre : List UInt8) (x : Ins) (m locks : Int) (w : World) (hr : RowB w r A n c pre) (hx : check x m locks = 0) (hn : n ≤ 1048576) :
    Calls Try.prog 49 #[.slice A n c, agg x] w fun e w' => ∃ r' A' c', e = .returned (.slice A' (n + 12) c') ∧ RowB w' r' A' (n + 12) c' (pre ++ enc x) ∧ Kept (fun k => r = some k) w w' ∧ ∀ k, r' = some k → r = some k ∨ w.heap.size ≤ k := by
  have hf := four_cells hx
  obtain ⟨o1, o2, a1, a2, b1, b2, c1, c2, _⟩ := wrong_zero hx
  have he := enc_four x
  rw [← le_u64 x.imm] at he
  have hub := u64_bd x.imm
  obtain ⟨op, a, b, cc, imm⟩ := x
  simp only at o1 o2 a1 a2 b1 b2 c1 c2 he hub
  have hlt := hr.lt (by decide)
  have HF := Lib.hid hf
  have HE := Lib.hid he
  have HR := Lib.hid hr
  clear hf he hr
  clear hx
  unfold agg
  go_enter Try.func49, Try.ntmps49
  have hr1 : RowB (w.alloc (.cells #[.int .i64 op, .int .i64 a, .int .i64 b, .int .i64 cc, .int .i64 imm] 62)) r A n c pre := HR.out.new (by decide) ((Kept.refl _ _).alloc _)
  have HR1 := Lib.hid hr1
  clear hr1
  go_wp2_with (at_builtin; refine wpList_append_many (cs := [.int .u8 op, .int .u8 a, .int .u8 b, .int .u8 cc]) tyBytes rfl _ _ rfl rfl HR1.out (size1 _ _) rfl rfl (by simp [Value.oneCell']) (by unfold maxLen; omega) (by omega) ?_; intro r2 A2 c2' w2 hr2 hk2 hn2)
  rw [show [Value.int .u8 op, .int .u8 a, .int .u8 b, .int .u8 cc] = (four ⟨op, a, b, cc, imm⟩).map bv from HF.out.symm, ← List.map_append] at hr2
  have hxb : Blk w2 w.heap.size 62 #[.int .i64 op, .int .i64 a, .int .i64 b, .int .i64 cc, .int .i64 imm] := (Blk.made w _ _).kept hk2 (fun h => by have := hlt _ h; omega)
  have d4 : w2.cell? ⟨w.heap.size, 4, none⟩ = some (.int .i64 imm) := hxb.cell 4
  have hk02 : Kept (fun k => r = some k) w w2 := ((Kept.refl _ _).alloc _).trans hk2
  have hnx : ∀ g, r2 = some g → g ≠ w.heap.size ∧ (r = some g ∨ w.heap.size ≤ g) := by
    intro g hg
    rcases hn2 g hg with h | h
    · exact ⟨by have := hlt g h; omega, .inl h⟩
    · rw [← size1] at h; exact ⟨by omega, .inr (by omega)⟩
  have hs2 := hxb.lt
  have HR2 := Lib.hid hr2
  have HK02 := Lib.hid hk02
  have HNX := Lib.hid hnx
  clear hr2 hk02 hnx
  clear hxb hk2 hn2 hlt
  go_wp2_with fail
  go_loopw [0, 5] (fun v i wr => ∃ (k : Nat) (rr : Option Nat) (AA : Option Addr) (c3 : Nat), k ≤ 8 ∧ i = .int .i64 k ∧ v = .slice AA (n + 4 + k) c3 ∧ RowB wr rr AA (n + 4 + k) c3 ((pre ++ four ⟨op, a, b, cc, imm⟩) ++ le (IntKind.u64.wrap imm) k) ∧ (∀ g, rr = some g → g ≠ w.heap.size ∧ (r = some g ∨ w.heap.size ≤ g)) ∧ w.heap.size < wr.heap.size ∧ wr.cell? ⟨w.heap.size, 4, none⟩ = some (.int .i64 imm) ∧ Kept (fun k => r = some k) w wr) (fun _ i _ => (8 - intOf i).toNat)
  case atStart => exact ⟨0, r2, A2, c2', by omega, rfl, rfl, by rw [show le (IntKind.u64.wrap imm) 0 = [] from rfl, List.append_nil]; exact HR2.out, HNX.out, hs2, d4, HK02.out⟩
  case round =>
    obtain ⟨k, rr, AA, c3, hk, rfl, rfl, hrow, hnx, hsz, d4, hkp⟩ := hrel
    have HROW := Lib.hid hrow
    have HNX_ := Lib.hid hnx
    have HKP := Lib.hid hkp
    clear hrow hnx hkp
    by_cases hlt : k < 8
    · have hu := hub
      have w5 : IntKind.i64.wrap (8 * (k : Int)) = 8 * (k : Int) := IntWalk.i64_in _ (by omega)
      go_wp2_with (at_builtin; refine wpList_append_one (cs := [.int .u8 ((IntKind.u64.wrap imm / 2 ^ (8 * k)) % 256)]) tyBytes rfl _ _ rfl rfl HROW.out rfl rfl rfl (by simp [Value.oneCell']) (by unfold maxLen; omega) (by omega) ?_; intro r5 A5 c5 w5 hr5 hk5 hn5)
      refine ⟨⟨k + 1, r5, A5, c5, by omega, by go_num, rfl, ?_, ?_, ?_, ?_, ?_⟩, by simp [intOf]; omega⟩
      · rw [byte_bv] at hr5
        unfold RowB
        rw [le_snoc, ← List.append_assoc, List.map_append]
        exact hr5
      · intro g hg
        rcases hn5 g hg with h | h
        · exact HNX_.out g h
        · exact ⟨by omega, .inr (by omega)⟩
      · have := hk5.size; omega
      · exact (hk5.cell (p := ⟨w.heap.size, 4, none⟩) hsz (fun h => (HNX_.out _ h).1 rfl)).trans d4
      · exact HKP.out.step hk5 fun i hi e => by
          rcases (HNX_.out i e).2 with h | h
          · exact h
          · omega
    · obtain rfl : k = 8 := by omega
      go_wp2_with fail
      go_ret
      refine ⟨rr, AA, c3, rfl, ?_, HKP.out, fun g hg => (HNX_.out g hg).2⟩
      rw [HE.out, ← List.append_assoc]
      exact HROW.out
/-- What Encode tells. -/
def encB (l : List Ins) : List UInt8 := if may l 8 = (0, 0) then encode l else []
theorem mayFrom_zero {n locks : Int} : ∀ (l : List Ins) (i : Nat), (mayFrom n locks i l).1 = 0 → mayFrom n locks i l = (0, 0)
  | [], _, _ => rfl
  | x :: l, i, h => by
    simp only [mayFrom] at h ⊢
    split
    · rename_i h0; rw [if_pos h0] at h; exact mayFrom_zero l (i + 1) h
    · rename_i h0; rw [if_neg h0] at h; exact absurd h h0
theorem may_zero {l : List Ins} {locks : Int} (h : (may l locks).1 = 0) : may l locks = (0, 0) := by
  unfold may at h ⊢
  split
  · rename_i h0; rw [if_pos h0] at h; simp at h
  · rename_i h0
    rw [if_neg h0] at h
    split
    · rename_i h1; rw [if_pos h1] at h; simp at h
    · rename_i h1; rw [if_neg h1] at h; exact mayFrom_zero l 0 h
theorem encode_take (l : List Ins) (k : Nat) (h : k < l.length) : encode (l.take (k + 1)) = encode (l.take k) ++ enc l[k] := by
  unfold encode; rw [List.take_succ_eq_append_getElem h, List.flatMap_append, List.flatMap_singleton]
theorem length_take {l : List Ins} {k : Nat} (h : k ≤ l.length) : (encode (l.take k)).length = 12 * k := by rw [length_encode, List.length_take, Nat.min_eq_left h]
/-- What Encode tells, in memory. -/
def Encd (w w' : World) (e : Ending) (l : List Ins) : Prop := ∃ r A n c, e = .returned (.tuple #[.slice A n c, .int .i64 (may l 8).1, .int .i64 (may l 8).2]) ∧ RowB w' r A n c (encB l) ∧ (∀ k, r = some k → w.heap.size ≤ k) ∧ New w w'
theorem encode_err (A : Option Addr) (n c : Nat) (l : List Ins) (w : World) (hl : SliceOf repIns w w.heap.size A n c l) (hm : may l 8 ≠ (0, 0)) : Calls Try.prog 27 #[.slice A n c] w fun e w' => Encd w w' e l := by
  have hm1 : ((may l 8).1 != 0) = true := by
    simp only [bne_iff_ne, ne_eq]
    exact fun h => hm (may_zero h)
  have hb : encB l = [] := by unfold encB; rw [if_neg hm]
  have hmay := fun W (h : New w W) => may_any A n c l 8 W ((hl.kept h (Nat.le_refl _) fun _ _ h => h).more h.size)
  unfold Encd
  generalize hE : may l 8 = m at *
  have HL := Lib.hid hl
  have HB := Lib.hid hb
  have HE := Lib.hid hE
  have HMAY := Lib.hid hmay
  clear hl hb hE hmay
  clear hm
  go_enter Try.func27, Try.ntmps27
  go_wp2_with fail
  refine (HMAY.out _ (Kept.refl _ _)).mono ?_
  rintro e w1 ⟨rfl, hw1⟩
  go_wp2_with fail
  refine bodyPost_ret (results_tmp3 rfl _ _ _) rfl ?_
  refine ⟨none, none, 0, 0, rfl, ?_, (by intro k hk; cases hk), hw1⟩
  rw [HB.out]
  exact Row.nil _ _
theorem news {α : Type} {R : Rep α} {w w' : World} {A : Option Addr} {n c : Nat} {l : List α} (h : SliceOf R w w.heap.size A n c l) (hk : New w w') : SliceOf R w' w'.heap.size A n c l := (h.kept hk (Nat.le_refl _) fun _ _ h => h).more hk.size
set_option maxHeartbeats 2000000 in
theorem encode_ok (A : Option Addr) (n c : Nat) (l : List Ins) (w : World) (hl : SliceOf repIns w w.heap.size A n c l) (hm : may l 8 = (0, 0)) : Calls Try.prog 27 #[.slice A n c] w fun e w' => Encd w w' e l := by
  have hn := hl.len
  have hb := hl.bound
  obtain ⟨_, _, h256, hch⟩ := may_ok hm
  have hn256 : n ≤ 256 := by omega
  have hbe : encB l = encode l := by unfold encB; rw [if_pos hm]
  have hmay := fun W (h : New w W) => may_any A n c l 8 W (news hl h)
  obtain ⟨z, cs, -, -, hcs, hmk⟩ := run_make_ty (P := Try.prog) tyBytes (li := 0) (ci := 12 * (n : Int)) 0 (12 * n) rfl (by omega) (by omega) (by omega) (by omega)
  have HCS := Lib.hid hcs
  clear hcs
  unfold Encd
  rw [hm] at *
  have HL := Lib.hid hl
  have HN := Lib.hid hn
  have HBE := Lib.hid hbe
  have HMAY := Lib.hid hmay
  have HCH := Lib.hid hch
  clear hl hn hbe hmay hch
  clear hm
  go_enter Try.func27, Try.ntmps27
  go_wp2_with fail
  refine (HMAY.out _ (Kept.refl _ _)).mono ?_
  rintro e w1 ⟨rfl, hw1⟩
  have HW1 := Lib.hid hw1
  clear hw1
  go_wp2_with fail
  obtain ⟨r0, hrow0, hr0⟩ := Row.of_make (T := 5) (size := 1) w1 cs (12 * n) HCS.out (by unfold maxLen; omega)
  have hnew0 : New w (w1.alloc (.cells cs.toArray 5)) := HW1.out.alloc _
  have hs1 := HW1.out.size
  generalize (w1.alloc (.cells cs.toArray 5)) = W0 at *
  have hr0' : ∀ g, r0 = some g → w.heap.size ≤ g := fun g hg => by have := hr0 g hg; omega
  have HROW0 := Lib.hid hrow0
  have HRZ := Lib.hid hr0'
  have HNEW0 := Lib.hid hnew0
  clear hrow0 hr0' hnew0
  clear hr0 hmk
  go_loopw [7, 26] (fun v i wr => ∃ (k : Nat) (rr : Option Nat) (AA : Option Addr) (c3 : Nat), k ≤ n ∧ i = .int .i64 k ∧ v = .slice AA (12 * k) c3 ∧ RowB wr rr AA (12 * k) c3 (encode (l.take k)) ∧ (∀ g, rr = some g → w.heap.size ≤ g) ∧ New w wr) (fun _ i _ => (n - intOf i).toNat)
  case atStart => exact ⟨0, r0, _, _, by omega, rfl, rfl, HROW0.out, HRZ.out, HNEW0.out⟩
  case round =>
    obtain ⟨k, rr, AA, c3, hk, rfl, rfl, hrow, hnx, hnew⟩ := hrel
    have HROW := Lib.hid hrow
    have HNX := Lib.hid hnx
    have HNEW := Lib.hid hnew
    clear hrow hnx hnew
    by_cases hlt : k < n
    · obtain ⟨b, o, rfl, hb', hc⟩ := ins_at (HL.out.below HNEW.out.below) (by omega)
      have hkl : k < l.length := by have := HN.out; omega
      obtain ⟨c0, c1, c2, c3', c4⟩ := hc k hkl
      have hck := HCH.out l[k] (List.getElem_mem hkl)
      have het := encode_take l k hkl
      have hf := four_cells hck
      obtain ⟨o1, o2, a1, a2, b1, b2, d1, d2, _⟩ := wrong_zero hck
      have he := enc_four l[k]
      rw [← le_u64 l[k].imm] at he
      have hub := u64_bd l[k].imm
      generalize l[k] = x at *
      obtain ⟨op, a, bb, cc, imm⟩ := x
      simp only at o1 o2 a1 a2 b1 b2 d1 d2 he hub c0 c1 c2 c3' c4 hf
      have hlr := HROW.out.lt (by decide)
      have HET := Lib.hid het
      have HF := Lib.hid hf
      have HE := Lib.hid he
      clear het hf he
      clear hc hck
      have hr1 : RowB (wr.alloc (.cells #[.int .i64 op, .int .i64 a, .int .i64 bb, .int .i64 cc, .int .i64 imm] 62)) rr AA (12 * k) c3 (encode (l.take k)) := HROW.out.new (by decide) ((Kept.refl _ _).alloc _)
      have HR1 := Lib.hid hr1
      clear hr1
      go_wp2_with (at_builtin; refine wpList_append_many (cs := [.int .u8 op, .int .u8 a, .int .u8 bb, .int .u8 cc]) tyBytes rfl _ _ rfl rfl HR1.out (size1 _ _) rfl rfl (by simp [Value.oneCell']) (by unfold maxLen; omega) (by omega) ?_; intro r2 A2 c2' w2 hr2 hk2 hn2)
      rw [show [Value.int .u8 op, .int .u8 a, .int .u8 bb, .int .u8 cc] = (four ⟨op, a, bb, cc, imm⟩).map bv from HF.out.symm, ← List.map_append] at hr2
      have hxb : Blk w2 wr.heap.size 62 #[.int .i64 op, .int .i64 a, .int .i64 bb, .int .i64 cc, .int .i64 imm] := (Blk.made wr _ _).kept hk2 (fun h => by have := hlr _ h; omega)
      have d4 : w2.cell? ⟨wr.heap.size, 4, none⟩ = some (.int .i64 imm) := hxb.cell 4
      have hk02 : New w w2 := (HNEW.out.alloc _).step hk2 fun i hi e => by have := HNX.out i e; omega
      have hnx2 : ∀ g, r2 = some g → g ≠ wr.heap.size ∧ w.heap.size ≤ g := by
        intro g hg
        have := HNEW.out.size
        rcases hn2 g hg with h | h
        · exact ⟨by have := hlr g h; omega, HNX.out g h⟩
        · rw [← size1] at h; exact ⟨by omega, by omega⟩
      have hs2 := hxb.lt
      have hsr := HNEW.out.size
      have HR2 := Lib.hid hr2
      have HK02 := Lib.hid hk02
      have HNX2 := Lib.hid hnx2
      clear hr2 hk02 hnx2
      clear hxb hk2 hn2 hlr
      obtain ⟨wo, rfl⟩ : ∃ wo : World, wo = wr := ⟨_, rfl⟩
      go_loopw [7, 45] (fun v i wi => ∃ (j : Nat) (ri : Option Nat) (Ai : Option Addr) (ci : Nat), j ≤ 8 ∧ i = .int .i64 j ∧ v = .slice Ai (12 * k + 4 + j) ci ∧ RowB wi ri Ai (12 * k + 4 + j) ci ((encode (l.take k) ++ four ⟨op, a, bb, cc, imm⟩) ++ le (IntKind.u64.wrap imm) j) ∧ (∀ g, ri = some g → g ≠ wo.heap.size ∧ w.heap.size ≤ g) ∧ wo.heap.size < wi.heap.size ∧ wi.cell? ⟨wo.heap.size, 4, none⟩ = some (.int .i64 imm) ∧ New w wi) (fun _ i _ => (8 - intOf i).toNat)
      case atStart => exact ⟨0, r2, A2, c2', by omega, rfl, rfl, by rw [show le (IntKind.u64.wrap imm) 0 = [] from rfl, List.append_nil]; exact HR2.out, HNX2.out, hs2, d4, HK02.out⟩
      case round =>
        obtain ⟨j, ri, Ai, ci, hj, rfl, rfl, hrowi, hnxi, hszi, e4, hkpi⟩ := hrel
        have HROWI := Lib.hid hrowi
        have HNXI := Lib.hid hnxi
        have HKPI := Lib.hid hkpi
        clear hrowi hnxi hkpi
        by_cases hlj : j < 8
        · have w5 : IntKind.i64.wrap (8 * (j : Int)) = 8 * (j : Int) := IntWalk.i64_in _ (by omega)
          go_wp2_with (at_builtin; refine wpList_append_one (cs := [.int .u8 ((IntKind.u64.wrap imm / 2 ^ (8 * j)) % 256)]) tyBytes rfl _ _ rfl rfl HROWI.out rfl rfl rfl (by simp [Value.oneCell']) (by unfold maxLen; omega) (by omega) ?_; intro r5 A5 c5 w5 hr5 hk5 hn5)
          refine ⟨⟨j + 1, r5, A5, c5, by omega, by go_num, rfl, ?_, ?_, ?_, ?_, ?_⟩, by simp [intOf]; omega⟩
          · rw [byte_bv] at hr5
            unfold RowB
            rw [le_snoc, ← List.append_assoc, List.map_append]
            exact hr5
          · intro g hg
            rcases hn5 g hg with h | h
            · exact HNXI.out g h
            · exact ⟨by omega, by omega⟩
          · have := hk5.size; omega
          · exact (hk5.cell (p := ⟨wo.heap.size, 4, none⟩) hszi (fun h => (HNXI.out _ h).1 rfl)).trans e4
          · exact HKPI.out.step hk5 fun i hi e => by have := (HNXI.out i e).2; omega
        · obtain rfl : j = 8 := by omega
          go_wp2_with fail
          refine ⟨⟨k + 1, ri, Ai, ci, by omega, by go_num, rfl, ?_, fun g hg => (HNXI.out g hg).2, HKPI.out⟩, by simp [intOf]; omega⟩
          rw [HET.out, HE.out, ← List.append_assoc]
          exact HROWI.out
    · obtain rfl : k = n := by omega
      have he : encode (l.take k) = encB l := by rw [HBE.out, List.take_of_length_le (by have := HN.out; omega)]
      have HE := Lib.hid he
      clear he
      go_wp2_with fail
      refine bodyPost_ret (results_tmp3 rfl _ _ _) rfl ?_
      rw [← HE.out]
      exact ⟨rr, AA, _, _, rfl, HROW.out, HNX.out, HNEW.out⟩
theorem encode_any (A : Option Addr) (n c : Nat) (l : List Ins) (w : World) (hl : SliceOf repIns w w.heap.size A n c l) : Calls Try.prog 27 #[.slice A n c] w fun e w' => Encd w w' e l := by
  by_cases h : may l 8 = (0, 0)
  · exact encode_ok A n c l w hl h
  · exact encode_err A n c l w hl h
end Go.Proofs.Ytaefgljpdpigeaa.Code

