/- The walk of conf.Encode (layer 14). -/
import Derived.Test.YtaefgljpdpigeaaConfF
namespace Go.Proofs.Ytaefgljpdpigeaa.Conf
open Go.RowKit Go.Fb Go.CodeP Go.BytesP
open Go.Proofs.Ytaefgljpdpigeaa.Code (RowB tyBytes byte_bv u64_bd)
set_option linter.unusedVariables false
theorem check_up {x : Ins} {n locks : Int} (h : check x n locks = 0) : ∀ k : Nat, check x n (locks + k) = 0
  | 0 => by simpa using h
  | k + 1 => by rw [show locks + ((k + 1 : Nat) : Int) = locks + k + 1 by omega]; exact check_more (check_up h k)
theorem may_eight {l : List Ins} {locks : Int} (h : may l locks = (0, 0)) : may l 8 = (0, 0) := by
  obtain ⟨h0, h1, h2, h3⟩ := may_ok h
  refine may_of (by decide) (by decide) h2 fun x hx => ?_
  have := check_up (h3 x hx) (8 - locks).toNat
  rwa [show locks + ((8 - locks).toNat : Int) = 8 by omega] at this
/-- How the bytes stand while they are laid: in a row of the call's own; the config's cells lie in block cb. -/
structure EncSt (w wr : World) (cb : Nat) (T : TypeId) (cs : Array Value) (r : Option Nat) (A : Option Addr) (n c : Nat) (l : List UInt8) : Prop where
  row : RowB wr r A n c l
  own : ∀ g, r = some g → w.heap.size ≤ g ∧ g ≠ cb
  new : New w wr
  blk : Blk wr cb T cs
theorem EncSt.step {w wr w2 : World} {cb : Nat} {T : TypeId} {cs : Array Value} {r r2 : Option Nat} {A A2 : Option Addr} {n c n2 c2 : Nat} {l l2 : List UInt8} (h : EncSt w wr cb T cs r A n c l) (hr : RowB w2 r2 A2 n2 c2 l2) (hk : Kept (fun k => r = some k) wr w2) (hf : ∀ k, r2 = some k → r = some k ∨ wr.heap.size ≤ k) : EncSt w w2 cb T cs r2 A2 n2 c2 l2 where
  row := hr
  own g hg := by
    rcases hf g hg with h1 | h1
    · exact h.own g h1
    · have := h.new.size; have := h.blk.lt; exact ⟨by omega, by omega⟩
  new := h.new.step hk fun i hi e => by have := (h.own i e).1; omega
  blk := h.blk.kept hk fun e => (h.own _ e).2 rfl
theorem EncSt.kept {w wr w2 : World} {cb : Nat} {T : TypeId} {cs : Array Value} {r : Option Nat} {A : Option Addr} {n c : Nat} {l : List UInt8} (h : EncSt w wr cb T cs r A n c l) (hk : New wr w2) : EncSt w w2 cb T cs r A n c l :=
  ⟨h.row.new (by decide) hk, h.own, h.new.trans hk, h.blk.kept hk id⟩
theorem EncSt.cast {w wr : World} {cb : Nat} {T : TypeId} {cs : Array Value} {r : Option Nat} {A : Option Addr} {n c n' : Nat} {l l' : List UInt8} (h : EncSt w wr cb T cs r A n c l) (e1 : n = n') (e2 : l = l') : EncSt w wr cb T cs r A n' c l' := by subst e1; subst e2; exact h
theorem may_zeroC {c : Cf} (h : (mayC c).1 = 0) : mayC c = (0, 0) := by
  refine Prod.ext h ?_
  have h' := h
  unfold mayC at h' ⊢
  by_cases a1 : (labE c.labels).1 ≠ 0
  · rw [if_pos a1] at h'; exact absurd h' a1
  rw [if_neg a1] at h' ⊢
  by_cases a2 : manyE c.table.length 64 ≠ 0
  · rw [if_pos a2] at h'; exact absurd h' a2
  rw [if_neg a2] at h' ⊢
  by_cases a3 : (Slots.newE c.table c.labels.length).1 ≠ 0
  · rw [if_pos a3] at h'; exact absurd h' a3
  rw [if_neg a3] at h' ⊢
  by_cases a4 : rangedE 2 c.fuel ≠ 0
  · rw [if_pos a4] at h'; exact absurd h' a4
  rw [if_neg a4] at h' ⊢
  by_cases a5 : rangedE 3 c.lane ≠ 0
  · rw [if_pos a5] at h'; exact absurd h' a5
  rw [if_neg a5] at h' ⊢
  by_cases a6 : rangedE 4 c.locks ≠ 0
  · rw [if_pos a6] at h'; exact absurd h' a6
  rw [if_neg a6] at h' ⊢
  by_cases a7 : rangedE 5 c.log ≠ 0
  · rw [if_pos a7] at h'; exact absurd h' a7
  rw [if_neg a7] at h' ⊢
  by_cases a8 : manyE c.procs.length 32 ≠ 0
  · rw [if_pos a8] at h'; exact absurd h' a8
  rw [if_neg a8] at h' ⊢
  split at h'
  · rename_i i hf
    have := List.find?_some hf
    exact absurd h' (of_decide_eq_true this)
  · rfl
theorem byte1 {n : Int} (h0 : 0 ≤ n) (h1 : n ≤ 255) : [Value.int .u8 n] = (le n 1).map bv := by rw [le_one h0 (by omega), bv_small h0 h1]; rfl
theorem bytes2 {n m : Int} (h0 : 0 ≤ n) (h1 : n ≤ 255) (g0 : 0 ≤ m) (g1 : m ≤ 255) : [Value.int .u8 n, .int .u8 m] = (le n 1 ++ le m 1).map bv := by rw [List.map_append, ← byte1 h0 h1, ← byte1 g0 g1]; rfl
theorem encL_take (l : List Int) (k : Nat) (h : k < l.length) : encL (l.take (k + 1)) = encL (l.take k) ++ le l[k] 8 := by
  unfold encL; rw [List.take_succ_eq_append_getElem h, List.flatMap_append, List.flatMap_singleton]
theorem encT_take (l : List Int) (k : Nat) (h : k < l.length) : encT (l.take (k + 1)) = encT (l.take k) ++ le l[k] 1 := by
  unfold encT; rw [List.take_succ_eq_append_getElem h, List.flatMap_append, List.flatMap_singleton]
theorem encPs_take (l : List (Int × List Ins)) (k : Nat) (h : k < l.length) : encPs (l.take (k + 1)) = encPs (l.take k) ++ encP l[k] := by
  unfold encPs; rw [List.take_succ_eq_append_getElem h, List.flatMap_append, List.flatMap_singleton]
theorem bounds_u64 {n : Int} (h : (Lit.int .u64 n).wf = true) : 0 ≤ n ∧ n ≤ 18446744073709551615 := by
  simp [Lit.wf, IntKind.min, IntKind.max, IntKind.signed, IntKind.bits] at h
  omega
theorem start_st {w w2 w3 w4 : World} {cb g k : Nat} {T E : TypeId} {cs : Array Value} {n : Int} (hn : New w w2) (hb : Blk w2 cb T cs) (h3 : New w2 w3) (ho : OwnB E w4 w2.heap.size (.slice (some ⟨g, 0, none⟩) (markB.length + 1) k) (markB ++ [UInt8.ofNat n.toNat]))
    (hk : Kept (fun k => (Value.slice (some ⟨w2.heap.size, 0, none⟩) 5 5).ownBlock = some k) w3 w4) (h0 : 0 ≤ n) (h1 : n < 256) : EncSt w w4 cb T cs (some g) (some ⟨g, 0, none⟩) 6 k (markB ++ le n 1) := by
  have hcb := hb.lt
  obtain ⟨r, A, c, e, hr, hB⟩ := Row.of_own Nat.zero_lt_one ho
  injection e with e1 e2 e3
  subst e1; subst e3
  have hr' : r = some g := by
    rcases hr.lies with ⟨_, h, _⟩ | ⟨_, g', o, h1, h2, _⟩
    · rw [← e2] at h; exact absurd h (by decide)
    · injection h2 with h2; injection h2 with h2; rw [h1, h2]
  subst hr'
  have hn3 : New w2 w4 := h3.step hk fun i hi e => by simp only [Value.ownBlock, Option.some.injEq] at e; omega
  refine ⟨?_, fun g' hg' => ?_, hn.trans hn3, hb.kept hn3 id⟩
  · rw [le_one h0 h1]; exact hr
  · have := hB g' hg'; have := hn.size; exact ⟨by omega, by omega⟩
section
variable {w : World} {B : Nat} {c : Cf} {Al At Ap : Option Addr} {cl ct cp : Nat}
/-- What Encode leaves. -/
def Encoded (w w' : World) (e : Ending) (c : Cf) : Prop := ∃ r A k, e = .returned (.tuple #[.slice A (encC c).length k, .int .i64 (mayC c).1]) ∧ RowB w' r A (encC c).length k (encC c) ∧ (∀ g, r = some g → w.heap.size ≤ g) ∧ New w w'
set_option maxRecDepth 100000 in
set_option maxHeartbeats 4000000 in
theorem encode_any (hl : SliceOf (Rep.int .u64) w B Al c.labels.length cl c.labels) (ht : SliceOf (Rep.int .i64) w B At c.table.length ct c.table) (hp : SliceOf repProc w B Ap c.procs.length cp c.procs) (hB : B ≤ w.heap.size) :
    Calls Try.prog 10 #[.agg (confC c Al cl At ct Ap cp).toArray] w fun e w' => Encoded w w' e c := by
  unfold Encoded
  have hbl := hl.bound
  have hbt := ht.bound
  have hbp := hp.bound
  have k1 : New w (w.alloc (.cells (confC c Al cl At ct Ap cp).toArray 26)) := (Kept.refl _ _).alloc _
  have hb1 := Blk.made w 26 (confC c Al cl At ct Ap cp).toArray
  have HMAY := Lib.hid (may_any (hl.kept k1 hB fun _ _ h => h) (ht.kept k1 hB fun _ _ h => h) (hp.kept k1 hB fun _ _ h => h) (Nat.le_trans hB k1.size))
  have HLK := Lib.hid (fun W (hW : New w W) => (hl.kept hW hB fun _ _ h => h))
  have HTK := Lib.hid (fun W (hW : New w W) => (ht.kept hW hB fun _ _ h => h))
  have HPK := Lib.hid (fun W (hW : New w W) => (hp.kept hW hB fun _ _ h => h).more (Nat.le_trans hB hW.size))
  unfold confC at k1 hb1 HMAY ⊢
  have K1 := Lib.hid k1
  have HB1 := Lib.hid hb1
  clear k1 hb1
  clear hl ht hp
  by_cases hm : (mayC c).1 = 0
  · have hs := sane_of (may_zeroC hm)
    have E := Lib.hid (show encC c = encB c by unfold encC; rw [if_pos (may_zeroC hm)])
    have hm0 : mayC c = (0, 0) := may_zeroC hm
    rw [hm0] at HMAY ⊢
    clear hm hm0
    obtain ⟨s1, s2, s3, s4, s5, s6, s7, s8, s9, s10, -⟩ := hs
    have S3 := Lib.hid s3
    have S9 := Lib.hid s9
    have S10 := Lib.hid s10
    clear s3 s9 s10
    have z0 := HB1.out.cell 0
    have z1 := HB1.out.cell 1
    have z2 := HB1.out.cell 2
    have z3 := HB1.out.cell 3
    have z4 := HB1.out.cell 4
    have z5 := HB1.out.cell 5
    have z6 := HB1.out.cell 6
    simp only [List.getElem?_toArray, List.getElem?_cons_zero, List.getElem?_cons_succ] at z0 z1 z2 z3 z4 z5 z6
    go_enter Try.func10, Try.ntmps10
    go_upto_region 4 with (go_at_call 15; refine HMAY.out.mono ?_; rintro e w2 ⟨rfl, hn2⟩)
    have HN2 := Lib.hid (K1.out.trans hn2)
    have hb2 := HB1.out.kept hn2 id
    have z0 := hb2.cell 0
    have z1 := hb2.cell 1
    have z2 := hb2.cell 2
    simp only [List.getElem?_toArray, List.getElem?_cons_zero, List.getElem?_cons_succ] at z0 z1
    have HB2 := Lib.hid hb2
    clear hb2
    have HSRC := Lib.hid (show SliceOf Rep.byte (w2.alloc (.cells #[.int .u8 70, .int .u8 66, .int .u8 67, .int .u8 70, .int .u8 1] 5 (5, 6))) (w2.alloc (.cells #[.int .u8 70, .int .u8 66, .int .u8 67, .int .u8 70, .int .u8 1] 5 (5, 6))).heap.size (some ⟨w2.heap.size, 0, none⟩) 5 5 markB from SliceOf.made (E := 5) (w := w2) (fr := (5, 6)) markB (by decide))
    have HK3 := Lib.hid (show New w2 ((w2.alloc (.cells #[.int .u8 70, .int .u8 66, .int .u8 67, .int .u8 70, .int .u8 1] 5 (5, 6))).alloc (.cells #[.int .u8 (c.labels.length : Int)] 5)) from ((Kept.refl _ _).alloc _).alloc _)
    have HB3 := Lib.hid (HB2.out.kept ((Kept.refl (fun _ => False) w2).alloc (.cells #[.int .u8 70, .int .u8 66, .int .u8 67, .int .u8 70, .int .u8 1] 5 (5, 6))) id)
    have y0 := HB3.out.cell 0
    simp only [List.getElem?_toArray, List.getElem?_cons_zero] at y0
    have HSRC2 := Lib.hid (Code.news HSRC.out ((Kept.refl (fun _ => False) _).alloc (.cells #[.int .u8 (c.labels.length : Int)] 5)))
    have HNC := Lib.hid (new_cell (w2.alloc (.cells #[.int .u8 70, .int .u8 66, .int .u8 67, .int .u8 70, .int .u8 1] 5 (5, 6))) (.int .u8 (c.labels.length : Int)) 5 (w2.heap.size + 1) (size1 _ _))
    have HBV := Lib.hid (show Value.int .u8 (c.labels.length : Int) = bv (UInt8.ofNat (c.labels.length : Int).toNat) from bv_small (by omega) (by omega))
    have HLB := Lib.hid (show 0 ≤ (c.labels.length : Int) ∧ (c.labels.length : Int) < 256 by omega)
    have HL5 := Lib.hid (show markB.length ≤ 1073741824 by decide)
    have hcv := fun (w : World) (C : Array Value) (n c : Nat) => Lib.run_convert_bytes_const (P := Try.prog) w 27 5 C n c Try.underlying27 Try.underlying5
    go_upto_region 5 with (at_builtin; refine wpList_byte tyBytes rfl _ _ rfl w2.heap.size (v := .slice (some ⟨w2.heap.size, 0, none⟩) 5 5) (l := markB) rfl (.inr ⟨_, 5, rfl, HSRC2.out⟩) ⟨w2.heap.size + 1, 0, none⟩ 1 (UInt8.ofNat (c.labels.length : Int).toNat) (.int .u8 (c.labels.length : Int)) rfl HNC.out HBV.out HL5.out HK3.out.size ?_; intro g4 cap4 w4 ho4 hk4 hl4)
    have HS4 := Lib.hid (start_st (n := (c.labels.length : Int)) HN2.out HB2.out HK3.out ho4 hk4 HLB.out.1 HLB.out.2)
    clear ho4 hk4 hl4 y0
    have y0 := HS4.out.blk.cell 0
    simp only [List.getElem?_toArray, List.getElem?_cons_zero] at y0
    go_wp2_with fail
    go_loopw [6, 35] (fun v i wr => ∃ (k : Nat) (rr : Option Nat) (AA : Option Addr) (cc : Nat), k ≤ c.labels.length ∧ i = .int .i64 k ∧ v = .slice AA (6 + 8 * k) cc ∧ EncSt w wr w.heap.size 26 #[.slice Al c.labels.length cl, .slice At c.table.length ct, .int .i64 c.fuel, .int .i64 c.lane, .int .i64 c.locks, .int .i64 c.log, .slice Ap c.procs.length cp] rr AA (6 + 8 * k) cc (markB ++ le c.labels.length 1 ++ encL (c.labels.take k))) (fun _ i _ => (c.labels.length - intOf i).toNat)
    case atStart => exact ⟨0, _, _, _, Nat.zero_le _, rfl, rfl, HS4.out.cast rfl (by simp [encL])⟩
    case round =>
      obtain ⟨k, rr, AA, cc, hk, rfl, rfl, hes⟩ := hrel
      clear HS4 HN2 HB2 HSRC HK3 HB3 HSRC2 HNC HBV HL5 HLB
      by_cases hlt : k < c.labels.length
      · obtain ⟨g, o, rfl, -, hc⟩ := (HLK.out wr hes.new).ints (by omega)
        have xk := hc k hlt
        have hwf := bounds_u64 ((HLK.out wr hes.new).wf _ (List.getElem_mem hlt))
        have hlay := lay_any (v := c.labels[k]) (m := 8) hes.row (by omega) (by omega) (Nat.le_refl _) (by omega)
        have het := encL_take c.labels k hlt
        generalize c.labels[k] = lv at *
        have HES := Lib.hid hes
        have HLAY := Lib.hid hlay
        have HET := Lib.hid het
        clear hes hlay het
        clear hc hwf
        go_wp2_with (go_at_call 26; refine HLAY.out.mono ?_; rintro e w5 ⟨r5, A5, c5, rfl, hr5, hk5, hn5⟩)
        have HS5 := Lib.hid (HES.out.step hr5 hk5 hn5)
        clear hr5 hk5 hn5
        go_wp2_with fail
        go_roundw
        case rel => exact ⟨k + 1, r5, A5, c5, by omega, by go_num, by go_num, HS5.out.cast (by omega) (by rw [HET.out, ← List.append_assoc])⟩
        case measure => simp [intOf]; omega
      · obtain rfl : k = c.labels.length := by omega
        have HS5 := Lib.hid (hes.cast (l' := stage2 c) rfl (by rw [List.take_length]; rfl))
        clear hes
        have q1 := HS5.out.blk.cell 1
        simp only [List.getElem?_toArray, List.getElem?_cons_zero, List.getElem?_cons_succ] at q1
        go_upto_region 11 with (at_builtin; refine wpList_append_one (cs := [.int .u8 (c.table.length : Int)]) tyBytes rfl _ _ rfl rfl HS5.out.row rfl rfl rfl (by simp [Value.oneCell']) (by unfold maxLen; omega) (by omega) ?_; intro r5 A5 c5 w6 hr5 hk5 hn5)
        rw [byte1 (by omega) (by omega), ← List.map_append] at hr5
        have HS6 := Lib.hid (HS5.out.step hr5 hk5 hn5)
        clear hr5 hk5 hn5 q1 HS5
        have q1 := HS6.out.blk.cell 1
        simp only [List.getElem?_toArray, List.getElem?_cons_zero, List.getElem?_cons_succ] at q1
        go_wp2_with fail
        clear q1
        go_loopw [6, 53] (fun v i wr => ∃ (k : Nat) (rr : Option Nat) (AA : Option Addr) (cc : Nat), k ≤ c.table.length ∧ i = .int .i64 k ∧ v = .slice AA (6 + 8 * c.labels.length + 1 + k) cc ∧ EncSt w wr w.heap.size 26 #[.slice Al c.labels.length cl, .slice At c.table.length ct, .int .i64 c.fuel, .int .i64 c.lane, .int .i64 c.locks, .int .i64 c.log, .slice Ap c.procs.length cp] rr AA (6 + 8 * c.labels.length + 1 + k) cc (stage2 c ++ le c.table.length 1 ++ encT (c.table.take k))) (fun _ i _ => (c.table.length - intOf i).toNat)
        case atStart => exact ⟨0, _, _, _, Nat.zero_le _, rfl, rfl, HS6.out.cast rfl (by simp [encT])⟩
        case round =>
          obtain ⟨k, rr, AA, cc, hk, rfl, rfl, hes⟩ := hrel
          clear HS6
          by_cases hlt : k < c.table.length
          · obtain ⟨g, o, rfl, -, hc⟩ := (HTK.out wr hes.new).ints (by omega)
            have xk := hc k hlt
            have hwf := S3.out _ (List.getElem_mem hlt)
            have het := encT_take c.table k hlt
            generalize c.table[k] = lv at *
            have HES := Lib.hid hes
            have HET := Lib.hid het
            clear hes het
            clear hc
            have hu8 : IntKind.u8.wrap lv = lv := by rw [IntKind.wrap_u8]; omega
            go_wp2_with (at_builtin; refine wpList_append_one (cs := [.int .u8 lv]) tyBytes rfl _ _ rfl rfl HES.out.row rfl rfl rfl (by simp [Value.oneCell']) (by unfold maxLen; omega) (by omega) ?_; intro r5 A5 c5 w5 hr5 hk5 hn5)
            rw [byte1 (by omega) (by omega), ← List.map_append] at hr5
            have HS7 := Lib.hid (HES.out.step hr5 hk5 hn5)
            clear hr5 hk5 hn5
            refine ⟨⟨k + 1, r5, A5, c5, by omega, by go_num, by go_num, HS7.out.cast (by omega) (by rw [HET.out, ← List.append_assoc])⟩, by simp [intOf]; omega⟩
          · obtain rfl : k = c.table.length := by omega
            have HS7 := Lib.hid (hes.cast (l' := stage4 c) rfl (by rw [List.take_length]; rfl))
            clear hes
            have hf : IntKind.u64.wrap c.fuel = c.fuel := by rw [IntKind.wrap_u64]; omega
            have hla : IntKind.u8.wrap c.lane = c.lane := by rw [IntKind.wrap_u8]; omega
            have hlo : IntKind.u8.wrap c.locks = c.locks := by rw [IntKind.wrap_u8]; omega
            have hlg : IntKind.u64.wrap c.log = c.log := by rw [IntKind.wrap_u64]; omega
            have q2 := HS7.out.blk.cell 2
            simp only [List.getElem?_toArray, List.getElem?_cons_zero, List.getElem?_cons_succ] at q2
            have hlay := lay_any (v := c.fuel) (m := 2) HS7.out.row (by omega) (by omega) (by decide) (by omega)
            have HLAY := Lib.hid hlay
            clear hlay
            go_upto_region 17 with (go_at_call 26; refine HLAY.out.mono ?_; rintro e w8 ⟨r5, A5, c5, rfl, hr5, hk5, hn5⟩)
            have HS8 := Lib.hid (HS7.out.step hr5 hk5 hn5)
            clear hr5 hk5 hn5 q2 HLAY HS7
            have q3 := HS8.out.blk.cell 3
            have q4 := HS8.out.blk.cell 4
            simp only [List.getElem?_toArray, List.getElem?_cons_zero, List.getElem?_cons_succ] at q3 q4
            go_upto_region 18 with (at_builtin; refine wpList_append_many (cs := [.int .u8 c.lane, .int .u8 c.locks]) tyBytes rfl _ _ rfl rfl HS8.out.row rfl rfl rfl (by simp [Value.oneCell']) (by unfold maxLen; omega) (by omega) ?_; intro r5 A5 c5 w9 hr5 hk5 hn5)
            rw [bytes2 (by omega) (by omega) (by omega) (by omega), ← List.map_append] at hr5
            have HS9 := Lib.hid (HS8.out.step hr5 hk5 hn5)
            clear hr5 hk5 hn5 q3 q4 HS8
            have q5 := HS9.out.blk.cell 5
            simp only [List.getElem?_toArray, List.getElem?_cons_zero, List.getElem?_cons_succ] at q5
            have hlay := lay_any (v := c.log) (m := 2) HS9.out.row (by omega) (by omega) (by decide) (by omega)
            have HLAY := Lib.hid hlay
            clear hlay
            go_upto_region 19 with (go_at_call 26; refine HLAY.out.mono ?_; rintro e w10 ⟨r5, A5, c5, rfl, hr5, hk5, hn5⟩)
            have HS10 := Lib.hid (HS9.out.step hr5 hk5 hn5)
            clear hr5 hk5 hn5 q5 HLAY HS9
            have q6 := HS10.out.blk.cell 6
            simp only [List.getElem?_toArray, List.getElem?_cons_zero, List.getElem?_cons_succ] at q6
            go_upto_region 20 with (at_builtin; refine wpList_append_one (cs := [.int .u8 (c.procs.length : Int)]) tyBytes rfl _ _ rfl rfl HS10.out.row rfl rfl rfl (by simp [Value.oneCell']) (by unfold maxLen; omega) (by omega) ?_; intro r5 A5 c5 w11 hr5 hk5 hn5)
            rw [byte1 (by omega) (by omega), ← List.map_append] at hr5
            have HS11 := Lib.hid (HS10.out.step hr5 hk5 hn5)
            clear hr5 hk5 hn5 q6 HS10
            have HS12 := Lib.hid (HS11.out.cast (l' := stage8 c) rfl rfl)
            clear HS11
            have q6 := HS12.out.blk.cell 6
            simp only [List.getElem?_toArray, List.getElem?_cons_zero, List.getElem?_cons_succ] at q6
            go_wp2_with fail
            clear q6 hf hla hlo hlg
            go_loopw [6, 92] (fun v i wr => ∃ (k n : Nat) (rr : Option Nat) (AA : Option Addr) (cc : Nat), k ≤ c.procs.length ∧ i = .int .i64 k ∧ v = .slice AA n cc ∧ n = (stage8 c ++ encPs (c.procs.take k)).length ∧ EncSt w wr w.heap.size 26 #[.slice Al c.labels.length cl, .slice At c.table.length ct, .int .i64 c.fuel, .int .i64 c.lane, .int .i64 c.locks, .int .i64 c.log, .slice Ap c.procs.length cp] rr AA n cc (stage8 c ++ encPs (c.procs.take k))) (fun _ i _ => (c.procs.length - intOf i).toNat)
            case atStart => exact ⟨0, _, _, _, _, Nat.zero_le _, rfl, rfl, by rw [List.take_zero, show encPs [] = [] from rfl, List.append_nil, length_stage8]; omega, HS12.out.cast rfl (by simp [encPs])⟩
            case round =>
              obtain ⟨k, n, rr, AA, cc, hk, rfl, rfl, hn, hes⟩ := hrel
              clear HS12
              by_cases hlt : k < c.procs.length
              · obtain ⟨b, o, rfl, hbb, hpc⟩ := proc_at (HPK.out wr hes.new) (by omega)
                obtain ⟨A', c', ⟨x0, x1⟩, x2, -⟩ := hpc k hlt
                have hpart := S9.out _ (List.getElem_mem hlt)
                have hcode := S10.out _ (List.getElem_mem hlt)
                have hlen := (may_ok hcode).2.2.1
                have h8 := may_eight hcode
                have hcl := length_encode c.procs[k].2
                have hsz : n ≤ 2000000 := by
                  rw [hn, List.length_append, length_stage8]
                  have h1 := length_encPs (c.procs.take k) (fun p hp => (may_ok (S10.out p (List.mem_of_mem_take hp))).2.2.1)
                  rw [List.length_take] at h1
                  have : min k c.procs.length ≤ 32 := by omega
                  have : 3075 * min k c.procs.length ≤ 3075 * 32 := Nat.mul_le_mul_left _ this
                  omega
                have HPT := Lib.hid (show stage8 c ++ encPs (c.procs.take (k + 1)) = stage8 c ++ encPs (c.procs.take k) ++ le c.procs[k].1 1 ++ le c.procs[k].2.length 2 ++ encode c.procs[k].2 by rw [encPs_take _ _ hlt]; unfold encP; simp only [List.append_assoc])
                have hk5 : New wr (wr.alloc (.cells #[.int .i64 c.procs[k].1, .slice A' c.procs[k].2.length c'] 37)) := (Kept.refl _ _).alloc _
                have hce := Code.encode_any A' c.procs[k].2.length c' c.procs[k].2 (wr.alloc (.cells #[.int .i64 c.procs[k].1, .slice A' c.procs[k].2.length c'] 37)) (Code.news x2 hk5)
                unfold Code.Encd at hce
                have heb : Code.encB c.procs[k].2 = encode c.procs[k].2 := by unfold Code.encB; rw [if_pos h8]
                rw [h8, heb] at hce
                have hpb := Blk.made wr 37 #[.int .i64 c.procs[k].1, .slice A' c.procs[k].2.length c']
                clear hpc hcode h8 heb x2
                generalize c.procs[k] = pr at *
                obtain ⟨pp, pl⟩ := pr
                simp only at *
                have y1 := hpb.cell 1
                simp only [List.getElem?_toArray, List.getElem?_cons_zero, List.getElem?_cons_succ] at y1
                have hu8 : IntKind.u8.wrap pp = pp := by rw [IntKind.wrap_u8]; omega
                have hu64 : IntKind.u64.wrap (pl.length : Int) = (pl.length : Int) := by rw [IntKind.wrap_u64]; omega
                have HES := Lib.hid hes
                have HN := Lib.hid hn
                have HCE := Lib.hid hce
                have HPB := Lib.hid hpb
                have HK5 := Lib.hid hk5
                have HCL := Lib.hid hcl
                clear hes hn hce hpb hk5 hcl
                go_upto_region 24 with (go_at_call 27; refine HCE.out.mono ?_; rintro e w6 ⟨r6, A6, n6, c6, rfl, hr6, hf6, hn6⟩)
                have HE6 := Lib.hid ((HES.out.kept HK5.out).kept hn6)
                have HPB6 := Lib.hid (HPB.out.kept hn6 id)
                have hlt6 := hr6.lt (by decide)
                have hs6 := hn6.size
                have hs5 := size1 wr (.cells #[.int .i64 pp, .slice A' pl.length c'] 37)
                have hrr := HES.out.row.lt (by decide)
                have hd : ∀ g, r6 = some g → rr ≠ some g ∧ g < w6.heap.size ∧ g ≠ wr.heap.size := fun g hg => by
                  have h1 := hf6 g hg
                  exact ⟨fun e => by have := hrr g e; omega, hlt6 g hg, by omega⟩
                have hrl : ∀ g, rr = some g → g < wr.heap.size := hrr
                clear y1
                have y0 := HPB6.out.cell 0
                simp only [List.getElem?_toArray, List.getElem?_cons_zero] at y0
                have hs6' : wr.heap.size < w6.heap.size := by omega
                have HR6 := Lib.hid hr6
                have HD := Lib.hid hd
                have HRL := Lib.hid hrl
                clear hr6 hd hrl
                clear hf6 hn6 hlt6 hs6 hs5 hrr
                go_upto_region 25 with (at_builtin; refine wpList_append_one (cs := [.int .u8 pp]) tyBytes rfl _ _ rfl rfl HE6.out.row rfl rfl rfl (by simp [Value.oneCell']) (by unfold maxLen; omega) (by omega) ?_; intro r7 A7 c7 w7 hr7 hk7 hn7)
                rw [byte1 (by omega) (by omega), ← List.map_append] at hr7
                have HE7 := Lib.hid (HE6.out.step hr7 hk7 hn7)
                have HPB7 := Lib.hid (HPB6.out.kept hk7 (fun e => by have := HRL.out _ e; omega))
                have HR7 := Lib.hid (HR6.out.of_kept (by decide) hk7 (fun g hg e => (HD.out g hg).1 e))
                have hd7 : ∀ g, r6 = some g → r7 ≠ some g := fun g hg e => by
                  rcases hn7 g e with h | h
                  · exact (HD.out g hg).1 h
                  · have := (HD.out g hg).2.1; omega
                have hp7 : ¬ r7 = some wr.heap.size := fun e => by
                  rcases hn7 _ e with h | h
                  · have := HRL.out _ h; omega
                  · omega
                have HD7 := Lib.hid hd7
                have HP7 := Lib.hid hp7
                clear hd7 hp7
                clear hr7 hk7 hn7 y0
                have y1 := HPB7.out.cell 1
                simp only [List.getElem?_toArray, List.getElem?_cons_zero, List.getElem?_cons_succ] at y1
                have hlay := lay_any (v := (pl.length : Int)) (m := 2) HE7.out.row (by omega) (by omega) (by decide) (by omega)
                have HLAY := Lib.hid hlay
                clear hlay
                go_upto_region 26 with (go_at_call 26; refine HLAY.out.mono ?_; rintro e w8 ⟨r8, A8, c8, rfl, hr8, hk8, hn8⟩)
                have HE8 := Lib.hid (HE7.out.step hr8 hk8 hn8)
                have hr68 := Row.bytes (HR7.out.of_kept (by decide) hk8 (fun g hg e => HD7.out g hg e))
                have HSR := Lib.hid (SliceOf.srcB Try.underlying27 hr68.2)
                have hl68 := hr68.1
                clear hr8 hk8 hn8 y1 hr68
                have HCL2 := Lib.hid (hl68.trans HCL.out)
                have hl9 : n6 ≤ 3072 := by have := HCL2.out; omega
                clear hl68
                go_wp2_with (at_builtin; refine wpList_append_row tyBytes rfl _ _ rfl rfl HE8.out.row rfl HSR.out (by unfold maxLen; omega) (by omega) ?_; intro r9 A9 c9 w9 hr9 hk9 hn9)
                rw [← List.map_append] at hr9
                have HE9 := Lib.hid (HE8.out.step hr9 hk9 hn9)
                clear hr9 hk9 hn9
                refine ⟨⟨k + 1, n + 1 + 2 + n6, r9, A9, c9, by omega, by go_num, rfl, ?_, HE9.out.cast rfl HPT.out.symm⟩, by simp [intOf]; omega⟩
                rw [HPT.out]
                simp only [List.length_append, length_le, HCL2.out, length_encode]
                have := HN.out
                simp only [List.length_append] at this
                omega
              · obtain rfl : k = c.procs.length := by omega
                rw [List.take_length] at hn hes
                have HES := Lib.hid hes
                have HN := Lib.hid hn
                clear hn
                clear hes
                go_wp2_with fail
                go_ret2
                rw [E.out]
                have e : n = (encB c).length := HN.out
                subst e
                exact ⟨rr, AA, cc, rfl, HES.out.row, fun g hg => (HES.out.own g hg).1, HES.out.new⟩
  · have hm' : ((mayC c).1 != 0) = true := by simpa using hm
    have E := Lib.hid (show encC c = [] by unfold encC; rw [if_neg (fun e => hm (congrArg Prod.fst e))])
    generalize mayC c = m at *
    clear hm
    have z0 := HB1.out.cell 0
    have z1 := HB1.out.cell 1
    have z2 := HB1.out.cell 2
    have z3 := HB1.out.cell 3
    have z4 := HB1.out.cell 4
    have z5 := HB1.out.cell 5
    have z6 := HB1.out.cell 6
    simp only [List.getElem?_toArray, List.getElem?_cons_zero, List.getElem?_cons_succ] at z0 z1 z2 z3 z4 z5 z6
    go_enter Try.func10, Try.ntmps10
    go_wp2_with (go_at_call 15; refine HMAY.out.mono ?_; rintro e w2 ⟨rfl, hn2⟩)
    go_ret2
    refine ⟨none, none, 0, ?_, ?_, (by intro k hk; cases hk), K1.out.trans hn2⟩
    · rw [E.out]; rfl
    · rw [E.out]; exact Row.nil _ _
end
end Go.Proofs.Ytaefgljpdpigeaa.Conf
