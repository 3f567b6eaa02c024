/- The walk of the reference's Encode (layer 14). -/
import Derived.Test.YtaefgljpdpigeaaConfRn
import Derived.Test.YtaefgljpdpigeaaConfG
namespace Go.Proofs.Ytaefgljpdpigeaa.Conf
open Go.RowKit Go.Fb Go.CodeP Go.BytesP
open Go.Proofs.Ytaefgljpdpigeaa.Code (RowB tyBytes byte_bv u64_bd)
set_option linter.unusedVariables false
theorem start_lit {w w2 : World} {cb : Nat} {T E : TypeId} {cs : Array Value} {n : Int} (hn : New w w2) (hb : Blk w2 cb T cs) (h0 : 0 ≤ n) (h1 : n ≤ 255) :
    EncSt w (w2.alloc (.cells #[.int .u8 70, .int .u8 66, .int .u8 67, .int .u8 70, .int .u8 1, .int .u8 n] E)) cb T cs (some w2.heap.size) (some ⟨w2.heap.size, 0, none⟩) 6 6 (markB ++ le n 1) where
  row := by
    have := Row.of_made (T := E) (size := 1) w2 [.int .u8 70, .int .u8 66, .int .u8 67, .int .u8 70, .int .u8 1, .int .u8 n] (c := 6) rfl (by unfold maxLen; omega) (by decide)
    unfold RowB
    rw [List.map_append, ← byte1 h0 h1]
    exact this
  own g hg := by injection hg with hg; subst hg; have := hb.lt; exact ⟨hn.size, by omega⟩
  new := hn.alloc _
  blk := hb.alloc _
section
variable {w : World} {B : Nat} {c : Cf} {Al At Ap : Option Addr} {cl ct cp : Nat}
set_option maxRecDepth 100000 in
set_option maxHeartbeats 4000000 in
theorem rencode_any (hl : SliceOf (Rep.int .u64) w B Al c.labels.length cl c.labels) (ht : SliceOf (Rep.int .i64) w B At c.table.length ct c.table) (hp : SliceOf repProc w B Ap c.procs.length cp c.procs) (hB : B ≤ w.heap.size) :
    Calls Try.prog 18 #[.agg (confC c Al cl At ct Ap cp).toArray] w fun e w' => Encoded w w' e c := by
  unfold Encoded
  have hbl := hl.bound
  have hbt := ht.bound
  have hbp := hp.bound
  have k1 : New w (w.alloc (.cells (confC c Al cl At ct Ap cp).toArray 26)) := (Kept.refl _ _).alloc _
  have hb1 := Blk.made w 26 (confC c Al cl At ct Ap cp).toArray
  have HMAY := Lib.hid (rmay_any (hl.kept k1 hB fun _ _ h => h) (ht.kept k1 hB fun _ _ h => h) (hp.kept k1 hB fun _ _ h => h) (Nat.le_trans hB k1.size))
  have HLK := Lib.hid (fun W (hW : New w W) => (hl.kept hW hB fun _ _ h => h))
  have HTK := Lib.hid (fun W (hW : New w W) => (ht.kept hW hB fun _ _ h => h))
  have HPW := Lib.hid hp
  have HPK := Lib.hid (fun W (hW : New w W) => (hp.kept hW hB fun _ _ h => h).more (Nat.le_trans hB hW.size))
  unfold confC at k1 hb1 HMAY ⊢
  have K1 := Lib.hid k1
  have HB1 := Lib.hid hb1
  clear k1 hb1
  clear hl ht hp
  by_cases hm : (mayC c).1 = 0
  · have hs := sane_of (may_zeroC hm)
    have E := Lib.hid (show encC c = encB c by unfold encC; rw [if_pos (may_zeroC hm)])
    have hm0 : mayC c = (0, 0) := may_zeroC hm
    rw [hm0] at HMAY ⊢
    clear hm hm0
    obtain ⟨s1, s2, s3, s4, s5, s6, s7, s8, s9, s10, -⟩ := hs
    have S3 := Lib.hid s3
    have S9 := Lib.hid s9
    have S10 := Lib.hid s10
    clear s3 s9 s10
    have z0 := HB1.out.cell 0
    have z1 := HB1.out.cell 1
    have z2 := HB1.out.cell 2
    have z3 := HB1.out.cell 3
    have z4 := HB1.out.cell 4
    have z5 := HB1.out.cell 5
    have z6 := HB1.out.cell 6
    simp only [List.getElem?_toArray, List.getElem?_cons_zero, List.getElem?_cons_succ] at z0 z1 z2 z3 z4 z5 z6
    go_enter Try.func18, Try.ntmps18
    go_upto_region 4 with (go_at_call 23; refine HMAY.out.mono ?_; rintro e w2 ⟨rfl, hn2⟩)
    have HN2 := Lib.hid (K1.out.trans hn2)
    have hb2 := HB1.out.kept hn2 id
    have y0 := hb2.cell 0
    simp only [List.getElem?_toArray, List.getElem?_cons_zero] at y0
    have HB2 := Lib.hid hb2
    clear hb2
    go_upto_region 5 with fail
    have HS4 := Lib.hid (start_lit (E := 5) (n := (c.labels.length : Int)) HN2.out HB2.out (by omega) (by omega))
    clear y0
    have y0 := HS4.out.blk.cell 0
    simp only [List.getElem?_toArray, List.getElem?_cons_zero] at y0
    go_wp2_with fail
    go_loopw [6, 7] (fun v i wr => ∃ (k : Nat) (rr : Option Nat) (AA : Option Addr) (cc : Nat), k ≤ c.labels.length ∧ i = .int .i64 k ∧ v = .slice AA (6 + 8 * k) cc ∧ EncSt w wr w.heap.size 26 #[.slice Al c.labels.length cl, .slice At c.table.length ct, .int .i64 c.fuel, .int .i64 c.lane, .int .i64 c.locks, .int .i64 c.log, .slice Ap c.procs.length cp] rr AA (6 + 8 * k) cc (markB ++ le c.labels.length 1 ++ encL (c.labels.take k))) (fun _ i _ => (c.labels.length - intOf i).toNat)
    case atStart => exact ⟨0, _, _, _, Nat.zero_le _, rfl, rfl, HS4.out.cast rfl (by simp [encL])⟩
    case round =>
      obtain ⟨k, rr, AA, cc, hk, rfl, rfl, hes⟩ := hrel
      clear HS4 HN2 HB2
      have y0 := hes.blk.cell 0
      simp only [List.getElem?_toArray, List.getElem?_cons_zero] at y0
      by_cases hlt : k < c.labels.length
      · obtain ⟨g, o, rfl, -, hc⟩ := (HLK.out wr hes.new).ints (by omega)
        have xk := hc k hlt
        have hwf := bounds_u64 ((HLK.out wr hes.new).wf _ (List.getElem_mem hlt))
        have hlay := rnum_any (v := c.labels[k]) (m := 8) hes.row (by omega) (by omega) (Nat.le_refl _) (by omega)
        have het := encL_take c.labels k hlt
        generalize c.labels[k] = lv at *
        have HES := Lib.hid hes
        have HLAY := Lib.hid hlay
        have HET := Lib.hid het
        clear hes hlay het
        clear hc hwf
        go_wp2_with (go_at_call 48; refine HLAY.out.mono ?_; rintro e w5 ⟨r5, A5, c5, rfl, hr5, hk5, hn5⟩)
        have HS5 := Lib.hid (HES.out.step hr5 hk5 hn5)
        clear hr5 hk5 hn5
        go_wp2_with fail
        go_roundw
        case rel => exact ⟨k + 1, r5, A5, c5, by omega, by go_num, by go_num, HS5.out.cast (by omega) (by rw [HET.out, ← List.append_assoc])⟩
        case measure => simp [intOf]; omega
      · obtain rfl : k = c.labels.length := by omega
        have HS5 := Lib.hid (hes.cast (l' := stage2 c) rfl (by rw [List.take_length]; rfl))
        clear hes
        have q1 := HS5.out.blk.cell 1
        simp only [List.getElem?_toArray, List.getElem?_cons_zero, List.getElem?_cons_succ] at q1
        go_upto_region 10 with (at_builtin; refine wpList_append_one (cs := [.int .u8 (c.table.length : Int)]) tyBytes rfl _ _ rfl rfl HS5.out.row rfl rfl rfl (by simp [Value.oneCell']) (by unfold maxLen; omega) (by omega) ?_; intro r5 A5 c5 w6 hr5 hk5 hn5)
        rw [byte1 (by omega) (by omega), ← List.map_append] at hr5
        have HS6 := Lib.hid (HS5.out.step hr5 hk5 hn5)
        clear hr5 hk5 hn5 q1 y0 HS5
        have q1 := HS6.out.blk.cell 1
        simp only [List.getElem?_toArray, List.getElem?_cons_zero, List.getElem?_cons_succ] at q1
        go_wp2_with fail
        clear q1
        go_loopw [6, 8] (fun v i wr => ∃ (k : Nat) (rr : Option Nat) (AA : Option Addr) (cc : Nat), k ≤ c.table.length ∧ i = .int .i64 k ∧ v = .slice AA (6 + 8 * c.labels.length + 1 + k) cc ∧ EncSt w wr w.heap.size 26 #[.slice Al c.labels.length cl, .slice At c.table.length ct, .int .i64 c.fuel, .int .i64 c.lane, .int .i64 c.locks, .int .i64 c.log, .slice Ap c.procs.length cp] rr AA (6 + 8 * c.labels.length + 1 + k) cc (stage2 c ++ le c.table.length 1 ++ encT (c.table.take k))) (fun _ i _ => (c.table.length - intOf i).toNat)
        case atStart => exact ⟨0, _, _, _, Nat.zero_le _, rfl, rfl, HS6.out.cast rfl (by simp [encT])⟩
        case round =>
          obtain ⟨k, rr, AA, cc, hk, rfl, rfl, hes⟩ := hrel
          clear HS6
          have y1 := hes.blk.cell 1
          simp only [List.getElem?_toArray, List.getElem?_cons_zero, List.getElem?_cons_succ] at y1
          by_cases hlt : k < c.table.length
          · obtain ⟨g, o, rfl, -, hc⟩ := (HTK.out wr hes.new).ints (by omega)
            have xk := hc k hlt
            have hwf := S3.out _ (List.getElem_mem hlt)
            have het := encT_take c.table k hlt
            generalize c.table[k] = lv at *
            have HES := Lib.hid hes
            have HET := Lib.hid het
            clear hes het
            clear hc
            have hu8 : IntKind.u8.wrap lv = lv := by rw [IntKind.wrap_u8]; omega
            go_wp2_with (at_builtin; refine wpList_append_one (cs := [.int .u8 lv]) tyBytes rfl _ _ rfl rfl HES.out.row rfl rfl rfl (by simp [Value.oneCell']) (by unfold maxLen; omega) (by omega) ?_; intro r5 A5 c5 w5 hr5 hk5 hn5)
            rw [byte1 (by omega) (by omega), ← List.map_append] at hr5
            have HS7 := Lib.hid (HES.out.step hr5 hk5 hn5)
            clear hr5 hk5 hn5
            refine ⟨⟨k + 1, r5, A5, c5, by omega, by go_num, by go_num, HS7.out.cast (by omega) (by rw [HET.out, ← List.append_assoc])⟩, by simp [intOf]; omega⟩
          · obtain rfl : k = c.table.length := by omega
            have HS7 := Lib.hid (hes.cast (l' := stage4 c) rfl (by rw [List.take_length]; rfl))
            clear hes
            have hf : IntKind.u64.wrap c.fuel = c.fuel := by rw [IntKind.wrap_u64]; omega
            have hla : IntKind.u8.wrap c.lane = c.lane := by rw [IntKind.wrap_u8]; omega
            have hlo : IntKind.u8.wrap c.locks = c.locks := by rw [IntKind.wrap_u8]; omega
            have hlg : IntKind.u64.wrap c.log = c.log := by rw [IntKind.wrap_u64]; omega
            have q2 := HS7.out.blk.cell 2
            simp only [List.getElem?_toArray, List.getElem?_cons_zero, List.getElem?_cons_succ] at q2
            have hlay := rnum_any (v := c.fuel) (m := 2) HS7.out.row (by omega) (by omega) (by decide) (by omega)
            have HLAY := Lib.hid hlay
            clear hlay
            go_upto_region 15 with (go_at_call 48; refine HLAY.out.mono ?_; rintro e w8 ⟨r5, A5, c5, rfl, hr5, hk5, hn5⟩)
            have HS8 := Lib.hid (HS7.out.step hr5 hk5 hn5)
            clear hr5 hk5 hn5 q2 y1 HLAY HS7
            have q3 := HS8.out.blk.cell 3
            have q4 := HS8.out.blk.cell 4
            simp only [List.getElem?_toArray, List.getElem?_cons_zero, List.getElem?_cons_succ] at q3 q4
            go_upto_region 16 with (at_builtin; refine wpList_append_many (cs := [.int .u8 c.lane, .int .u8 c.locks]) tyBytes rfl _ _ rfl rfl HS8.out.row rfl rfl rfl (by simp [Value.oneCell']) (by unfold maxLen; omega) (by omega) ?_; intro r5 A5 c5 w9 hr5 hk5 hn5)
            rw [bytes2 (by omega) (by omega) (by omega) (by omega), ← List.map_append] at hr5
            have HS9 := Lib.hid (HS8.out.step hr5 hk5 hn5)
            clear hr5 hk5 hn5 q3 q4 HS8
            have q5 := HS9.out.blk.cell 5
            simp only [List.getElem?_toArray, List.getElem?_cons_zero, List.getElem?_cons_succ] at q5
            have hlay := rnum_any (v := c.log) (m := 2) HS9.out.row (by omega) (by omega) (by decide) (by omega)
            have HLAY := Lib.hid hlay
            clear hlay
            go_upto_region 17 with (go_at_call 48; refine HLAY.out.mono ?_; rintro e w10 ⟨r5, A5, c5, rfl, hr5, hk5, hn5⟩)
            have HS10 := Lib.hid (HS9.out.step hr5 hk5 hn5)
            clear hr5 hk5 hn5 q5 HLAY HS9
            have q6 := HS10.out.blk.cell 6
            simp only [List.getElem?_toArray, List.getElem?_cons_zero, List.getElem?_cons_succ] at q6
            go_upto_region 18 with (at_builtin; refine wpList_append_one (cs := [.int .u8 (c.procs.length : Int)]) tyBytes rfl _ _ rfl rfl HS10.out.row rfl rfl rfl (by simp [Value.oneCell']) (by unfold maxLen; omega) (by omega) ?_; intro r5 A5 c5 w11 hr5 hk5 hn5)
            rw [byte1 (by omega) (by omega), ← List.map_append] at hr5
            have HS11 := Lib.hid (HS10.out.step hr5 hk5 hn5)
            clear hr5 hk5 hn5 q6 HS10
            have HS12 := Lib.hid (HS11.out.cast (l' := stage8 c) rfl rfl)
            clear HS11
            have q6 := HS12.out.blk.cell 6
            simp only [List.getElem?_toArray, List.getElem?_cons_zero, List.getElem?_cons_succ] at q6
            go_wp2_with fail
            clear q6 hf hla hlo hlg
            go_loopw [6, 9] (fun v i wr => ∃ (k n : Nat) (rr : Option Nat) (AA : Option Addr) (cc : Nat), k ≤ c.procs.length ∧ i = .int .i64 k ∧ v = .slice AA n cc ∧ n = (stage8 c ++ encPs (c.procs.take k)).length ∧ EncSt w wr w.heap.size 26 #[.slice Al c.labels.length cl, .slice At c.table.length ct, .int .i64 c.fuel, .int .i64 c.lane, .int .i64 c.locks, .int .i64 c.log, .slice Ap c.procs.length cp] rr AA n cc (stage8 c ++ encPs (c.procs.take k))) (fun _ i _ => (c.procs.length - intOf i).toNat)
            case atStart => exact ⟨0, _, _, _, _, Nat.zero_le _, rfl, rfl, by rw [List.take_zero, show encPs [] = [] from rfl, List.append_nil, length_stage8]; omega, HS12.out.cast rfl (by simp [encPs])⟩
            case round =>
              obtain ⟨k, n, rr, AA, cc, hk, rfl, rfl, hn, hes⟩ := hrel
              clear HS12
              have y6 := hes.blk.cell 6
              simp only [List.getElem?_toArray, List.getElem?_cons_zero, List.getElem?_cons_succ] at y6
              by_cases hlt : k < c.procs.length
              · obtain ⟨b, o, rfl, hbb, hpc⟩ := proc_at HPW.out (by omega)
                obtain ⟨A', c', ⟨x0w, x1w⟩, x2, -⟩ := hpc k hlt
                have x0 := (hes.new.cell (p := ⟨b, o + k * 2, none⟩) (Nat.lt_of_lt_of_le hbb hB) id).trans x0w
                have x1 := (hes.new.cell (p := ⟨b, o + k * 2 + 1, none⟩) (Nat.lt_of_lt_of_le hbb hB) id).trans x1w
                have hpart := S9.out _ (List.getElem_mem hlt)
                have hcode := S10.out _ (List.getElem_mem hlt)
                obtain ⟨-, -, hlen, hck⟩ := may_ok hcode
                have hbc := x2.bound
                have hsz : n ≤ 2000000 := by
                  rw [hn, List.length_append, length_stage8]
                  have h1 := length_encPs (c.procs.take k) (fun p hp => (may_ok (S10.out p (List.mem_of_mem_take hp))).2.2.1)
                  rw [List.length_take] at h1
                  have : min k c.procs.length ≤ 32 := by omega
                  have : 3075 * min k c.procs.length ≤ 3075 * 32 := Nat.mul_le_mul_left _ this
                  omega
                have hsz2 : n ≤ 200000 := by
                  rw [hn, List.length_append, length_stage8]
                  have h1 := length_encPs (c.procs.take k) (fun p hp => (may_ok (S10.out p (List.mem_of_mem_take hp))).2.2.1)
                  rw [List.length_take] at h1
                  have : min k c.procs.length ≤ 32 := by omega
                  have : 3075 * min k c.procs.length ≤ 3075 * 32 := Nat.mul_le_mul_left _ this
                  omega
                have HPT := Lib.hid (show stage8 c ++ encPs (c.procs.take (k + 1)) = stage8 c ++ encPs (c.procs.take k) ++ le c.procs[k].1 1 ++ le c.procs[k].2.length 2 ++ encode c.procs[k].2 by rw [encPs_take _ _ hlt]; unfold encP; simp only [List.append_assoc])
                have hk5 : New wr (wr.alloc (.cells #[.int .i64 c.procs[k].1, .slice A' c.procs[k].2.length c'] 37)) := (Kept.refl _ _).alloc _
                have hpb := Blk.made wr 37 #[.int .i64 c.procs[k].1, .slice A' c.procs[k].2.length c']
                have HXK := Lib.hid (fun W (hW : New w W) => x2.kept hW hB fun _ _ h => h)
                have HCK := Lib.hid hck
                clear hpc hcode x2 x0w x1w hck
                generalize c.procs[k] = pr at *
                obtain ⟨pp, pl⟩ := pr
                simp only at *
                have y0 := hpb.cell 0
                have y1 := hpb.cell 1
                simp only [List.getElem?_toArray, List.getElem?_cons_zero, List.getElem?_cons_succ] at y0 y1
                have hu8 : IntKind.u8.wrap pp = pp := by rw [IntKind.wrap_u8]; omega
                have hu64 : IntKind.u64.wrap (pl.length : Int) = (pl.length : Int) := by rw [IntKind.wrap_u64]; omega
                have HES5 := Lib.hid (hes.kept hk5)
                have hrl := hes.row.lt (by decide)
                have HN := Lib.hid hn
                have HPB := Lib.hid hpb
                have HRL := Lib.hid hrl
                clear hn hpb hrl
                clear hes hk5
                go_upto_region 23 with (at_builtin; refine wpList_append_one (cs := [.int .u8 pp]) tyBytes rfl _ _ rfl rfl HES5.out.row (size1 _ _) rfl rfl (by simp [Value.oneCell']) (by unfold maxLen; omega) (by omega) ?_; intro r7 A7 c7 w7 hr7 hk7 hn7)
                rw [byte1 (by omega) (by omega), ← List.map_append] at hr7
                have HE7 := Lib.hid (HES5.out.step hr7 hk7 hn7)
                have HPB7 := Lib.hid (HPB.out.kept hk7 (fun e => by have := HRL.out _ e; omega))
                have hp7 : ¬ r7 = some wr.heap.size := fun e => by
                  rcases hn7 _ e with h | h
                  · have := HRL.out _ h; omega
                  · have := size1 wr (.cells #[.int .i64 pp, .slice A' pl.length c'] 37); omega
                have hs7 := HPB7.out.lt
                have HP7 := Lib.hid hp7
                clear hp7
                clear hr7 hk7 hn7 y0 y1 HES5 HPB HRL
                have y1 := HPB7.out.cell 1
                simp only [List.getElem?_toArray, List.getElem?_cons_zero, List.getElem?_cons_succ] at y1
                have hlay := rnum_any (v := (pl.length : Int)) (m := 2) HE7.out.row (by omega) (by omega) (by decide) (by omega)
                have HLAY := Lib.hid hlay
                clear hlay
                go_upto_region 24 with (go_at_call 48; refine HLAY.out.mono ?_; rintro e w8 ⟨r8, A8, c8, rfl, hr8, hk8, hn8⟩)
                have HE8 := Lib.hid (HE7.out.step hr8 hk8 hn8)
                have HPB8 := Lib.hid (HPB7.out.kept hk8 (fun e => HP7.out e))
                have hp8 : ¬ r8 = some wr.heap.size := fun e => by
                  rcases hn8 _ e with h | h
                  · exact HP7.out h
                  · omega
                have HP8 := Lib.hid hp8
                clear hp8
                clear hr8 hk8 hn8 y1 HE7 HPB7 HP7 HLAY
                go_wp2_with fail
                have hins := HXK.out
                generalize wr.heap.size = pb at *
                go_loopw [6, 11] (fun v i wx => ∃ (j : Nat) (rj : Option Nat) (Aj : Option Addr) (cj : Nat), j ≤ pl.length ∧ i = .int .i64 j ∧ v = .slice Aj (n + 1 + 2 + 12 * j) cj ∧ rj ≠ some pb ∧ Blk wx pb 37 #[.int .i64 pp, .slice A' pl.length c'] ∧ EncSt w wx w.heap.size 26 #[.slice Al c.labels.length cl, .slice At c.table.length ct, .int .i64 c.fuel, .int .i64 c.lane, .int .i64 c.locks, .int .i64 c.log, .slice (some ⟨b, o, none⟩) c.procs.length cp] rj Aj (n + 1 + 2 + 12 * j) cj (stage8 c ++ encPs (c.procs.take k) ++ le pp 1 ++ le pl.length 2 ++ encode (pl.take j))) (fun _ i _ => (pl.length - intOf i).toNat)
                case atStart => exact ⟨0, _, _, _, Nat.zero_le _, rfl, rfl, HP8.out, HPB8.out, HE8.out.cast rfl (by simp [encode])⟩
                case round =>
                  obtain ⟨j, rj, Aj, cj, hj, rfl, rfl, hne, hpbj, hej⟩ := hrel
                  clear HP8 HPB8 HE8
                  have y1 := hpbj.cell 1
                  simp only [List.getElem?_toArray, List.getElem?_cons_zero, List.getElem?_cons_succ] at y1
                  by_cases hlj : j < pl.length
                  · obtain ⟨g2, o2, rfl, -, hic⟩ := Code.ins_at (hins wr hej.new) (by omega)
                    obtain ⟨i0, i1, i2, i3, i4⟩ := hic j hlj
                    have hput := Code.ref_put (x := pl[j]) (m := pl.length) (locks := c.locks) rj Aj (n + 1 + 2 + 12 * j) cj _ wr hej.row (HCK.out _ (List.getElem_mem hlj)) (by omega)
                    have het := Code.encode_take pl j hlj
                    have HPJ := Lib.hid hpbj
                    have HEJ := Lib.hid hej
                    clear hpbj hej hic
                    generalize pl[j] = x at *
                    obtain ⟨xo, xa, xb, xc, xi⟩ := x
                    simp only at i0 i1 i2 i3 i4
                    unfold Code.agg at hput
                    simp only at hput
                    have HNE := Lib.hid hne
                    have HPUT := Lib.hid hput
                    have HET := Lib.hid het
                    clear hput het
                    clear hne
                    go_wp2_with (go_at_call 49; refine HPUT.out.mono ?_; rintro e w9 ⟨r9, A9, c9, rfl, hr9, hk9, hn9⟩)
                    have HE9 := Lib.hid (HEJ.out.step hr9 hk9 hn9)
                    have HPB9 := Lib.hid (HPJ.out.kept hk9 (fun e => HNE.out e))
                    have hp9 : r9 ≠ some pb := fun e => by
                      rcases hn9 _ e with h | h
                      · exact HNE.out h
                      · have := HPJ.out.lt; omega
                    clear hr9 hk9 hn9
                    go_wp2_with fail
                    go_roundw
                    case rel => exact ⟨j + 1, r9, A9, c9, by omega, by go_num, by go_num, hp9, HPB9.out, HE9.out.cast (by omega) (by rw [HET.out, ← List.append_assoc])⟩
                    case measure => simp [intOf]; omega
                  · obtain rfl : j = pl.length := by omega
                    have HEJ := Lib.hid (hej.cast (l' := stage8 c ++ encPs (c.procs.take k) ++ le pp 1 ++ le pl.length 2 ++ encode pl) rfl (by rw [List.take_length]))
                    clear hej hpbj hne
                    go_wp2_with fail
                    refine ⟨⟨k + 1, n + 1 + 2 + 12 * pl.length, rj, Aj, cj, by omega, by go_num, rfl, ?_, HEJ.out.cast rfl HPT.out.symm⟩, by simp [intOf]; omega⟩
                    rw [HPT.out]
                    simp only [List.length_append, length_le, length_encode]
                    have := HN.out
                    simp only [List.length_append] at this
                    omega
              · obtain rfl : k = c.procs.length := by omega
                rw [List.take_length] at hn hes
                have HES := Lib.hid hes
                clear HPW
                have HN := Lib.hid hn
                clear hn
                clear hes
                go_wp2_with fail
                go_ret2
                rw [E.out]
                have e : n = (encB c).length := HN.out
                subst e
                exact ⟨rr, AA, cc, rfl, HES.out.row, fun g hg => (HES.out.own g hg).1, HES.out.new⟩
  · have hm' : ((mayC c).1 != 0) = true := by simpa using hm
    have E := Lib.hid (show encC c = [] by unfold encC; rw [if_neg (fun e => hm (congrArg Prod.fst e))])
    generalize mayC c = m at *
    clear hm
    have z0 := HB1.out.cell 0
    have z1 := HB1.out.cell 1
    have z2 := HB1.out.cell 2
    have z3 := HB1.out.cell 3
    have z4 := HB1.out.cell 4
    have z5 := HB1.out.cell 5
    have z6 := HB1.out.cell 6
    simp only [List.getElem?_toArray, List.getElem?_cons_zero, List.getElem?_cons_succ] at z0 z1 z2 z3 z4 z5 z6
    go_enter Try.func18, Try.ntmps18
    go_wp2_with (go_at_call 23; refine HMAY.out.mono ?_; rintro e w2 ⟨rfl, hn2⟩)
    go_ret2
    refine ⟨none, none, 0, ?_, ?_, (by intro k hk; cases hk), K1.out.trans hn2⟩
    · rw [E.out]; rfl
    · rw [E.out]; exact Row.nil _ _
end
end Go.Proofs.Ytaefgljpdpigeaa.Conf
