/- The walk of the reference's Holds (layer 8). -/
import Derived.Test.YtjhiaicpgajeoaaValidJ
import Derived.Deep.DeepCutAuto
namespace Go.Proofs.Ytjhiaicpgajeoaa.Valid
open Go.RowKit Go.Fb Go.BytesP Go.CodeP Go.ValidP
open Go.Proofs.Ytjhiaicpgajeoaa.Code (repIns ins_at ins_wf cellsI Wf)
set_option linter.unusedVariables false
theorem IntsAt.made_at {w : World} {K g : Nat} (h : g = w.heap.size) : IntsAt (w.alloc (.cells (Array.replicate K (Value.int .i64 0)) 3)) g K (fun _ => 0) := by subst h; exact IntsAt.made w K
theorem BoolsAt.made_at {w : World} {K g : Nat} (h : g = w.heap.size) : BoolsAt (w.alloc (.cells (Array.replicate K (Value.bool false)) 4)) g K (fun _ => false) := by subst h; exact BoolsAt.made w K
theorem UnI.start {l : List Ins} {R : Array Value} {br gl go K : Nat} {W : World} (h1 : Blk W br 56 R) (h2 : IntsAt W gl K (fun _ => 0)) (h3 : BoolsAt W go K (fun _ => false)) : UnI l R br gl go K (fun _ => 0) (fun _ => false) [] [] W := by
  have hu : ∀ s, uOf l (fun _ => 0) (fun _ => false) s = none := fun s => by
    unfold uOf
    by_cases h : s.1 ≤ l.length ∧ s.2 < 256
    · rw [if_pos h]; simp
    · rw [if_neg h]
  refine ⟨h1, h2, h3, fun j => by simp, fun s => by rw [hu]; simp, by simp, by simp, ?_⟩
  rw [show uOf l (fun _ => 0) (fun _ => false) = fun _ => none from funext hu]
  exact Memo.empty l
/-- The rows, made. -/
def RowsI (l : List Ins) (A : Option Addr) (n c K : Nat) (w1 : World) (z : Value) (W : World) : Prop := ∃ br gl go, z = .pointer (some ⟨br, 0, none⟩) ∧ w1.heap.size ≤ br ∧ w1.heap.size ≤ gl ∧ w1.heap.size ≤ go ∧ br ≠ gl ∧ br ≠ go ∧ gl ≠ go ∧ New w1 W ∧ UnI l #[.slice A n c, .slice (some ⟨gl, 0, none⟩) K K, .slice (some ⟨go, 0, none⟩) K K] br gl go K (fun _ => 0) (fun _ => false) [] [] W
theorem RowsI.one {l : List Ins} {A : Option Addr} {n c K : Nat} {w1 w2 : World} (hn : New w1 w2) (hs : w2.heap.size = w1.heap.size) : RowsI l A n c K w1 (.pointer (some ⟨w1.heap.size + 1 + 1, 0, none⟩)) (((w2.alloc (.cells (Array.replicate K (Value.int .i64 0)) 3)).alloc (.cells (Array.replicate K (Value.bool false)) 4)).alloc (.cells #[.slice A n c, .slice (some ⟨w1.heap.size, 0, none⟩) K K, .slice (some ⟨w1.heap.size + 1, 0, none⟩) K K] 56)) :=
  ⟨_, w1.heap.size, w1.heap.size + 1, rfl, by omega, by omega, by omega, by omega, by omega, by omega, ((hn.alloc _).alloc _).alloc _,
    UnI.start (Blk.made_at _ _ _ _ (by rw [size_al, size_al, hs])) (((IntsAt.made_at hs.symm).kept ((Kept.refl (fun _ => False) _).alloc _) id).kept ((Kept.refl (fun _ => False) _).alloc _) id) ((BoolsAt.made_at (by rw [size_al, hs])).kept ((Kept.refl (fun _ => False) _).alloc _) id)⟩
theorem RowsI.two {l : List Ins} {A : Option Addr} {n c K : Nat} {w1 w2 : World} (hn : New w1 w2) (hs : w2.heap.size = w1.heap.size) : RowsI l A n c K w1 (.pointer (some ⟨w1.heap.size + 1 + 1, 0, none⟩)) (((w2.alloc (.cells (Array.replicate K (Value.bool false)) 4)).alloc (.cells (Array.replicate K (Value.int .i64 0)) 3)).alloc (.cells #[.slice A n c, .slice (some ⟨w1.heap.size + 1, 0, none⟩) K K, .slice (some ⟨w1.heap.size, 0, none⟩) K K] 56)) :=
  ⟨_, w1.heap.size + 1, w1.heap.size, rfl, by omega, by omega, by omega, by omega, by omega, by omega, ((hn.alloc _).alloc _).alloc _,
    UnI.start (Blk.made_at _ _ _ _ (by rw [size_al, size_al, hs])) ((IntsAt.made_at (by rw [size_al, hs])).kept ((Kept.refl (fun _ => False) _).alloc _) id) (((BoolsAt.made_at hs.symm).kept ((Kept.refl (fun _ => False) _).alloc _) id).kept ((Kept.refl (fun _ => False) _).alloc _) id)⟩
/-- The holds of a program, in a list. -/
structure HoldsR (l : List Ins) (i : Nat) (H : Nat → Int) : Prop where
  tells : ∀ q, q < i → ∀ v, Hold l q v → H q = v
  none : ∀ q, q < i → (∀ v, ¬ Hold l q v) → H q = 0
  rest : ∀ q, i ≤ q → H q = 0
theorem HoldsR.skip {l : List Ins} {i : Nat} {H : Nat → Int} (h : HoldsR l i H) (hn : ∀ v, ¬ Hold l i v) : HoldsR l (i + 1) H := by
  refine ⟨fun q hq v hv => ?_, fun q hq hv => ?_, fun q hq => h.rest q (by omega)⟩
  · by_cases e : q = i
    · subst e; exact absurd hv (hn v)
    · exact h.tells q (by omega) v hv
  · by_cases e : q = i
    · subst e; exact h.rest q (Nat.le_refl _)
    · exact h.none q (by omega) hv
theorem HoldsR.put {l : List Ins} {i : Nat} {H : Nat → Int} {v : Int} (h : HoldsR l i H) (hv : Hold l i v) : HoldsR l (i + 1) (fun j => if j = i then v else H j) := by
  refine ⟨fun q hq u hu => ?_, fun q hq hu => ?_, fun q hq => ?_⟩
  · by_cases e : q = i
    · subst e; simp only [if_pos]; exact hv.det hu
    · simp only [if_neg e]; exact h.tells q (by omega) u hu
  · by_cases e : q = i
    · subst e; exact absurd hv (hu v)
    · simp only [if_neg e]; exact h.none q (by omega) hu
  · have e : q ≠ i := by omega
    simp only [if_neg e]; exact h.rest q (by omega)
set_option maxRecDepth 100000 in
set_option maxHeartbeats 4000000 in
theorem rholds_any {A : Option Addr} {n c : Nat} {l : List Ins} {w : World} {locks : Int} (hl : SliceOf repIns w w.heap.size A n c l) (hk : locks ≤ 8) (hc : ∀ x ∈ l, check x l.length locks = 0) (hn : n ≤ 256) (hfine : ∀ s, ValidP.Reach l s → wrongS l s = 0) :
    Calls Try.prog 17 #[.slice A n c] w fun e w' => New w w' ∧ ∃ gh H, e = .returned (.slice (some ⟨gh, 0, none⟩) l.length l.length) ∧ IntsAt w' gh l.length H ∧ HoldsR l l.length H := by
  have hln := hl.len
  have hbd := hl.bound
  have hl256 : l.length ≤ 256 := by omega
  have hall := all_any hl hk hc hn
  have HUN := Lib.hid (fun (W : World) (hW : New w W) br gl go K hK a b c1 c2 c3 => @units_any A n c l W locks br gl go K ((hl.kept hW (Nat.le_refl _) (fun _ _ h => h)).more hW.size) hk hc hn hK a b c1 c2 c3 hfine 65792)
  have HIN := Lib.hid (fun W (hW : New w W) (hn : 0 < n) => ins_at (hl.kept hW (Nat.le_refl _) (fun _ _ h => h)) hn)
  have HAB := Lib.hid (fun s v h1 h2 => Answer.bound hk hc hl256 (s := s) (v := v) h1 h2)
  have HSMA := Lib.hid (fun s (h : ValidP.Reach l s) => h.small hk hc)
  have HNB := Lib.hid (fun x hx => number_bounds (hc x hx))
  have HST := Lib.hid (fun p h hp hh W => stand_any (p := p) (h := h) hp hh W)
  obtain ⟨K, hK⟩ : ∃ K, 256 * (l.length + 1) = K := ⟨_, rfl⟩
  have hK9 : K ≤ 65792 := by omega
  unfold AllD at hall
  rw [hK] at hall
  have hmi := fun W => run_make_one (P := Try.prog) (t := 45) Try.underlying45 info_int rfl K (by omega) (by omega) W
  have hmb := fun W => run_make_one (P := Try.prog) (t := 34) Try.underlying34 info_bool rfl K (by omega) (by omega) W
  have hmn := fun W => run_make_one (P := Try.prog) (t := 45) Try.underlying45 info_int rfl n (by omega) (by omega) W
  have HL := Lib.hid hl
  have HC := Lib.hid hc
  have HLN := Lib.hid hln
  have HFINE := Lib.hid hfine
  have HALL := Lib.hid hall
  have HK := Lib.hid hK
  clear hl hc hln hfine hall hK
  go_enter Try.func17, Try.ntmps17
  go_wp2_with fail
  refine HALL.out.mono ?_
  rintro e w1 ⟨hw1, gm, M, rfl, hgm, hmet, htl, -⟩
  have HW1 := Lib.hid hw1
  have HGM := Lib.hid hgm
  have HMET := Lib.hid hmet
  have HTL := Lib.hid htl
  clear hw1 hgm hmet htl
  go_upto_region 2 with (fail)
  go_cut [4] (fun z wx => RowsI l A n c K w1 z wx)
  case first =>
    go_region
    all_goals
      go_wp2_with fail
      go_meet
      case rel =>
        first
          | exact RowsI.one ((Kept.refl _ _).drew) rfl
          | exact RowsI.two ((Kept.refl _ _).drew) rfl
  case rest =>
    obtain ⟨br, gl, go, rfl, hbr, hgl, hgo, hd1, hd2, hd3, hnc, hU⟩ := hcut
    have hw2 := HW1.out.trans hnc
    have hmet2 := HMET.out.kept hnc id
    have hgml := HMET.out.lt
    have hnk := run_make_one (P := Try.prog) (t := 45) Try.underlying45 info_int rfl n (by omega) (by omega) wc
    have hms : IntsAt (wc.alloc (.cells (Array.replicate n (Value.int .i64 0)) 3)) wc.heap.size n (fun _ => 0) := IntsAt.made wc n
    have hal : New wc (wc.alloc (.cells (Array.replicate n (Value.int .i64 0)) 3)) := (Kept.refl _ _).alloc _
    have hU3 := hU.new hal
    have hmet3 := hmet2.kept hal id
    have hw3 := hw2.trans hal
    have hbrl := hU.rows.lt
    have hgll := hU.long.lt
    have hgol := hU.on.lt
    have hsz : w1.heap.size ≤ wc.heap.size := hnc.size
    clear hmi hmb hmn
    have HNC := Lib.hid hnc
    have HU := Lib.hid hU
    have HW2 := Lib.hid hw2
    have HMET2 := Lib.hid hmet2
    have HMS := Lib.hid hms
    have HAL := Lib.hid hal
    have HU3 := Lib.hid hU3
    have HMET3 := Lib.hid hmet3
    have HW3 := Lib.hid hw3
    clear hnc hU hw2 hmet2 hms hal hU3 hmet3 hw3
    go_upto_region 4 with (fail)
    generalize wc.alloc (.cells (Array.replicate n (Value.int .i64 0)) 3) = w3 at *
    obtain ⟨gh, hgh⟩ : ∃ gh, gh = wc.heap.size := ⟨_, rfl⟩
    have hms := HMS.out
    rw [← hgh] at hms ⊢
    have hghl : gl < gh ∧ go < gh ∧ br < gh ∧ gm < gh ∧ w1.heap.size ≤ gh ∧ gm < w1.heap.size := by omega
    have HMS2 := Lib.hid hms
    have HGHL := Lib.hid hghl
    clear hms hghl
    clear hnk hgh HMS
    go_wp2_with fail
    have hn13 : New w1 w3 := HNC.out.trans HAL.out
    have HN13 := Lib.hid hn13
    clear hn13
    go_loopw [6] (fun s wr => ∃ (i : Nat) (LG : Nat → Int) (ON : Nat → Bool) (U : List Stand) (H : Nat → Int), i ≤ n ∧ s = .int .i64 i ∧ New w1 wr ∧ UnI l #[.slice A n c, .slice (some ⟨gl, 0, none⟩) K K, .slice (some ⟨go, 0, none⟩) K K] br gl go K LG ON U [] wr ∧ IntsAt wr gh n H ∧ HoldsR l i H) (fun s _ => (n - intOf s).toNat)
    case atStart => exact ⟨0, _, _, _, _, Nat.zero_le _, rfl, HN13.out, HU3.out, HMS2.out, ⟨fun q hq => absurd hq (Nat.not_lt_zero _), fun q hq => absurd hq (Nat.not_lt_zero _), fun q _ => rfl⟩⟩
    case round =>
      obtain ⟨i, LG, ON, U, H, hi, rfl, hnr, hUr, hHr, hHo⟩ := hrel
      by_cases hlt : i < n
      · have hil : i < l.length := by have := HLN.out; omega
        have hnr0 := HW1.out.trans hnr
        obtain ⟨b, o, rfl, hb, hcs⟩ := HIN.out wr hnr0 (by omega)
        obtain ⟨c0, c1, c2, c3, c4⟩ := hcs i hil
        have hnb := HNB.out _ (List.getElem_mem hil)
        have hxg : l[i]? = some l[i] := List.getElem?_eq_getElem hil
        generalize l[i] = x at *
        obtain ⟨op, xa, xb, xc, imm⟩ := x
        simp only at c0 c1 c2 c3 c4 hnb
        have hsmi : Small l (i, 0) := ⟨by show i ≤ _; omega, by show 0 < 256; decide⟩
        have hst0 : Calls Try.prog 24 #[.int .i64 (i : Int), .int .i64 0] wr fun e w' => e = .returned (.int .i64 (codeS (i, 0) : Nat)) ∧ w' = wr := HST.out i 0 (by omega) (by decide) wr
        have hciK : codeS (i, 0) < K := by have := codeS_lt hsmi; rw [HK.out] at this; exact this
        have htl2 := HTL.out (i, 0) hsmi
        have hmr := HMET.out.kept hnr id
        have z0 := hmr.cell hciK
        obtain ⟨ci, hci⟩ : ∃ ci, codeS (i, 0) = ci := ⟨_, rfl⟩
        rw [hci] at hst0 hciK htl2 z0
        have hin : (i : Int) < (n : Int) := by omega
        clear hcs hb
        have HNB1 := Lib.hid hnb
        have HXG := Lib.hid hxg
        have HNR := Lib.hid hnr
        have HUR := Lib.hid hUr
        have HHR := Lib.hid hHr
        have HHO := Lib.hid hHo
        have HSMI := Lib.hid hsmi
        have HST0 := Lib.hid hst0
        have HMR := Lib.hid hmr
        have HCI := Lib.hid hci
        have HNR0 := Lib.hid hnr0
        clear hnb hxg hnr hUr hHr hHo hsmi hst0 hmr hci hnr0
        cases hMc : M ci with
        | false =>
          rw [hMc] at z0
          have hskip : ∀ v, ¬ Hold l i v := fun v ⟨x, h1, h2, h3, h4⟩ => by rw [htl2.2 h3] at hMc; cases hMc
          have hH5 := HHO.out.skip hskip
          have HSKIP := Lib.hid hskip
          have HH5 := Lib.hid hH5
          have HTL2 := Lib.hid htl2
          have HMC := Lib.hid hMc
          clear hskip hH5 htl2 hMc
          go_wp2_with fail
          refine HST0.out.mono ?_
          rintro e w5 ⟨rfl, rfl⟩
          go_wp2_with fail
          go_roundw
          case rel => exact ⟨i + 1, LG, ON, U, H, by omega, by go_num, HNR.out, HUR.out, HHR.out, HH5.out⟩
          case measure => simp [intOf]; omega
        | true =>
          rw [hMc] at z0
          have hre := htl2.1 hMc
          by_cases ho : op = 29
          · subst ho
            obtain ⟨him0, him8⟩ := HNB1.out.2 (.inl rfl)
            have pw : wrap64 (2 ^ imm.toNat) = ((2 ^ imm.toNat : Nat) : Int) := by rw [w64]; exact pow_i64 him0 (by omega)
            obtain ⟨hq, hhq⟩ : ∃ hq, hq = 2 ^ imm.toNat := ⟨_, rfl⟩
            rw [← hhq] at pw
            have hq8 : hq < 256 := by
              rw [hhq]
              exact Nat.pow_lt_pow_right (by decide) (show imm.toNat < 8 by omega)
            have hnx : (i + 1, hq) ∈ nexts l (i, 0) := by
              rw [nexts_at' HXG.out]
              simp only
              rw [if_neg (by decide), if_neg (by decide), if_neg (by decide), if_pos trivial, List.mem_singleton, hhq]
              unfold lockB
              rw [Nat.zero_or]
            have hre2 : ValidP.Reach l (i + 1, hq) := .next hre (HFINE.out _ hre) hnx
            have hst1 : Calls Try.prog 24 #[.int .i64 ((i : Int) + 1), .int .i64 (hq : Int)] wr fun e w' => e = .returned (.int .i64 (codeS (i + 1, hq) : Nat)) ∧ w' = wr := HST.out (i + 1) hq (by omega) hq8 wr
            have hun := HUN.out w1 HW1.out br gl go K HK.out.symm hgl hgo hd1 hd2 hd3 HNR.out HUR.out (by omega) (fun a ha => by cases ha) hre2
            have hhold : ∀ v, Answer l (i + 1, hq) v → Hold l i v := fun v hv => ⟨_, HXG.out, rfl, hre, by rw [hhq] at hv; exact hv⟩
            have sw : IntKind.i64.wrap ((i : Int) + 1) = (i : Int) + 1 := by rw [IntKind.wrap_i64]; omega
            have him9 : imm ≤ 7 := by omega
            have hsmq := HSMA.out _ hre2
            obtain ⟨cq, hcq⟩ : ∃ cq, codeS (i + 1, hq) = cq := ⟨_, rfl⟩
            rw [hcq] at hst1 hun
            have HRE := Lib.hid hre
            have HHQ := Lib.hid hhq
            have HNX := Lib.hid hnx
            have HRE2 := Lib.hid hre2
            have HST1 := Lib.hid hst1
            have HUNH := Lib.hid hun
            have HHOLD := Lib.hid hhold
            have HTL2 := Lib.hid htl2
            have HMC := Lib.hid hMc
            have HSMQ := Lib.hid hsmq
            have HCQ := Lib.hid hcq
            clear hre hhq hnx hre2 hst1 hun hhold htl2 hMc hsmq hcq
            go_wp2_with fail
            refine HST0.out.mono ?_
            rintro e w5 ⟨rfl, rfl⟩
            go_wp2_with fail
            refine HST1.out.mono ?_
            rintro e w5 ⟨rfl, rfl⟩
            go_wp2_with fail
            refine HUNH.out.mono ?_
            rintro e w7 ⟨v, LG2, ON2, U2, rfl, hans, hk7, hU7, -, -⟩
            have hg := HGHL.out
            have hH7 := HHR.out.kept hk7 (by omega)
            have y0 := hH7.cell hlt
            have yf := hH7.free i
            have hset := hH7.set hlt v
            have hn7 : New w1 w7 := HNR.out.step hk7 fun j hj e => by omega
            have hn8 : New w1 (w7.setCell ⟨gh, i, none⟩ (.int .i64 v)) := hn7.setCell (.inl hg.2.2.2.2.1) _
            have hk8 : Kept (fun j => j = gh) w7 (w7.setCell ⟨gh, i, none⟩ (.int .i64 v)) := Kept.set1 w7 gh i _
            have hU8 : UnI l #[.slice (some ⟨b, o, none⟩) n c, .slice (some ⟨gl, 0, none⟩) K K, .slice (some ⟨go, 0, none⟩) K K] br gl go K LG2 ON2 U2 [] (w7.setCell ⟨gh, i, none⟩ (.int .i64 v)) :=
              ⟨hU7.rows.kept hk8 (by omega), hU7.long.kept hk8 (by omega), hU7.on.kept hk8 (by omega), hU7.vals, hU7.dom, hU7.nod, hU7.small, hU7.memo⟩
            have hH8 := HHO.out.put (HHOLD.out v hans)
            have HANS := Lib.hid hans
            have HK7 := Lib.hid hk7
            have HU7 := Lib.hid hU7
            have HG := Lib.hid hg
            have HH7 := Lib.hid hH7
            have HSET := Lib.hid hset
            have HN7 := Lib.hid hn7
            have HN8 := Lib.hid hn8
            have HK8 := Lib.hid hk8
            have HU8 := Lib.hid hU8
            have HH8 := Lib.hid hH8
            clear hans hk7 hU7 hg hH7 hset hn7 hn8 hk8 hU8 hH8
            go_wp2_with fail
            go_roundw
            case rel => exact ⟨i + 1, LG2, ON2, U2, _, by omega, by go_num, HN8.out, HU8.out, HSET.out, HH8.out⟩
            case measure => simp [intOf]; omega
          · have ho2 : (op == 29) = false := by simpa using ho
            have hskip : ∀ v, ¬ Hold l i v := fun v ⟨x, h1, h2, h3, h4⟩ => by
              rw [HXG.out] at h1
              injection h1 with h1
              rw [← h1] at h2
              exact ho h2
            have hH5 := HHO.out.skip hskip
            have HSKIP := Lib.hid hskip
            have HH5 := Lib.hid hH5
            have HTL2 := Lib.hid htl2
            have HMC := Lib.hid hMc
            have HO := Lib.hid ho
            have HRE := Lib.hid hre
            clear hskip hH5 htl2 hMc ho hre
            go_wp2_with fail
            refine HST0.out.mono ?_
            rintro e w5 ⟨rfl, rfl⟩
            go_wp2_with fail
            go_roundw
            case rel => exact ⟨i + 1, LG, ON, U, H, by omega, by go_num, HNR.out, HUR.out, HHR.out, HH5.out⟩
            case measure => simp [intOf]; omega
      · obtain rfl : i = n := by omega
        have HNR := Lib.hid hnr
        have HUR := Lib.hid hUr
        have HHR := Lib.hid hHr
        have HHO := Lib.hid hHo
        clear hnr hUr hHr hHo
        go_wp2_with fail
        go_ret
        exact ⟨HW1.out.trans HNR.out, gh, H, by rw [← HLN.out]; rfl, by rw [← HLN.out]; exact HHR.out, by rw [← HLN.out]; exact HHO.out⟩
end Go.Proofs.Ytjhiaicpgajeoaa.Valid
