/- The walks of the reference's looked, Check and Longest (layer 8). -/
import Derived.Test.YtjhiaicpgajeoaaValidK
namespace Go.Proofs.Ytjhiaicpgajeoaa.Valid
open Go.RowKit Go.Fb Go.BytesP Go.CodeP Go.ValidP
open Go.Proofs.Ytjhiaicpgajeoaa.Code (repIns ins_at ins_wf cellsI Wf)
set_option linter.unusedVariables false
def LookedR (l : List Ins) (locks : Int) (w : World) (e : Ending) (w' : World) : Prop := New w w' ∧
  (((may l locks).1 ≠ 0 ∧ e = .returned (.tuple #[.int .i64 (may l locks).1, .int .i64 (may l locks).2]))
  ∨ (may l locks = (0, 0) ∧ ∃ (b : Int) (p : Nat), First l b p ∧ (b = 0 → p = 0) ∧ e = .returned (.tuple #[.int .i64 b, .int .i64 p])))
set_option maxHeartbeats 2000000 in
theorem rlooked_any {A : Option Addr} {n c : Nat} {l : List Ins} {w : World} {locks : Int} (hl : SliceOf repIns w w.heap.size A n c l) :
    Calls Try.prog 16 #[.slice A n c, .int .i64 locks] w (LookedR l locks w) := by
  have hmay := Code.ref_may A n c l locks w hl
  have hln := hl.len
  by_cases h0 : (may l locks).1 = 0
  · have hm0 := may_zero h0
    rw [hm0] at hmay
    obtain ⟨k1, k2, k3, k4⟩ := may_ok hm0
    have HAL := Lib.hid (fun W (hW : New w W) => all_any (w := W) ((hl.kept hW (Nat.le_refl _) (fun _ _ h => h)).more hW.size) k2 k4 (by omega))
    have HFR := Lib.hid (fun W (hW : New w W) gm M h1 h2 => first_any (w := W) (gm := gm) (M := M) ((hl.kept hW (Nat.le_refl _) (fun _ _ h => h)).more hW.size) k2 k4 (by omega) h1 h2)
    have HMAY := Lib.hid hmay
    have HL := Lib.hid hl
    have HLN := Lib.hid hln
    have HM0 := Lib.hid hm0
    have H0 := Lib.hid h0
    clear hmay hl hln hm0 h0
    clear k1 k2 k3 k4
    go_enter Try.func16, Try.ntmps16
    go_wp2_with fail
    refine HMAY.out.mono ?_
    rintro e w1 ⟨rfl, hw1⟩
    have HW1 := Lib.hid hw1
    clear hw1
    go_wp2_with fail
    refine (HAL.out w1 HW1.out).mono ?_
    rintro e w2 ⟨hw2, gm, M, rfl, hgm, hmt, htl, -⟩
    have hfr := HFR.out w2 (HW1.out.trans hw2) gm M hmt htl
    have HW2 := Lib.hid hw2
    have HGM := Lib.hid hgm
    have HMT := Lib.hid hmt
    have HTL := Lib.hid htl
    have HFRH := Lib.hid hfr
    clear hw2 hgm hmt htl hfr
    go_wp2_with fail
    refine HFRH.out.mono ?_
    rintro e w3 ⟨hw3, b, q, rfl, hfi, hz⟩
    have HW3 := Lib.hid hw3
    have HFI := Lib.hid hfi
    have HZ := Lib.hid hz
    clear hw3 hfi hz
    go_wp2_with fail
    go_ret2
    exact ⟨(HW1.out.trans HW2.out).trans HW3.out, .inr ⟨HM0.out, b, q, HFI.out, HZ.out, rfl⟩⟩
  · have h02 : ((may l locks).1 != 0) = true := by simpa using h0
    obtain ⟨m1, hm1⟩ : ∃ m, m = (may l locks).1 := ⟨_, rfl⟩
    obtain ⟨m2, hm2⟩ : ∃ m, m = (may l locks).2 := ⟨_, rfl⟩
    rw [← hm1, ← hm2] at hmay
    rw [← hm1] at h02
    have HM1 := Lib.hid hm1
    have HM2 := Lib.hid hm2
    have H0 := Lib.hid h0
    clear hm1 hm2 h0
    have HMAY := Lib.hid hmay
    have HL := Lib.hid hl
    have HLN := Lib.hid hln
    clear hmay hl hln
    go_enter Try.func16, Try.ntmps16
    go_wp2_with fail
    refine HMAY.out.mono ?_
    rintro e w1 ⟨rfl, hw1⟩
    have HW1 := Lib.hid hw1
    clear hw1
    go_wp2_with fail
    go_ret2
    exact ⟨HW1.out, .inl ⟨H0.out, by rw [← HM1.out, ← HM2.out]; rfl⟩⟩
theorem hold_or (l : List Ins) (p : Nat) : (∃ v, Hold l p v) ∨ ∀ v, ¬ Hold l p v := by
  by_cases h : ∃ v, Hold l p v
  · exact .inl h
  · exact .inr fun v hv => h ⟨v, hv⟩
theorem HoldsR.long {l : List Ins} {H : Nat → Int} {hold : Int} (h : HoldsR l l.length H) (h0 : 0 ≤ hold) {p : Nat} (hp : p < l.length) : LongAt l hold p ↔ (H p < 0 ∨ hold < H p) := by
  constructor
  · rintro ⟨v, h1, h2⟩
    rw [h.tells p hp v h1]; exact h2
  · intro h1
    rcases hold_or l p with ⟨v, hv⟩ | hn
    · exact ⟨v, hv, by rw [← h.tells p hp v hv]; exact h1⟩
    · rw [h.none p hp hn] at h1; omega
theorem HoldsR.endless {l : List Ins} {H : Nat → Int} (h : HoldsR l l.length H) {p : Nat} (hp : p < l.length) : EndlessAt l p ↔ H p < 0 := by
  constructor
  · rintro ⟨v, h1, h2⟩
    rw [h.tells p hp v h1]; exact h2
  · intro h1
    rcases hold_or l p with ⟨v, hv⟩ | hn
    · exact ⟨v, hv, by rw [← h.tells p hp v hv]; exact h1⟩
    · rw [h.none p hp hn] at h1; omega
set_option maxHeartbeats 2000000 in
theorem rcheck_any {A : Option Addr} {n c : Nat} {l : List Ins} {w : World} {locks hold : Int} (hl : SliceOf repIns w w.heap.size A n c l) :
    Calls Try.prog 10 #[.slice A n c, .int .i64 locks, .int .i64 hold] w fun e w' => New w w' ∧ ∃ er at_, e = .returned (.tuple #[.int .i64 er, .int .i64 at_]) ∧ CheckR l locks hold er at_ := by
  have hlk := rlooked_any (locks := locks) hl
  have hln := hl.len
  have hbd := hl.bound
  by_cases h0 : hold < 0
  · have hres : CheckR l locks hold 1 0 := by unfold CheckR; rw [if_pos (.inl h0)]; exact ⟨rfl, rfl⟩
    have HRES := Lib.hid hres
    have HL := Lib.hid hl
    have HLN := Lib.hid hln
    have HLK := Lib.hid hlk
    clear hres hl hln hlk
    go_enter Try.func10, Try.ntmps10
    go_wp2_with fail
    go_ret2
    exact ⟨Kept.refl _ _, 1, 0, rfl, HRES.out⟩
  by_cases h1 : 64 < hold
  · have hres : CheckR l locks hold 1 0 := by unfold CheckR; rw [if_pos (.inr h1)]; exact ⟨rfl, rfl⟩
    have HRES := Lib.hid hres
    have HL := Lib.hid hl
    have HLN := Lib.hid hln
    have HLK := Lib.hid hlk
    clear hres hl hln hlk
    go_enter Try.func10, Try.ntmps10
    go_wp2_with fail
    go_ret2
    exact ⟨Kept.refl _ _, 1, 0, rfl, HRES.out⟩
  have HRH := Lib.hid (fun W (hW : New w W) h1 h2 h3 h4 => rholds_any (w := W) (locks := locks) ((hl.kept hW (Nat.le_refl _) (fun _ _ h => h)).more hW.size) h1 h2 h3 h4)
  have HL := Lib.hid hl
  have HLK := Lib.hid hlk
  have HLN := Lib.hid hln
  clear hl hlk hln
  go_enter Try.func10, Try.ntmps10
  go_wp2_with fail
  refine HLK.out.mono ?_
  rintro e w1 ⟨hw1, hc⟩
  rcases hc with ⟨hm, rfl⟩ | ⟨hm, b, p, hfi, hz, rfl⟩
  · have hm2 : ((may l locks).1 != 0) = true := by simpa using hm
    have HW1 := Lib.hid hw1
    have HM := Lib.hid hm
    clear hw1 hm
    go_wp2_with fail
    go_ret2
    exact ⟨HW1.out, _, _, rfl, by unfold CheckR; rw [if_neg (by omega), if_pos HM.out]; exact ⟨rfl, rfl⟩⟩
  by_cases hb : b = 0
  · subst hb
    obtain rfl := hz rfl
    obtain ⟨k1, k2, k3, k4⟩ := may_ok hm
    have hn256 : n ≤ 256 := by rw [HLN.out]; exact k3
    have hrh := HRH.out w1 hw1 k2 k4 hn256 (hfi.1 rfl)
    have HFIN := Lib.hid (fun er q (h : CheckH l hold er q) => (show CheckR l locks hold er (q : Nat) by unfold CheckR; rw [if_neg (by omega), if_neg (by rw [hm]; decide)]; exact ⟨0, 0, hfi, fun _ => rfl, by rw [if_neg (by decide)]; exact ⟨q, rfl, h⟩⟩))
    clear k1 k2 k3 k4
    have HW1 := Lib.hid hw1
    have HM := Lib.hid hm
    have HFI := Lib.hid hfi
    have HZ := Lib.hid hz
    have HRHH := Lib.hid hrh
    clear hw1 hm hfi hz hrh
    go_wp2_with fail
    refine HRHH.out.mono ?_
    rintro e w2 ⟨hw2, gh, H, rfl, hH, hHo⟩
    have hlr : l.length = n := HLN.out.symm
    rw [hlr] at hH ⊢
    have HW2 := Lib.hid hw2
    have HH := Lib.hid hH
    have HHO := Lib.hid hHo
    have HLR := Lib.hid hlr
    clear hw2 hH hHo hlr
    go_wp2_with fail
    go_loopw [11] (fun s wr => ∃ i : Nat, i ≤ n ∧ s = .int .i64 i ∧ wr = w2 ∧ Hid (∀ q, q < i → ¬ LongAt l hold q)) (fun s _ => (n - intOf s).toNat)
    case atStart => exact ⟨0, Nat.zero_le _, rfl, rfl, Lib.hid fun q hq => absurd hq (Nat.not_lt_zero _)⟩
    case round =>
      obtain ⟨i, hi, rfl, rfl, hno⟩ := hrel
      have HNO := hno
      clear hno
      by_cases hlt : i < n
      · have hil : i < l.length := by have := HLN.out; omega
        have z0 := HH.out.cell hlt
        have hlg := HHO.out.long (hold := hold) (by omega) hil
        generalize H i = hv at *
        by_cases hneg : hv < 0
        · have hla := hlg.2 (.inl hneg)
          have HLG := Lib.hid hlg
          have HLA := Lib.hid hla
          clear hlg hla
          go_wp2_with fail
          go_ret2
          exact ⟨HW1.out.trans HW2.out, 15, _, rfl, HFIN.out 15 i (.inl ⟨rfl, hil, HLA.out, HNO.out⟩)⟩
        · by_cases hgt : hold < hv
          · have hla := hlg.2 (.inr hgt)
            have HLG := Lib.hid hlg
            have HLA := Lib.hid hla
            clear hlg hla
            go_wp2_with fail
            go_ret2
            exact ⟨HW1.out.trans HW2.out, 15, _, rfl, HFIN.out 15 i (.inl ⟨rfl, hil, HLA.out, HNO.out⟩)⟩
          · have hnl : ¬ LongAt l hold i := fun h => by rcases hlg.1 h with e | e; exact hneg e; exact hgt e
            have HLG := Lib.hid hlg
            have HNL := Lib.hid hnl
            clear hlg hnl
            go_wp2_with fail
            go_roundw
            case rel => exact ⟨i + 1, by omega, by go_num, trivial, Lib.hid fun q hq => by by_cases e : q = i; (subst e; exact HNL.out); exact HNO.out q (by omega)⟩
            case measure => simp [intOf]; omega
      · obtain rfl : i = n := by omega
        go_wp2_with fail
        go_ret2
        exact ⟨HW1.out.trans HW2.out, 0, 0, rfl, HFIN.out 0 0 (.inr ⟨rfl, rfl, fun q hq => HNO.out q (by rw [HLN.out]; exact hq)⟩)⟩
  · have hb2 : (b != 0) = true := by simpa using hb
    have HW1 := Lib.hid hw1
    have HM := Lib.hid hm
    have HFI := Lib.hid hfi
    have HZ := Lib.hid hz
    have HB := Lib.hid hb
    clear hw1 hm hfi hz hb
    go_wp2_with fail
    go_ret2
    exact ⟨HW1.out, _, _, rfl, by unfold CheckR; rw [if_neg (by omega), if_neg (by rw [HM.out]; decide)]; exact ⟨b, p, HFI.out, HZ.out, by rw [if_pos HB.out]; exact ⟨rfl, rfl⟩⟩⟩
set_option maxHeartbeats 2000000 in
theorem rlong_any {A : Option Addr} {n c : Nat} {l : List Ins} {w : World} {locks : Int} (hl : SliceOf repIns w w.heap.size A n c l) :
    Calls Try.prog 12 #[.slice A n c, .int .i64 locks] w fun e w' => New w w' ∧ ∃ m er at_, e = .returned (.tuple #[.int .i64 m, .int .i64 er, .int .i64 at_]) ∧ LongestR l locks m er at_ := by
  have hlk := rlooked_any (locks := locks) hl
  have hln := hl.len
  have hbd := hl.bound
  have HRH := Lib.hid (fun W (hW : New w W) h1 h2 h3 h4 => rholds_any (w := W) (locks := locks) ((hl.kept hW (Nat.le_refl _) (fun _ _ h => h)).more hW.size) h1 h2 h3 h4)
  have HL := Lib.hid hl
  have HLK := Lib.hid hlk
  have HLN := Lib.hid hln
  clear hl hlk hln
  go_enter Try.func12, Try.ntmps12
  go_wp2_with fail
  refine HLK.out.mono ?_
  rintro e w1 ⟨hw1, hc⟩
  rcases hc with ⟨hm, rfl⟩ | ⟨hm, b, p, hfi, hz, rfl⟩
  · have hm2 : ((may l locks).1 != 0) = true := by simpa using hm
    have HW1 := Lib.hid hw1
    have HM := Lib.hid hm
    clear hw1 hm
    go_wp2_with fail
    refine bodyPost_ret (results_tmp3 rfl _ _ _) rfl ?_
    exact ⟨HW1.out, _, _, _, rfl, by unfold LongestR; rw [if_pos HM.out]; exact ⟨rfl, rfl, rfl⟩⟩
  by_cases hb : b = 0
  · subst hb
    obtain rfl := hz rfl
    obtain ⟨k1, k2, k3, k4⟩ := may_ok hm
    have hn256 : n ≤ 256 := by rw [HLN.out]; exact k3
    have hrh := HRH.out w1 hw1 k2 k4 hn256 (hfi.1 rfl)
    have HFIN := Lib.hid (fun m er q (h : LongestH l m er q) => (show LongestR l locks m er (q : Nat) by unfold LongestR; rw [if_neg (by rw [hm]; decide)]; exact ⟨0, 0, hfi, fun _ => rfl, by rw [if_neg (by decide)]; exact ⟨q, rfl, h⟩⟩))
    clear k1 k2 k3 k4
    have HW1 := Lib.hid hw1
    have HM := Lib.hid hm
    have HFI := Lib.hid hfi
    have HZ := Lib.hid hz
    have HRHH := Lib.hid hrh
    clear hw1 hm hfi hz hrh
    go_wp2_with fail
    refine HRHH.out.mono ?_
    rintro e w2 ⟨hw2, gh, H, rfl, hH, hHo⟩
    have hlr : l.length = n := HLN.out.symm
    rw [hlr] at hH ⊢
    have HW2 := Lib.hid hw2
    have HH := Lib.hid hH
    have HHO := Lib.hid hHo
    have HLR := Lib.hid hlr
    clear hw2 hH hHo hlr
    go_wp2_with fail
    go_loopw [9, 11] (fun s9 s wr => ∃ (i : Nat) (m : Int), i ≤ n ∧ s = .int .i64 i ∧ s9 = .int .i64 m ∧ wr = w2 ∧ Hid (∀ q, q < i → ∀ v, Hold l q v → 0 ≤ v ∧ v ≤ m) ∧ 0 ≤ m ∧ Hid (m = 0 ∨ ∃ q, Hold l q m)) (fun _ s _ => (n - intOf s).toNat)
    case atStart => exact ⟨0, 0, Nat.zero_le _, rfl, rfl, rfl, Lib.hid fun q hq => absurd hq (Nat.not_lt_zero _), Int.le_refl _, Lib.hid (.inl rfl)⟩
    case round =>
      obtain ⟨i, m, hi, rfl, rfl, rfl, hno, hm0, hms⟩ := hrel
      have HNO := hno
      have HMS := hms
      clear hno hms
      by_cases hlt : i < n
      · have hil : i < l.length := by have := HLN.out; omega
        have z0 := HH.out.cell hlt
        have hen := HHO.out.endless hil
        have htell := fun v hv => HHO.out.tells i hil v hv
        have hor : (∃ v, Hold l i v ∧ H i = v) ∨ ((∀ v, ¬ Hold l i v) ∧ H i = 0) := by
          rcases hold_or l i with ⟨v, hv⟩ | hn
          · exact .inl ⟨v, hv, HHO.out.tells i hil v hv⟩
          · exact .inr ⟨hn, HHO.out.none i hil hn⟩
        generalize H i = hv at *
        by_cases hneg : hv < 0
        · have hla := hen.2 hneg
          have HEN := Lib.hid hen
          have HLA := Lib.hid hla
          have HTELL := Lib.hid htell
          have HOR := Lib.hid hor
          clear hen hla htell hor
          go_wp2_with fail
          refine bodyPost_ret (results_tmp3 rfl _ _ _) rfl ?_
          exact ⟨HW1.out.trans HW2.out, 0, 15, _, rfl, HFIN.out 0 15 i (.inl ⟨rfl, rfl, hil, HLA.out, fun q hq ⟨u, h1, h2⟩ => by have := HNO.out q hq u h1; omega⟩)⟩
        · have hmx : max m hv = m ∨ max m hv = hv := by omega
          have hmy : m ≤ max m hv ∧ hv ≤ max m hv := by omega
          have HEN := Lib.hid hen
          have HTELL := Lib.hid htell
          have HOR := Lib.hid hor
          have HMX := Lib.hid hmx
          have HMY := Lib.hid hmy
          clear hen htell hor hmx hmy
          go_wp2_with fail
          go_roundw
          case rel =>
            refine ⟨i + 1, max m hv, by omega, by go_num, rfl, trivial, Lib.hid fun q hq u hu => ?_, by have := HMY.out; omega, Lib.hid ?_⟩
            · by_cases e : q = i
              · subst e
                have := HTELL.out u hu
                have := HMY.out
                omega
              · have := HNO.out q (by omega) u hu
                have := HMY.out.1
                omega
            · rcases HMX.out with e | e
              · rw [e]; exact HMS.out
              · rw [e]
                rcases HOR.out with ⟨v, g1, g2⟩ | ⟨-, g2⟩
                · rw [g2]; exact .inr ⟨i, g1⟩
                · exact .inl g2
          case measure => simp [intOf]; omega
      · obtain rfl : i = n := by omega
        go_wp2_with fail
        refine bodyPost_ret (results_tmp3 rfl _ _ _) rfl ?_
        refine ⟨HW1.out.trans HW2.out, m, 0, 0, rfl, HFIN.out m 0 0 (.inr ⟨rfl, rfl, fun q hq ⟨v, h1, h2⟩ => ?_, hm0, fun q v hv => ?_, HMS.out⟩)⟩
        · have := HNO.out q (by rw [HLN.out]; exact hq) v h1
          omega
        · have hq : q < l.length := by obtain ⟨x, h1, -⟩ := hv; exact (List.getElem?_eq_some_iff.1 h1).1
          exact (HNO.out q (by rw [HLN.out]; exact hq) v hv).2
  · have hb2 : (b != 0) = true := by simpa using hb
    have HW1 := Lib.hid hw1
    have HM := Lib.hid hm
    have HFI := Lib.hid hfi
    have HZ := Lib.hid hz
    have HB := Lib.hid hb
    clear hw1 hm hfi hz hb
    go_wp2_with fail
    refine bodyPost_ret (results_tmp3 rfl _ _ _) rfl ?_
    exact ⟨HW1.out, _, _, _, rfl, by unfold LongestR; rw [if_neg (by rw [HM.out]; decide)]; exact ⟨b, p, HFI.out, HZ.out, by rw [if_pos HB.out]; exact ⟨rfl, rfl, rfl⟩⟩⟩
end Go.Proofs.Ytjhiaicpgajeoaa.Valid
