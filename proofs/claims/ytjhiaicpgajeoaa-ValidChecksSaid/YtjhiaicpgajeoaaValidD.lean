/- The walks of package valid's Check and Longest (layer 8). -/
import Derived.Test.YtjhiaicpgajeoaaValidC
namespace Go.Proofs.Ytjhiaicpgajeoaa.Valid
open Go.RowKit Go.Fb Go.BytesP Go.CodeP Go.ValidP
open Go.Proofs.Ytjhiaicpgajeoaa.Code (repIns ins_at ins_wf)
set_option linter.unusedVariables false
theorem Hold.val {l : List Ins} {p : Nat} {v : Int} (h : Hold l p v) : v = -1 ∨ 0 ≤ v := by
  obtain ⟨x, -, -, -, h⟩ := h
  rcases h with ⟨h, -⟩ | ⟨h, -⟩
  · exact .inr h
  · exact .inl h
set_option maxHeartbeats 2000000 in
theorem check_any {A : Option Addr} {n c : Nat} {l : List Ins} {w : World} {locks hold : Int} (hl : SliceOf repIns w w.heap.size A n c l) (hwf : (Lit.int .i64 hold).wf = true) :
    Calls Try.prog 9 #[.slice A n c, .int .i64 locks, .int .i64 hold] w fun e w' => New w w' ∧ ∃ er at_, e = .returned (.tuple #[.int .i64 er, .int .i64 at_]) ∧ CheckR l locks hold er at_ := by
  have hlk := looked_any (locks := locks) hl
  have hln := hl.len
  have hbd := hl.bound
  by_cases h0 : hold < 0
  · have hd : decide (hold < 0) = true := by simpa using h0
    have hres : CheckR l locks hold 1 0 := by unfold CheckR; rw [if_pos (.inl h0)]; exact ⟨rfl, rfl⟩
    have HRES := Lib.hid hres
    have HL := Lib.hid hl
    have HLN := Lib.hid hln
    have HLK := Lib.hid hlk
    clear hres hl hln hlk
    go_enter Try.func9, Try.ntmps9
    go_wp2_with fail
    go_ret2
    exact ⟨Kept.refl _ _, 1, 0, rfl, HRES.out⟩
  by_cases h1 : 64 < hold
  · have hd : decide (hold < 0) = false := by simpa using h0
    have hd2 : decide (64 < hold) = true := by simpa using h1
    have hres : CheckR l locks hold 1 0 := by unfold CheckR; rw [if_pos (.inr h1)]; exact ⟨rfl, rfl⟩
    have HRES := Lib.hid hres
    have HL := Lib.hid hl
    have HLN := Lib.hid hln
    have HLK := Lib.hid hlk
    clear hres hl hln hlk
    go_enter Try.func9, Try.ntmps9
    go_wp2_with fail
    go_ret2
    exact ⟨Kept.refl _ _, 1, 0, rfl, HRES.out⟩
  have hd : decide (hold < 0) = false := by simpa using h0
  have hd2 : decide (64 < hold) = false := by simpa using h1
  have HL := Lib.hid hl
  have HLK := Lib.hid hlk
  have HLN := Lib.hid hln
  clear hl hlk hln
  go_enter Try.func9, Try.ntmps9
  go_wp2_with fail
  refine HLK.out.mono ?_
  rintro e w1 ⟨hw1, hc⟩
  rcases hc with ⟨hm, rfl⟩ | ⟨hm, b, p, hfi, hz, hc⟩
  · have hm2 : ((may l locks).1 != 0) = true := by simpa using hm
    have HW1 := Lib.hid hw1
    have HM := Lib.hid hm
    clear hw1 hm
    go_wp2_with fail
    go_ret2
    exact ⟨HW1.out, _, _, rfl, by unfold CheckR; rw [if_neg (by omega), if_pos HM.out]; exact ⟨rfl, rfl⟩⟩
  rcases hc with ⟨hb, rfl⟩ | ⟨rfl, bo, g, rfl, hH⟩
  · have hb2 : (b != 0) = true := by simpa using hb
    have HW1 := Lib.hid hw1
    have HM := Lib.hid hm
    have HFI := Lib.hid hfi
    have HZ := Lib.hid hz
    have HB := Lib.hid hb
    clear hw1 hm hfi hz hb
    go_wp2_with fail
    go_ret2
    exact ⟨HW1.out, _, _, rfl, by unfold CheckR; rw [if_neg (by omega), if_neg (by rw [HM.out]; decide)]; exact ⟨b, p, HFI.out, HZ.out, by rw [if_pos HB.out]; exact ⟨rfl, rfl⟩⟩⟩
  obtain rfl := hz rfl
  have HFIN := Lib.hid (fun er q (h : CheckH l hold er q) => (show CheckR l locks hold er (q : Nat) by unfold CheckR; rw [if_neg (by omega), if_neg (by rw [hm]; decide)]; exact ⟨0, 0, hfi, fun _ => rfl, by rw [if_neg (by decide)]; exact ⟨q, rfl, h⟩⟩))
  have h256 : n ≤ 256 := by have := (may_ok hm).2.2.1; have := HLN.out; omega
  have HW1 := Lib.hid hw1
  have HM := Lib.hid hm
  have HFI := Lib.hid hfi
  have HZ := Lib.hid hz
  have HH := Lib.hid hH
  clear hw1 hm hfi hz hH
  go_wp2_with fail
  go_loopw [33] (fun s wr => ∃ i : Nat, i ≤ n ∧ s = .int .i64 i ∧ wr = w1 ∧ Hid (∀ q, q < i → ¬ LongAt l hold q)) (fun s _ => (n - intOf s).toNat)
  case atStart => exact ⟨0, Nat.zero_le _, rfl, rfl, Lib.hid fun q hq => absurd hq (Nat.not_lt_zero _)⟩
  case round =>
    obtain ⟨i, hi, rfl, rfl, hno⟩ := hrel
    have HNO := hno
    clear hno
    by_cases hlt : i < n
    · have hil : i < l.length := by have := HLN.out; omega
      have hlook := HH.out.map.look2 (T := 41) Try.underlying41 Try.underlying3 Try.underlying3 (fun W => by kernel_rfl) (x := (i : Int)) (by simp [Lit.wf, IntKind.min, IntKind.max, IntKind.signed, IntKind.bits]; omega)
      cases hg : g (i : Int) with
      | none =>
        rw [hg] at hlook
        simp only [Option.getD_none, Option.isSome_none] at hlook
        have hnl : ¬ LongAt l hold i := fun ⟨v, h1, h2⟩ => by
          rw [(HH.out.tells i hil v).2 h1] at hg
          cases hg
        have HG := Lib.hid hg
        have HNL := Lib.hid hnl
        clear hg hnl
        go_wp2_with fail
        go_roundw
        case rel => exact ⟨i + 1, by omega, by go_num, trivial, Lib.hid fun q hq => by by_cases e : q = i; (subst e; exact HNL.out); exact HNO.out q (by omega)⟩
        case measure => simp [intOf]; omega
      | some v =>
        rw [hg] at hlook
        simp only [Option.getD_some, Option.isSome_some] at hlook
        have hhold := (HH.out.tells i hil v).1 hg
        have hval := Hold.val hhold
        by_cases hv : v = -1
        · subst hv
          have HG := Lib.hid hg
          have HHOLD := Lib.hid hhold
          have HVAL := Lib.hid hval
          clear hg hhold hval
          go_wp2_with fail
          go_ret2
          exact ⟨HW1.out, 15, _, rfl, HFIN.out 15 i (.inl ⟨rfl, hil, ⟨-1, HHOLD.out, .inl (by decide)⟩, HNO.out⟩)⟩
        · have hv2 : (v == -1) = false := by simpa using hv
          by_cases hgt : hold < v
          · have hgt2 : decide (hold < v) = true := by simpa using hgt
            have HG := Lib.hid hg
            have HHOLD := Lib.hid hhold
            have HVAL := Lib.hid hval
            have HV := Lib.hid hv
            clear hg hhold hval hv
            go_wp2_with fail
            go_ret2
            exact ⟨HW1.out, 15, _, rfl, HFIN.out 15 i (.inl ⟨rfl, hil, ⟨v, HHOLD.out, .inr hgt⟩, HNO.out⟩)⟩
          · have hgt2 : decide (hold < v) = false := by simpa using hgt
            have hnl : ¬ LongAt l hold i := fun ⟨u, h1, h2⟩ => by
              rw [h1.det hhold] at h2
              omega
            have HG := Lib.hid hg
            have HHOLD := Lib.hid hhold
            have HVAL := Lib.hid hval
            have HV := Lib.hid hv
            have HNL := Lib.hid hnl
            clear hg hhold hval hv hnl
            go_wp2_with fail
            go_roundw
            case rel => exact ⟨i + 1, by omega, by go_num, trivial, Lib.hid fun q hq => by by_cases e : q = i; (subst e; exact HNL.out); exact HNO.out q (by omega)⟩
            case measure => simp [intOf]; omega
    · obtain rfl : i = n := by omega
      go_wp2_with fail
      go_ret2
      exact ⟨HW1.out, 0, 0, rfl, HFIN.out 0 0 (.inr ⟨rfl, rfl, fun q hq => HNO.out q (by rw [HLN.out]; exact hq)⟩)⟩
set_option maxHeartbeats 2000000 in
theorem long_any {A : Option Addr} {n c : Nat} {l : List Ins} {w : World} {locks : Int} (hl : SliceOf repIns w w.heap.size A n c l) :
    Calls Try.prog 11 #[.slice A n c, .int .i64 locks] w fun e w' => New w w' ∧ ∃ m er at_, e = .returned (.tuple #[.int .i64 m, .int .i64 er, .int .i64 at_]) ∧ LongestR l locks m er at_ := by
  have hlk := looked_any (locks := locks) hl
  have hln := hl.len
  have hbd := hl.bound
  have HL := Lib.hid hl
  have HLK := Lib.hid hlk
  have HLN := Lib.hid hln
  clear hl hlk hln
  go_enter Try.func11, Try.ntmps11
  go_wp2_with fail
  refine HLK.out.mono ?_
  rintro e w1 ⟨hw1, hc⟩
  rcases hc with ⟨hm, rfl⟩ | ⟨hm, b, p, hfi, hz, hc⟩
  · have hm2 : ((may l locks).1 != 0) = true := by simpa using hm
    have HW1 := Lib.hid hw1
    have HM := Lib.hid hm
    clear hw1 hm
    go_wp2_with fail
    refine bodyPost_ret (results_tmp3 rfl _ _ _) rfl ?_
    exact ⟨HW1.out, _, _, _, rfl, by unfold LongestR; rw [if_pos HM.out]; exact ⟨rfl, rfl, rfl⟩⟩
  rcases hc with ⟨hb, rfl⟩ | ⟨rfl, bo, g, rfl, hH⟩
  · have hb2 : (b != 0) = true := by simpa using hb
    have HW1 := Lib.hid hw1
    have HM := Lib.hid hm
    have HFI := Lib.hid hfi
    have HZ := Lib.hid hz
    have HB := Lib.hid hb
    clear hw1 hm hfi hz hb
    go_wp2_with fail
    refine bodyPost_ret (results_tmp3 rfl _ _ _) rfl ?_
    exact ⟨HW1.out, _, _, _, rfl, by unfold LongestR; rw [if_neg (by rw [HM.out]; decide)]; exact ⟨b, p, HFI.out, HZ.out, by rw [if_pos HB.out]; exact ⟨rfl, rfl, rfl⟩⟩⟩
  obtain rfl := hz rfl
  have HFIN := Lib.hid (fun m er q (h : LongestH l m er q) => (show LongestR l locks m er (q : Nat) by unfold LongestR; rw [if_neg (by rw [hm]; decide)]; exact ⟨0, 0, hfi, fun _ => rfl, by rw [if_neg (by decide)]; exact ⟨q, rfl, h⟩⟩))
  have h256 : n ≤ 256 := by have := (may_ok hm).2.2.1; have := HLN.out; omega
  have HW1 := Lib.hid hw1
  have HM := Lib.hid hm
  have HFI := Lib.hid hfi
  have HZ := Lib.hid hz
  have HH := Lib.hid hH
  clear hw1 hm hfi hz hH
  go_wp2_with fail
  go_loopw [10, 27] (fun s10 s27 wr => ∃ (i : Nat) (m : Int), i ≤ n ∧ s27 = .int .i64 i ∧ s10 = .int .i64 m ∧ wr = w1 ∧ Hid (∀ q, q < i → ∀ v, Hold l q v → 0 ≤ v ∧ v ≤ m) ∧ 0 ≤ m ∧ Hid (m = 0 ∨ ∃ q, Hold l q m)) (fun _ s _ => (n - intOf s).toNat)
  case atStart => exact ⟨0, 0, Nat.zero_le _, rfl, rfl, rfl, Lib.hid fun q hq => absurd hq (Nat.not_lt_zero _), Int.le_refl _, Lib.hid (.inl rfl)⟩
  case round =>
    obtain ⟨i, m, hi, rfl, rfl, rfl, hno, hm0, hms⟩ := hrel
    have HNO := hno
    have HMS := hms
    clear hno hms
    by_cases hlt : i < n
    · have hil : i < l.length := by have := HLN.out; omega
      have hlook := HH.out.map.look2 (T := 41) Try.underlying41 Try.underlying3 Try.underlying3 (fun W => by kernel_rfl) (x := (i : Int)) (by simp [Lit.wf, IntKind.min, IntKind.max, IntKind.signed, IntKind.bits]; omega)
      cases hg : g (i : Int) with
      | none =>
        rw [hg] at hlook
        simp only [Option.getD_none, Option.isSome_none] at hlook
        have hnl : ∀ v, ¬ Hold l i v := fun v h1 => by
          rw [(HH.out.tells i hil v).2 h1] at hg
          cases hg
        have HG := Lib.hid hg
        have HNL := Lib.hid hnl
        clear hg hnl
        go_wp2_with fail
        go_roundw
        case rel => exact ⟨i + 1, m, by omega, by go_num, by rw [Int.max_eq_left hm0], trivial, Lib.hid fun q hq v hv => by by_cases e : q = i; (subst e; exact absurd hv (HNL.out v)); exact HNO.out q (by omega) v hv, hm0, HMS⟩
        case measure => simp [intOf]; omega
      | some v =>
        rw [hg] at hlook
        simp only [Option.getD_some, Option.isSome_some] at hlook
        have hhold := (HH.out.tells i hil v).1 hg
        have hval := Hold.val hhold
        by_cases hv : v = -1
        · subst hv
          have HG := Lib.hid hg
          have HHOLD := Lib.hid hhold
          have HVAL := Lib.hid hval
          clear hg hhold hval
          go_wp2_with fail
          refine bodyPost_ret (results_tmp3 rfl _ _ _) rfl ?_
          exact ⟨HW1.out, 0, 15, _, rfl, HFIN.out 0 15 i (.inl ⟨rfl, rfl, hil, ⟨-1, HHOLD.out, by decide⟩, fun q hq ⟨u, h1, h2⟩ => by have := HNO.out q hq u h1; omega⟩)⟩
        · have hv2 : (v == -1) = false := by simpa using hv
          have hv0 : 0 ≤ v := by omega
          have hmx : max m v = m ∨ max m v = v := by omega
          have hmy : m ≤ max m v ∧ v ≤ max m v := by omega
          have HG := Lib.hid hg
          have HHOLD := Lib.hid hhold
          have HVAL := Lib.hid hval
          have HV := Lib.hid hv
          have HMX := Lib.hid hmx
          have HMY := Lib.hid hmy
          clear hg hhold hval hv hmx hmy
          go_wp2_with fail
          go_roundw
          case rel =>
            refine ⟨i + 1, max m v, by omega, by go_num, rfl, trivial, Lib.hid fun q hq u hu => ?_, by have := HMY.out; omega, Lib.hid ?_⟩
            · by_cases e : q = i
              · subst e
                rw [hu.det HHOLD.out]
                exact ⟨hv0, HMY.out.2⟩
              · have := HNO.out q (by omega) u hu
                have := HMY.out.1
                omega
            · rcases HMX.out with e | e
              · rw [e]; exact HMS.out
              · rw [e]; exact .inr ⟨i, HHOLD.out⟩
          case measure => simp [intOf]; omega
    · obtain rfl : i = n := by omega
      go_wp2_with fail
      refine bodyPost_ret (results_tmp3 rfl _ _ _) rfl ?_
      refine ⟨HW1.out, m, 0, 0, rfl, HFIN.out m 0 0 (.inr ⟨rfl, rfl, fun q hq ⟨v, h1, h2⟩ => ?_, hm0, fun q v hv => ?_, HMS.out⟩)⟩
      · have := HNO.out q (by rw [HLN.out]; exact hq) v h1
        omega
      · have hq : q < l.length := by obtain ⟨x, h1, -⟩ := hv; exact (List.getElem?_eq_some_iff.1 h1).1
        exact (HNO.out q (by rw [HLN.out]; exact hq) v hv).2
end Go.Proofs.Ytjhiaicpgajeoaa.Valid
