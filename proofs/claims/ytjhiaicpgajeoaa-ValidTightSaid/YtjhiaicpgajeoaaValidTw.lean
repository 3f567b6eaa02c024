/- The walk of ValidTight (layer 8). -/
import Derived.Test.YtjhiaicpgajeoaaValidN
import Derived.Test.YtjhiaicpgajeoaaValidX
namespace Go.Proofs.Ytjhiaicpgajeoaa.Valid
open Go.RowKit Go.Fb Go.BytesP Go.CodeP Go.ValidP
open Go.Proofs.Ytjhiaicpgajeoaa.Code (repIns ins_at ins_wf cellsI Wf)
set_option linter.unusedVariables false
set_option maxHeartbeats 4000000 in
set_option maxRecDepth 100000 in
theorem tight_walk {A : Option Addr} {n c : Nat} {l : List Ins} {w : World} {locks : Int} (hl : SliceOf repIns w w.heap.size A n c l) :
    Calls Try.prog 6 #[.slice A n c, .int .i64 locks] w fun e w' => e = .returned (.bool true) ∧ New w w' := by
  have HLO := Lib.hid (long_any (locks := locks) hl)
  have HMA := Lib.hid (fun W (hW : New w W) => Code.may_any A n c l locks W ((hl.kept hW (Nat.le_refl _) (fun _ _ h => h)).more hW.size))
  have HCH := Lib.hid (fun W (hW : New w W) hold hwf => check_any (w := W) (locks := locks) (hold := hold) ((hl.kept hW (Nat.le_refl _) (fun _ _ h => h)).more hW.size) hwf)
  have HFX := Lib.hid (fun W => fixed_any W)
  have HIN := Lib.hid (fun W (hW : New w W) (hn : 0 < n) => ins_at (hl.kept hW (Nat.le_refl _) (fun _ _ h => h)) hn)
  have hln := hl.len
  have hbd := hl.bound
  have HL := Lib.hid hl
  have HLN := Lib.hid hln
  clear hl hln
  go_enter Try.func6, Try.ntmps6
  go_wp2_with fail
  refine HLO.out.mono ?_
  rintro e w1 ⟨hw1, m, er, at_, rfl, hr⟩
  have HW1 := Lib.hid hw1
  have HR := Lib.hid hr
  clear hw1 hr
  go_wp2_with fail
  refine (HMA.out w1 HW1.out).mono ?_
  rintro e w2 ⟨rfl, hw2⟩
  have hw2' := HW1.out.trans hw2
  by_cases h0 : (may l locks).1 ≠ 0
  · have h02 : ((may l locks).1 != 0) = true := by simpa using h0
    obtain ⟨rfl, rfl⟩ := long_may h0 HR.out
    have hfx := HFX.out w2
    have HW2' := Lib.hid hw2'
    have HW2 := Lib.hid hw2
    have H0 := Lib.hid h0
    have HFX1 := Lib.hid hfx
    clear hw2' hw2 h0 hfx
    go_wp2_with fail
    refine HFX1.out.mono ?_
    rintro e w3 ⟨rfl, hw3⟩
    have HW3 := Lib.hid hw3
    clear hw3
    go_wp2_with fail
    go_ret
    exact ⟨rfl, HW2'.out.trans HW3.out⟩
  have h00 : (may l locks).1 = 0 := by omega
  have hm := may_zero h00
  rw [hm]
  clear h00 h0
  by_cases he : er = 0
  · subst he
    obtain ⟨rfl, m0, m9, hck, hsome⟩ := tight_good hm HR.out
    have hn256 : n ≤ 256 := by have := (may_ok hm).2.2.1; have := HLN.out; omega
    have hd1 : decide (m < 0) = false := by simp; omega
    obtain ⟨lo, hlo⟩ : ∃ lo, max 0 (m - 2) = lo := ⟨_, rfl⟩
    obtain ⟨up, hup⟩ : ∃ up, min (m + 2) 64 = up := ⟨_, rfl⟩
    have hl0 : 0 ≤ lo := by omega
    have hl9 : lo ≤ 65790 := by omega
    have hu9 : up ≤ 64 := by omega
    have HW2' := Lib.hid hw2'
    have HW2 := Lib.hid hw2
    have HCK := Lib.hid hck
    have HSOME := Lib.hid hsome
    have HM := Lib.hid hm
    clear hw2' hw2 hck hsome hm
    go_wp2_with fail
    go_loopw [12] (fun s wr => ∃ h : Int, s = .int .i64 h ∧ lo ≤ h ∧ h ≤ 65792 ∧ New w wr) (fun s _ => (65 - intOf s).toNat)
    case atStart => exact ⟨lo, rfl, by omega, by omega, HW2'.out⟩
    case round =>
      obtain ⟨h, rfl, hh0, hh9, hnr⟩ := hrel
      by_cases hlt : h ≤ up
      · have hdl : decide (h ≤ up) = true := by simpa using hlt
        have hch := HCH.out wr hnr h (by simp [Lit.wf, IntKind.min, IntKind.max, IntKind.signed, IntKind.bits]; omega)
        have hh00 : 0 ≤ h := by omega
        have hh64 : h ≤ 64 := by omega
        have hh65 : IntKind.i64.wrap (h + 1) = h + 1 := by rw [IntKind.wrap_i64]; omega
        have hck2 := fun f tt h1 => HCK.out h (by omega) (by omega) f tt h1
        have HNR := Lib.hid hnr
        have HCH1 := Lib.hid hch
        have HCK2 := Lib.hid hck2
        clear hnr hch hck2
        go_wp2_with fail
        refine HCH1.out.mono ?_
        rintro e w3 ⟨hw3, f, a', rfl, hcr⟩
        obtain ⟨h1, h2⟩ := HCK2.out f a' hcr
        clear hcr
        by_cases hmh : m ≤ h
        · obtain rfl := h1.2 hmh
          have hdm : decide (m ≤ h) = true := by simpa using hmh
          clear h1 h2
          have HW3 := Lib.hid hw3
          clear hw3
          go_wp2_with fail
          go_roundw
          case rel => exact ⟨h + 1, by go_num, by omega, by omega, HNR.out.trans HW3.out⟩
          case measure => simp [intOf]; omega
        · have hdm : decide (m ≤ h) = false := by simpa using hmh
          have hf0 : f ≠ 0 := fun e => hmh (h1.1 e)
          obtain ⟨rfl, k, x, rfl, hk, hx, hop⟩ := h2 hf0
          obtain ⟨b, o, rfl, hb, hcs⟩ := HIN.out w3 (HNR.out.trans hw3) (by have := HLN.out; omega)
          obtain ⟨c0, -, -, -, -⟩ := hcs k hk
          have hxx : l[k] = x := by rw [List.getElem?_eq_getElem hk] at hx; injection hx
          rw [hxx, hop] at c0
          have hkn : k < n := by have := HLN.out; omega
          clear h1 h2 hcs hx hxx hop
          have HW3 := Lib.hid hw3
          have HF0 := Lib.hid hf0
          clear hw3 hf0
          go_wp2_with fail
          go_roundw
          case rel => exact ⟨h + 1, by go_num, by omega, by omega, HNR.out.trans HW3.out⟩
          case measure => simp [intOf]; omega
      · have hdl : decide (h ≤ up) = false := by simpa using hlt
        have HNR := Lib.hid hnr
        clear hnr
        go_wp2_with fail
        go_loopw [15, 16] (fun s15 s16 wr2 => ∃ (i : Nat) (sm : Bool), i ≤ n ∧ s16 = .int .i64 i ∧ s15 = .bool sm ∧ wr2 = wr ∧ Hid (∀ q x, q < i → l[q]? = some x → x.op = 29 → sm = true)) (fun _ s _ => (n - intOf s).toNat)
        case atStart => exact ⟨0, false, Nat.zero_le _, rfl, rfl, rfl, Lib.hid fun q x hq => absurd hq (Nat.not_lt_zero _)⟩
        case round =>
          obtain ⟨i, sm, hi, rfl, rfl, rfl, hsm⟩ := hrel
          have HSM := hsm
          clear hsm
          by_cases hlt2 : i < n
          · cases sm with
            | true =>
              go_wp2_with fail
              go_roundw
              case rel => exact ⟨i + 1, true, by omega, by go_num, rfl, trivial, Lib.hid fun q x _ _ _ => rfl⟩
              case measure => simp [intOf]; omega
            | false =>
              obtain ⟨b, o, rfl, hb, hcs⟩ := HIN.out _ HNR.out (by omega)
              have hil : i < l.length := by have := HLN.out; omega
              obtain ⟨c0, -, -, -, -⟩ := hcs i hil
              have hxx : l[i]? = some l[i] := List.getElem?_eq_getElem hil
              generalize l[i] = x at *
              obtain ⟨op, xa, xb, xc, imm⟩ := x
              simp only at c0
              clear hcs
              by_cases hop : op = 29
              · subst hop
                have HXX := Lib.hid hxx
                clear hxx
                go_wp2_with fail
                go_roundw
                case rel => exact ⟨i + 1, true, by omega, by go_num, rfl, trivial, Lib.hid fun q x _ _ _ => rfl⟩
                case measure => simp [intOf]; omega
              · have hop2 : (op == 29) = false := by simpa using hop
                have HXX := Lib.hid hxx
                have HOP := Lib.hid hop
                clear hxx hop
                go_wp2_with fail
                go_roundw
                case rel =>
                  refine ⟨i + 1, false, by omega, by go_num, rfl, trivial, Lib.hid fun q x hq h1 h2 => ?_⟩
                  by_cases e : q = i
                  · subst e
                    rw [HXX.out] at h1
                    injection h1 with h1
                    rw [← h1] at h2
                    exact absurd h2 HOP.out
                  · exact HSM.out q x (by omega) h1 h2
                case measure => simp [intOf]; omega
          · obtain rfl : i = n := by omega
            have hfx := HFX.out wr
            have hmm : m = 0 ∨ sm = true := by
              rcases HSOME.out with h | ⟨p, x, h1, h2⟩
              · exact .inl h
              · exact .inr (HSM.out p x (by rw [HLN.out]; exact (List.getElem?_eq_some_iff.1 h1).1) h1 h2)
            have HFX1 := Lib.hid hfx
            clear hfx
            cases sm with
            | true =>
              clear hmm
              go_wp2_with fail
              refine HFX1.out.mono ?_
              rintro e w4 ⟨rfl, hw4⟩
              have HW4 := Lib.hid hw4
              clear hw4
              go_wp2_with fail
              go_ret
              exact ⟨rfl, HNR.out.trans HW4.out⟩
            | false =>
              obtain rfl : m = 0 := by rcases hmm with h | h; exact h; cases h
              clear hmm
              go_wp2_with fail
              refine HFX1.out.mono ?_
              rintro e w4 ⟨rfl, hw4⟩
              have HW4 := Lib.hid hw4
              clear hw4
              go_wp2_with fail
              go_ret
              exact ⟨rfl, HNR.out.trans HW4.out⟩
  · have he2 : (er != 0) = true := by simpa using he
    have hck := fun e' a' h => tight_bad (e' := e') (a' := a') hm HR.out he h
    have hch := HCH.out w2 hw2' 64 (by decide)
    obtain ⟨rfl, ha0, hal⟩ := tight_place hm HR.out he
    rw [← HLN.out] at hal
    have hd1 : decide (at_ < 0) = false := by simp; omega
    have hd2 : decide ((n : Int) ≤ at_) = false := by simp; omega
    have HW2' := Lib.hid hw2'
    have HW2 := Lib.hid hw2
    have HCK := Lib.hid hck
    have HCH1 := Lib.hid hch
    have HM := Lib.hid hm
    clear hw2' hw2 hck hch hm
    go_wp2_with fail
    refine HCH1.out.mono ?_
    rintro e w3 ⟨hw3, e', a', rfl, hcr⟩
    obtain ⟨-, -, -, rfl, ha⟩ := HCK.out _ _ hcr
    have hfx := HFX.out w3
    clear hcr
    by_cases hat : a' = at_
    · subst hat
      have HW3 := Lib.hid hw3
      have HFX1 := Lib.hid hfx
      have HE := Lib.hid he
      clear hw3 hfx he
      clear ha
      go_wp2_with fail
      refine HFX1.out.mono ?_
      rintro e w4 ⟨rfl, hw4⟩
      have HW4 := Lib.hid hw4
      clear hw4
      go_wp2_with fail
      go_ret
      exact ⟨rfl, (HW2'.out.trans HW3.out).trans HW4.out⟩
    · obtain ⟨rfl, hle⟩ : e' = 15 ∧ a' ≤ at_ := by rcases ha with h | h; exact absurd h hat; exact h
      have hat2 : (a' == at_) = false := by simpa using hat
      have hle2 : decide (a' ≤ at_) = true := by simpa using hle
      have HW3 := Lib.hid hw3
      have HFX1 := Lib.hid hfx
      have HE := Lib.hid he
      have HAT := Lib.hid hat
      clear hw3 hfx he hat
      clear ha
      go_wp2_with fail
      refine HFX1.out.mono ?_
      rintro e w4 ⟨rfl, hw4⟩
      have HW4 := Lib.hid hw4
      clear hw4
      go_wp2_with fail
      go_ret
      exact ⟨rfl, (HW2'.out.trans HW3.out).trans HW4.out⟩
end Go.Proofs.Ytjhiaicpgajeoaa.Valid
