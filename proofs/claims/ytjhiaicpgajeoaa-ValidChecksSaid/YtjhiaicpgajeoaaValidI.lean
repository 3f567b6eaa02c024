/- The walk of the reference's first (layer 8). -/
import Derived.Test.YtjhiaicpgajeoaaValidG
import Derived.Test.YtjhiaicpgajeoaaValidX
namespace Go.Proofs.Ytjhiaicpgajeoaa.Valid
open Go.RowKit Go.Fb Go.BytesP Go.CodeP Go.ValidP
open Go.Proofs.Ytjhiaicpgajeoaa.Code (repIns ins_at ins_wf cellsI Wf)
set_option linter.unusedVariables false
set_option maxRecDepth 100000 in
set_option maxHeartbeats 4000000 in
theorem first_any {A : Option Addr} {n c gm : Nat} {l : List Ins} {M : Nat → Bool} {w : World} {locks : Int} (hl : SliceOf repIns w w.heap.size A n c l) (hk : locks ≤ 8) (hc : ∀ x ∈ l, check x l.length locks = 0) (hn : n ≤ 256)
    (hM : BoolsAt w gm (256 * (l.length + 1)) M) (ht : ∀ s, Small l s → (M (codeS s) = true ↔ ValidP.Reach l s)) :
    Calls Try.prog 22 #[.slice A n c, .slice (some ⟨gm, 0, none⟩) (256 * (l.length + 1)) (256 * (l.length + 1))] w fun e w' => New w w' ∧ ∃ (b : Int) (q : Nat), e = .returned (.tuple #[.int .i64 b, .int .i64 q]) ∧ First l b q ∧ (b = 0 → q = 0) := by
  have hln := hl.len
  have hbd := hl.bound
  rw [← hln] at hM ⊢
  have HIN := Lib.hid (fun W (hW : New w W) (hn : 0 < n) => ins_at (hl.kept hW (Nat.le_refl _) (fun _ _ h => h)) hn)
  have HMW := Lib.hid (fun W (hW : New w W) => hM.kept hW id)
  have HWR := Lib.hid (fun W x (hx : x ∈ l) h hh => rwrong_any (x := x) (h := h) (w := W) hh (fun e => by have := (number_bounds (hc x hx)).2 e; omega))
  have HRS := Lib.hid (fun s (h : ValidP.Reach l s) => h.small hk hc)
  obtain ⟨K, hK⟩ : ∃ K, 256 * (n + 1) = K := ⟨_, rfl⟩
  obtain ⟨K0, hK0⟩ : ∃ K0, 256 * n = K0 := ⟨_, rfl⟩
  have hKe : (256 : Int) * (n : Int) = (K0 : Int) := by omega
  have hK9 : K0 ≤ 65536 := by omega
  have hKK : K0 ≤ K := by omega
  have hKz : K ≤ 65792 := by omega
  rw [hK]
  have HL := Lib.hid hl
  have HC := Lib.hid hc
  have HLN := Lib.hid hln
  have HM := Lib.hid hM
  have HT := Lib.hid ht
  have HK := Lib.hid hK
  have HK0 := Lib.hid hK0
  clear hl hc hln hM ht hK hK0
  go_enter Try.func22, Try.ntmps22
  go_wp2_with fail
  go_loopw [6] (fun s wr => ∃ N : Nat, s = .int .i64 N ∧ N ≤ K0 ∧ New w wr ∧ Hid (∀ s, Small l s → codeS s < N → ValidP.Reach l s → wrongS l s = 0)) (fun s _ => (K0 - intOf s).toNat)
  case atStart => exact ⟨0, rfl, Nat.zero_le _, Kept.refl _ _, Lib.hid fun s _ h => absurd h (Nat.not_lt_zero _)⟩
  case round =>
    obtain ⟨N, rfl, hN, hnr, hno⟩ := hrel
    have HNO := hno
    clear hno
    by_cases hlt : N < K0
    · obtain ⟨p, hp⟩ : ∃ p, p = N / 256 := ⟨_, rfl⟩
      obtain ⟨h, hh⟩ : ∃ h, h = N % 256 := ⟨_, rfl⟩
      have hcode : codeS (p, h) = N := by unfold codeS; simp only; omega
      have hpn : p < n := by have := HK0.out; omega
      have hsm : Small l (p, h) := ⟨by have := HLN.out; show p ≤ _; omega, by show h < 256; omega⟩
      have q1 : Int.tdiv (N : Int) 256 = (p : Int) := by rw [Int.tdiv_eq_ediv_of_nonneg (by omega)]; omega
      have q2 : Int.tmod (N : Int) 256 = (h : Int) := by rw [Int.tmod_eq_emod_of_nonneg (by omega)]; omega
      have hh8 : h < 256 := by omega
      clear hp hh
      have hmt := HMW.out wr hnr
      rw [HK.out] at hmt
      have z0 := hmt.cell (j := N) (by omega)
      have htl := HT.out (p, h) hsm
      rw [hcode] at htl
      cases hMN : M N with
      | false =>
        rw [hMN] at z0
        have hnr2 : ¬ ValidP.Reach l (p, h) := fun e => by rw [htl.2 e] at hMN; cases hMN
        have HCODE := Lib.hid hcode
        have HSM := Lib.hid hsm
        have HMT := Lib.hid hmt
        have HTL := Lib.hid htl
        have HMN := Lib.hid hMN
        have HNR2 := Lib.hid hnr2
        have HNR := Lib.hid hnr
        clear hcode hsm hmt htl hMN hnr2 hnr
        go_wp2_with fail
        go_roundw
        case rel =>
          refine ⟨N + 1, by go_num, by omega, HNR.out, Lib.hid fun s hs hlt hr => ?_⟩
          by_cases e : codeS s = N
          · rw [codeS_inj hs HSM.out (e.trans HCODE.out.symm)] at hr
            exact absurd hr HNR2.out
          · exact HNO.out s hs (by omega) hr
        case measure => simp [intOf]; omega
      | true =>
        rw [hMN] at z0
        have hre := htl.1 hMN
        obtain ⟨b, o, rfl, hb, hcs⟩ := HIN.out wr hnr (by omega)
        have hpl : p < l.length := by have := HLN.out; omega
        obtain ⟨c0, c1, c2, c3, c4⟩ := hcs p hpl
        have hxx : l[p]? = some l[p] := List.getElem?_eq_getElem hpl
        have hwr := HWR.out wr l[p] (List.getElem_mem hpl) h hh8
        rw [← wrongI_at (h := h) hxx] at hwr
        generalize l[p] = x at *
        obtain ⟨op, xa, xb, xc, imm⟩ := x
        simp only at c0 c1 c2 c3 c4 hwr
        have hplt : (p : Int) < (n : Int) := by omega
        clear hcs hb
        have HCODE := Lib.hid hcode
        have HSM := Lib.hid hsm
        have HMT := Lib.hid hmt
        have HTL := Lib.hid htl
        have HMN := Lib.hid hMN
        have HNR := Lib.hid hnr
        have HRE := Lib.hid hre
        have HXX := Lib.hid hxx
        have HWR1 := Lib.hid hwr
        clear hcode hsm hmt htl hMN hnr hre hxx hwr
        go_wp2_with fail
        refine HWR1.out.mono ?_
        rintro e w2 ⟨rfl, hw2⟩
        by_cases hw0 : wrongS l (p, h) = 0
        · have hw02 : (wrongS l (p, h) != 0) = false := by simpa using hw0
          have HW2 := Lib.hid hw2
          have HW0 := Lib.hid hw0
          clear hw2 hw0
          go_wp2_with fail
          go_roundw
          case rel =>
            refine ⟨N + 1, by go_num, by omega, HNR.out.trans HW2.out, Lib.hid fun s hs hlt hr => ?_⟩
            by_cases e : codeS s = N
            · rw [codeS_inj hs HSM.out (e.trans HCODE.out.symm)]
              exact HW0.out
            · exact HNO.out s hs (by omega) hr
          case measure => simp [intOf]; omega
        · have hw02 : (wrongS l (p, h) != 0) = true := by simpa using hw0
          have HW2 := Lib.hid hw2
          have HW0 := Lib.hid hw0
          clear hw2 hw0
          go_wp2_with fail
          go_ret2
          refine ⟨HNR.out.trans HW2.out, _, p, rfl, ⟨fun e => absurd e HW0.out, fun _ => ⟨⟨(p, h), HRE.out, rfl, rfl⟩, fun s hs hw => ?_⟩⟩, fun e => absurd e HW0.out⟩
          by_cases e : p ≤ s.1
          · exact e
          · have hss := HRS.out s hs
            have h2 := hss.2
            have := HCODE.out
            exact absurd (HNO.out s hss (by unfold codeS at this ⊢; simp only at this; omega) hs) hw
    · obtain rfl : N = K0 := by omega
      have HNR := Lib.hid hnr
      clear hnr
      go_wp2_with fail
      go_ret2
      refine ⟨HNR.out, 0, 0, rfl, ⟨fun _ s hs => ?_, fun e => absurd rfl e⟩, fun _ => rfl⟩
      have hss := HRS.out s hs
      by_cases e : s.1 < l.length
      · have h2 := hss.2
        exact HNO.out s hss (by have := HK0.out; have := HLN.out; unfold codeS; omega) hs
      · by_cases hw : wrongS l s = 0
        · exact hw
        · exact absurd (wrong_place hw) e
end Go.Proofs.Ytjhiaicpgajeoaa.Valid
