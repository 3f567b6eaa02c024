/- The walks of conf's reader (layer 14): marked, labels, table. -/
import Derived.Test.YtaefgljpdpigeaaConfT
import Derived.Test.YtaefgljpdpigeaaStepA
import Derived.Deep.RegionLaw
namespace Go.Proofs.Ytaefgljpdpigeaa.Conf
open Go.RowKit Go.Fb Go.CodeP Go.BytesP Go.ReaderP
set_option linter.unusedVariables false
/-- One reading behind another one. -/
theorem Run.bind {α β : Type} {D : Nat → Except (Int × Int) (β × Nat)} {D1 : Nat → Except (Int × Int) (α × Nat)} {D2 : α → Nat → Except (Int × Int) (β × Nat)} {s s1 s' : St} {a : α} {b : β} (h1 : Run D1 s s1 a) (h2 : Run (D2 a) s1 s' b)
    (he : ∀ p e, D1 p = .error e → D p = .error e) (ho : ∀ p a p', D1 p = .ok (a, p') → D p = D2 a p') : Run D s s' b := by
  cases s with
  | error e => simp only [Run] at h1 ⊢; subst h1; exact h2
  | ok p =>
    simp only [Run] at h1 ⊢
    cases hd : D1 p with
    | error e => rw [hd] at h1; rw [he p e hd]; simp only [Agr] at h1 ⊢; subst h1; exact h2
    | ok x =>
      obtain ⟨a', p'⟩ := x
      rw [hd] at h1
      rw [ho p a' p' hd]
      simp only [Agr] at h1
      obtain ⟨rfl, rfl⟩ := h1
      exact h2
/-- A mark that is read. -/
def MarkRun (b l : List UInt8) (s s' : St) : Prop :=
  match s with
  | .ok p => (match markD b l p with | .ok p' => s' = .ok p' | .error e => s' = .error e)
  | .error e => s' = .error e
theorem MarkRun.cons {b l : List UInt8} {c : UInt8} {s s1 s' : St} {v : Nat} (h1 : Run (numD b 1 (markF c.toNat)) s s1 v) (h2 : MarkRun b l s1 s') : MarkRun b (c :: l) s s' := by
  cases s with
  | error e => simp only [Run] at h1; subst h1; exact h2
  | ok p =>
    simp only [Run] at h1
    simp only [MarkRun, markD]
    change (match (match numD b 1 (markF c.toNat) p with | .error e => Except.error e | .ok (_, p') => markD b l p') with | .ok p' => s' = .ok p' | .error e => s' = .error e)
    cases hd : numD b 1 (markF c.toNat) p with
    | error e => rw [hd] at h1; simp only [Agr] at h1 ⊢; subst h1; exact h2
    | ok x =>
      obtain ⟨a', p'⟩ := x
      rw [hd] at h1
      simp only [Agr] at h1
      obtain ⟨rfl, rfl⟩ := h1
      exact h2
theorem MarkRun.nil {b : List UInt8} {s : St} : MarkRun b [] s s := by cases s <;> rfl
section
variable {w : World} {r : Nat} {A : Option Addr} {n c : Nat} {s : St} {B : Nat} {bs : List UInt8}
theorem marked_any (hr : RAt w r A n c s) (hb : SliceOf Rep.byte w B A n c bs) (hB : B ≤ r) :
    Calls Try.prog 29 #[.pointer (some ⟨r, 0, none⟩)] w fun x w' => x = .returned (.tuple #[]) ∧ ∃ s', RAt w' r A n c s' ∧ MarkRun bs markB s s' ∧ Kept (fun k => k = r) w w' := by
  have hrl := hr.lt
  have HR := Lib.hid hr
  have HB := Lib.hid hb
  clear hr hb
  go_enter Try.func29, Try.ntmps29
  go_wp2_with fail
  go_loopw [3] (fun i wr => ∃ (k : Nat) (s1 : St), k ≤ 5 ∧ i = .int .i64 k ∧ RAt wr r A n c s1 ∧ Hid (∀ s', MarkRun bs (markB.drop k) s1 s' → MarkRun bs markB s s') ∧ Kept (fun k => k = r) w wr) (fun i _ => (5 - intOf i).toNat)
  case atStart => exact ⟨0, s, by omega, rfl, HR.out, Lib.hid fun s' h => h, Kept.refl _ _⟩
  case round =>
    obtain ⟨k, s1, hk, rfl, hr1, hm, hkp⟩ := hrel
    by_cases hlt : k < 5
    · have hk1 : New wr (wr.alloc (.cells #[.int .i64 (k : Int)] 3)) := (Kept.refl _ _).alloc _
      have hbk := Blk.made wr 3 #[.int .i64 (k : Int)]
      have hrl1 := hr1.lt
      have hnum := number_any (s := s1) (m := 1) (hr1.kept hk1 id) ((HB.out.kept hkp (by omega) (fun i h1 h2 => by omega)).kept hk1 (by omega) fun _ _ h => h) (by decide) (by decide) (k := 57) (caps := #[.pointer (some ⟨wr.heap.size, 0, none⟩)]) (f := markF (markB.getD k 0).toNat)
        ⟨fun args W => enters Try.func57 rfl rfl args W, fun W v hW hv => marked1 hlt (by omega) ((hbk.kept hW (by omega)).cell 0)⟩
      have hmd : markB.drop k = markB.getD k 0 :: markB.drop (k + 1) := by
        rcases (by omega : k = 0 ∨ k = 1 ∨ k = 2 ∨ k = 3 ∨ k = 4) with rfl | rfl | rfl | rfl | rfl <;> rfl
      have HNUM := Lib.hid hnum
      have HK1 := Lib.hid hk1
      have HKP := Lib.hid hkp
      have HMD := Lib.hid hmd
      clear hnum hk1 hkp hmd
      clear hbk
      go_wp2_with (go_at_call 56; refine HNUM.out.mono ?_; rintro e w2 ⟨v, s2, rfl, hv, hr2, hrun, hk2⟩; have HR2 := Lib.hid hr2; have HRUN := Lib.hid hrun; have HK2 := Lib.hid hk2; clear hr2 hrun hk2)
      exact ⟨⟨k + 1, s2, by omega, by go_num, HR2.out, Lib.hid fun s' h => hm.out s' (by rw [HMD.out]; exact MarkRun.cons HRUN.out h), (HKP.out.trans (HK1.out.mono fun _ _ h => h.elim)).trans HK2.out⟩, by simp [intOf]; omega⟩
    · obtain rfl : k = 5 := by omega
      have hmm := hm.out s1 (by rw [show markB.drop 5 = [] from rfl]; exact MarkRun.nil)
      have HMM := Lib.hid hmm
      have HR1 := Lib.hid hr1
      have HKP := Lib.hid hkp
      clear hmm hr1 hkp
      go_wp2_with fail
      go_end0
      exact ⟨rfl, s1, HR1.out, HMM.out, HKP.out⟩
end
end Go.Proofs.Ytaefgljpdpigeaa.Conf
