/- The walk of chapter 16's law ScriptReads. -/
import Derived.Test.YtgmibjhbneggeaaScriptK
namespace Go.Proofs.Ytgmibjhbneggeaa.Script
open Go.RowKit Go.Fb Go.BytesP Go.ScriptP Go.ReaderP
set_option linter.unusedVariables false

theorem ref_decode (A : Option Addr) (n c : Nat) (bs : List UInt8) (w : World) (hb : SliceOf Rep.byte w w.heap.size A n c bs) : Calls Try.prog 14 #[.slice A n c] w fun e w' => RDec w w' e (dec bs) := by
  by_cases h : 1048576 < bs.length
  · exact ref_decode_long A n c bs w hb h
  · exact ref_decode_walk A n c bs w hb (by omega)
set_option maxHeartbeats 1000000 in
theorem reads_walk (A : Option Addr) (n c : Nat) (bs : List UInt8) (w : World) (hb : SliceOf Rep.byte w w.heap.size A n c bs) :
    Calls Try.prog 5 #[.slice A n c] w fun e w' => e = .returned (.bool true) ∧ New w w' := by
  have HB := Lib.hid hb
  clear hb
  go_enter Try.func5, Try.ntmps5
  go_wp2_with (go_at_call 8; refine (awake_any _).mono ?_; rintro e w1 ⟨rfl, hw1⟩)
  have HW1 := Lib.hid hw1
  clear hw1
  refine (decode_any A n c bs w1 (news HB.out HW1.out)).mono ?_
  rintro e w2 hd
  cases hr : dec bs with
  | error x =>
    rw [hr] at hd
    obtain ⟨rfl, hw2⟩ := hd
    have HR := Lib.hid hr
    have HW2 := Lib.hid (HW1.out.trans hw2)
    clear hr hw2
    go_wp2_with fail
    refine (ref_decode A n c bs w2 (news HB.out HW2.out)).mono ?_
    rintro e w3 hd
    rw [HR.out] at hd
    obtain ⟨rfl, hw3⟩ := hd
    have HW3 := Lib.hid (HW2.out.trans hw3)
    clear hw3
    go_wp2_with (go_at_call 15; refine (same_new none none 0 0 0 0 0 0 [] _ (SliceOf.nil _ _ _) (SliceOf.nil _ _ _)).mono ?_; rintro e w4 ⟨rfl, hw4⟩)
    go_ret
    exact ⟨rfl, HW3.out.trans hw4⟩
  | ok l =>
    rw [hr] at hd
    obtain ⟨v, rfl, hv, hw2⟩ := hd
    obtain ⟨A2, n2, c2, rfl, hv2⟩ := hv.read (wf_dec hr)
    have HR := Lib.hid hr
    have HW2 := Lib.hid (HW1.out.trans hw2)
    have HV2 := Lib.hid hv2
    clear hr hw2 hv hv2
    go_wp2_with fail
    refine (ref_decode A n c bs w2 (news HB.out HW2.out)).mono ?_
    rintro e w3 hd
    rw [HR.out] at hd
    obtain ⟨r3, A3, c3, rfl, hr3, _, hwf3, hw3⟩ := hd
    have hv3 := hr3.slice (R := repStep) (by decide) rfl fun s hs => repStep_of (hwf3 s hs)
    have HW3 := Lib.hid (HW2.out.trans hw3)
    have HV3 := Lib.hid hv3
    have HV23 := Lib.hid (news HV2.out hw3)
    clear hw3 hv3
    go_wp2_with (go_at_call 15; refine (same_new _ _ _ _ _ _ _ _ l _ HV23.out HV3.out).mono ?_; rintro e w4 ⟨rfl, hw4⟩)
    go_ret
    exact ⟨rfl, HW3.out.trans hw4⟩
end Go.Proofs.Ytgmibjhbneggeaa.Script
