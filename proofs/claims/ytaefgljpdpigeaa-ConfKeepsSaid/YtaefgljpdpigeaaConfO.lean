/- The walk of conf's reader's number (layer 14): with what looks at it. -/
import Derived.Test.YtaefgljpdpigeaaConfN
namespace Go.Proofs.Ytaefgljpdpigeaa.Conf
open Go.RowKit Go.Fb Go.CodeP Go.BytesP Go.ReaderP
set_option linter.unusedVariables false
/-- A function with a body is entered. -/
theorem enters {P : Program} {f : FuncId} {fn : Func} {c : Code} (hf : P.funcs[f]? = some fn) (hname : (fn.name == "runtime.NumGoroutine") = false) (hb : fn.body = some c) (args : Array Value) (w : World) : (callFunc f args).run P w = .ok (.enter f args) w := by
  have h1 : fn.name ≠ "runtime.NumGoroutine" := by simpa using hname
  simp [callFunc, hf, h1, hb]
/-- What looks at a number: a function value that tells f, and leaves all as it is. -/
structure Looks (w : World) (r : Nat) (kind : IntKind) (top : Nat) (k : FuncId) (caps : Array Value) (f : Nat → Int) : Prop where
  enters : ∀ (args : Array Value) (W : World), (callFunc k args).run Try.prog W = .ok (.enter k args) W
  tells : ∀ (W : World) (v : Nat), Kept (fun k => k = r) w W → v < top → Calls Try.prog k (#[.int kind v] ++ caps) W fun e w' => e = .returned (.int .i64 (f v)) ∧ W = w'
theorem Looks.kept {w w' : World} {r : Nat} {kind : IntKind} {top : Nat} {k : FuncId} {caps : Array Value} {f : Nat → Int} (h : Looks w r kind top k caps f) (hk : Kept (fun k => k = r) w w') : Looks w' r kind top k caps f :=
  ⟨h.enters, fun W v hW hv => h.tells W v (hk.trans hW) hv⟩
/-- How the reader's cells lie behind a number that was looked at: n and what is wrong with it. -/
def Seen (w : World) (r : Nat) (A : Option Addr) (n c a p : Nat) (e : Int) : Prop := (e = 0 ∧ Rd w r A n c a 0 0) ∨ (e ≠ 0 ∧ Rd w r A n c a e p)
theorem drewN_two (w : World) (a b : Nat) : (w.drewN a).drewN b = w.drewN (a + b) := by
  unfold World.drewN
  simp [Nat.add_assoc]
theorem run_cut {P : Program} (T E s : Nat) (hT : P.underlying T = some (.slice E)) (hs : ∀ W, (sizeOf E).run P W = .ok s W) (b o n c p m : Nat) (hm : 0 < m) (h1 : p + m ≤ n) (h2 : n ≤ c) (W : World) :
    (Instr.slice T (.slice (some ⟨b, o, none⟩) n c) (some (.int .i64 (p : Int))) (some (.int .i64 ((p : Int) + (m : Int)))) none).run P W = .ok (.slice (some ⟨b, o + p * s, none⟩) m (c - p)) W := by
  have he : P.elem T = E := by simp [Program.elem, hT]
  have := run_slice_lh (P := P) W T (some ⟨b, o, none⟩) n c (by rw [he]; exact hT) .i64 .i64 (p : Int) ((p : Int) + (m : Int)) (by omega) (by omega) (by omega)
  have e1 : ((p : Int) + (m : Int)).toNat = p + m := by omega
  rw [this, he, hs]
  simp [Result.andThen, sliced, add_eq, e1]
  omega
section
variable {w : World} {r : Nat} {A : Option Addr} {n c : Nat}
set_option maxRecDepth 100000 in
set_option maxHeartbeats 1000000 in
theorem number_ok {m p B : Nat} {bs : List UInt8} {k : FuncId} {caps : Array Value} {f : Nat → Int} (hr : Rd w r A n c p 0 0) (hb : SliceOf Rep.byte w B A n c bs) (hm0 : 0 < m) (hm : m ≤ 8) (hs : p + m ≤ n) (hf : Looks w r .u64 (256 ^ m) k caps f) :
    Calls Try.prog 56 #[.pointer (some ⟨r, 0, none⟩), .int .i64 m, .func (.func k) #[] caps] w fun x w' => x = .returned (.int .u64 (numV bs p m)) ∧ Seen w' r A n c (p + m) p (f (numV bs p m)) ∧ Kept (fun k => k = r) w w' := by
  have c0 : w.cell? ⟨r, 0, none⟩ = some (.slice A n c) := Blk.cell hr 0
  have c1 : w.cell? ⟨r, 1, none⟩ = some (.int .i64 p) := Blk.cell hr 1
  have c2 : w.cell? ⟨r, 2, none⟩ = some (.int .i64 0) := Blk.cell hr 2
  have f1 : w.frozen? ⟨r, 1, none⟩ = false := Blk.free hr 1
  have hbd := hb.bound
  have hn := hb.len
  obtain ⟨b, o, rfl, hbB, hc⟩ := hb.bytes (by omega)
  have hbc := bad_cell hr
  have w1 : IntKind.i64.wrap ((p : Int) + (m : Int)) = (p : Int) + (m : Int) := IntWalk.i64_in _ (by omega)
  have HR := Lib.hid hr
  have HN := Lib.hid hn
  have HC := Lib.hid hc
  have HBC := Lib.hid hbc
  have HF := Lib.hid hf
  clear hr hn hc hbc hf
  clear hb
  go_enter Try.func56, Try.ntmps56
  go_wp2_with (go_at_call 30; refine HBC.out.mono ?_; rintro e w' ⟨rfl, rfl⟩)
  go_quiet (fail)
  have hsl := run_cut (P := Try.prog) 27 5 1 Try.underlying27 (by intro W; simp [go_sem]) b o n c p m hm0 hs hbd.1
  rw [Nat.mul_one] at hsl
  go_wp2_with fail
  go_quiet (fail)
  clear hsl
  go_wp2_with fail
  generalize hwx : (World.drewN (World.drewN _ _) _) = wx
  have HX := Lib.hid (show ∃ q, wx = w.drewN q from ⟨_, hwx.symm.trans (drewN_two _ _ _)⟩)
  clear hwx
  go_loopw [7, 47] (fun v i wr => ∃ k q : Nat, k ≤ m ∧ i = .int .i64 k ∧ v = .int .u64 (numV bs p k) ∧ wr = w.drewN q) (fun _ i _ => (m - intOf i).toNat)
  case atStart => obtain ⟨q, hq⟩ := HX.out; exact ⟨0, q, by omega, rfl, rfl, hq⟩
  case round =>
    obtain ⟨j, q, hj, rfl, rfl, rfl⟩ := hrel
    by_cases hlt : j < m
    · have hkb : p + j < bs.length := by have := HN.out; omega
      have hcell := HC.out (p + j) hkb
      have hcell2 : (w.drewN q).cell? ⟨b, o + p + j, none⟩ = some (.int .u8 (bs[p + j].toNat : Int)) := by rw [Nat.add_assoc]; exact hcell
      have hvl := numV_lt bs p j
      have hor := or_byte (c := bs[p + j].toNat) hvl (by omega) bs[p + j].toNat_lt
      have hsn := numV_snoc hkb
      have hcv := u64_byte bs[p + j]
      have w5 : IntKind.i64.wrap (8 * (j : Int)) = 8 * (j : Int) := IntWalk.i64_in _ (by omega)
      have HOR := Lib.hid hor
      have HSN := Lib.hid hsn
      clear hor hsn
      clear hvl hcell
      go_wp2_with fail
      exact ⟨⟨j + 1, q, by omega, by go_num, by rw [HSN.out, ← HOR.out], rfl⟩, by simp [intOf]; omega⟩
    · obtain rfl : j = m := by omega
      have hv := numV_lt bs p j
      have hlk := fun W hW => HF.out.tells W (numV bs p j) hW hv
      have hk2 : Kept (fun k => k = r) w (w.drewN q) := (Kept.refl _ _).drewN _
      have hr2 : Rd (w.drewN q) r (some ⟨b, o, none⟩) n c p 0 0 := Rd.drewN HR.out q
      generalize hvv : numV bs p j = v at *
      have HVV := Lib.hid hvv
      clear hvv
      generalize w.drewN q = w2 at *
      have g1 : w2.frozen? ⟨r, 1, none⟩ = false := Blk.free hr2 1
      have d1 : w2.cell? ⟨r, 1, none⟩ = some (.int .i64 p) := Blk.cell hr2 1
      have hs' : 0 < j := hm0
      clear hv c0 c1 c2 f1
      by_cases h0 : f v = 0
      · rw [h0] at hlk
        have hg := fun q' => give_bad (e := 0) (q := (p : Int)) (Rd.drewN hr2 q') (.inr rfl)
        have HLK := Lib.hid hlk
        have HK2 := Lib.hid hk2
        have HR2 := Lib.hid hr2
        have HG := Lib.hid hg
        clear hlk hk2 hr2 hg
        go_wp2_with fail
        have hen := HF.out.enters
        go_region_with (first | (go_at_call 28; refine (HG.out _).mono ?_; rintro e w' ⟨rfl, rfl⟩) | (refine (HLK.out _ (by with_reducible first | exact HK2.out | exact HK2.out.drew)).mono ?_; rintro e w' ⟨rfl, rfl⟩))
        all_goals
          go_wp2_with fail
          go_ret
          rw [HVV.out]
          exact ⟨rfl, .inl ⟨h0, Blk.set (w := w2.drewN 1) (Rd.drewN HR2.out 1) _⟩, (HK2.out.drewN 1).setCell (.inr rfl) _⟩
      · have hg := fun q' => give_ok (q := (p : Int)) (Rd.drewN hr2 q') h0
        have HLK := Lib.hid hlk
        have HK2 := Lib.hid hk2
        have HR2 := Lib.hid hr2
        have HG := Lib.hid hg
        clear hlk hk2 hr2 hg
        go_wp2_with fail
        have hen := HF.out.enters
        go_region_with (first | (go_at_call 28; refine (HG.out _).mono ?_; rintro e w3 ⟨rfl, hr3, hk3⟩; have HR3 := Lib.hid hr3; have HK3 := Lib.hid hk3; have d3 := Blk.cell hr3 1; have g3 := Blk.free hr3 1; clear hr3 hk3; simp only [List.getElem?_toArray, List.getElem?_cons_zero, List.getElem?_cons_succ] at d3) | (refine (HLK.out _ (by with_reducible first | exact HK2.out | exact HK2.out.drew)).mono ?_; rintro e w' ⟨rfl, rfl⟩))
        all_goals
          go_wp2_with fail
          go_ret
          rw [HVV.out]
          exact ⟨rfl, .inr ⟨h0, Blk.set HR3.out _⟩, ((HK2.out.drewN 1).trans HK3.out).setCell (.inr rfl) _⟩
end
end Go.Proofs.Ytaefgljpdpigeaa.Conf
