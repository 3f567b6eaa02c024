/- The walks of conf's reader (layer 14): number however it stands, int, counted, ranged, partition, and what they look with. -/
import Derived.Test.YtaefgljpdpigeaaConfO
namespace Go.Proofs.Ytaefgljpdpigeaa.Conf
open Go.RowKit Go.Fb Go.CodeP Go.BytesP Go.ReaderP
set_option linter.unusedVariables false
theorem Seen.at_ {w : World} {r : Nat} {A : Option Addr} {n c a p : Nat} {e : Int} (h : Seen w r A n c a p e) (ha : a ≤ n) : RAt w r A n c (if e = 0 then .ok a else .error (e, (p : Int))) := by
  rcases h with ⟨h0, h⟩ | ⟨h0, h⟩
  · rw [if_pos h0]; exact ⟨h, ha⟩
  · rw [if_neg h0]; exact ⟨a, h, h0, ha⟩
section
variable {w : World} {r : Nat} {A : Option Addr} {n c : Nat}
/-- What a number's reading leaves. -/
def Num (w w' : World) (r : Nat) (A : Option Addr) (n c : Nat) (kind : IntKind) (x : Ending) (bs : List UInt8) (m : Nat) (f : Nat → Int) (s : St) : Prop :=
  ∃ (v : Nat) (s' : St), x = .returned (.int kind v) ∧ v < 256 ^ m ∧ RAt w' r A n c s' ∧ Run (numD bs m f) s s' v ∧ Kept (fun k => k = r) w w'
theorem number_any {s : St} {m B : Nat} {bs : List UInt8} {k : FuncId} {caps : Array Value} {f : Nat → Int} (hr : RAt w r A n c s) (hb : SliceOf Rep.byte w B A n c bs) (hm0 : 0 < m) (hm : m ≤ 8) (hf : Looks w r .u64 (256 ^ m) k caps f) :
    Calls Try.prog 56 #[.pointer (some ⟨r, 0, none⟩), .int .i64 m, .func (.func k) #[] caps] w fun x w' => Num w w' r A n c .u64 x bs m f s := by
  have hn := hb.len
  have hbd := hb.bound
  have hp0 : 0 < 256 ^ m := Nat.pow_pos (by decide)
  cases s with
  | error x =>
    obtain ⟨a, h, he, ha⟩ := hr
    exact (number_bad h he).mono fun e w' ⟨h1, h2⟩ => ⟨0, .error x, h1, hp0, by subst h2; exact ⟨a, h, he, ha⟩, rfl, by subst h2; exact Kept.refl _ _⟩
  | ok p =>
    obtain ⟨hr, hp⟩ := hr
    by_cases h : bs.length < p + m
    · refine (number_short hr hm hp (by omega) (by omega)).mono fun e w' ⟨h1, h2, h3⟩ => ⟨0, .error (5, n), h1, hp0, ⟨p, h2, by simp, hp⟩, ?_, h3⟩
      unfold Run numD Agr
      simp only
      rw [if_pos h, hn]
    · refine (number_ok hr hb hm0 hm (by omega) hf).mono fun e w' ⟨h1, h2, h3⟩ => ⟨numV bs p m, _, h1, numV_lt _ _ _, h2.at_ (by omega), ?_, h3⟩
      unfold Run numD Agr
      simp only
      rw [if_neg h]
      by_cases hz : f (numV bs p m) = 0
      · simp only [if_pos hz]; exact ⟨trivial, trivial⟩
      · simp only [if_neg hz]
theorem int1_any {W : World} {b v : Nat} {k : FuncId} {caps : Array Value} {f : Nat → Int} (hv : v < 65536) (hc : W.cell? ⟨b, 0, none⟩ = some (.func (.func k) #[] caps)) (hen : ∀ (args : Array Value) (W : World), (callFunc k args).run Try.prog W = .ok (.enter k args) W)
    (hf : Calls Try.prog k (#[.int .i64 v] ++ caps) W fun e w' => e = .returned (.int .i64 (f v)) ∧ W = w') :
    Calls Try.prog 75 #[.int .u64 v, .pointer (some ⟨b, 0, none⟩)] W fun e w' => e = .returned (.int .i64 (f v)) ∧ W = w' := by
  have hw : IntKind.i64.wrap (v : Int) = (v : Int) := IntWalk.i64_in _ (by omega)
  have HF := Lib.hid hf
  clear hf
  go_enter Try.func75, Try.ntmps75
  go_wp2_with (refine HF.out.mono ?_; rintro e w' ⟨rfl, rfl⟩)
  go_ret
  exact ⟨rfl, rfl⟩
theorem int_any {s : St} {m B : Nat} {bs : List UInt8} {k : FuncId} {caps : Array Value} {f : Nat → Int} (hr : RAt w r A n c s) (hb : SliceOf Rep.byte w B A n c bs) (hB : B ≤ w.heap.size) (hm0 : 0 < m) (hm : m ≤ 2) (hf : Looks w r .i64 65536 k caps f) :
    Calls Try.prog 60 #[.pointer (some ⟨r, 0, none⟩), .int .i64 m, .func (.func k) #[] caps] w fun x w' => Num w w' r A n c .i64 x bs m f s := by
  have hrl := hr.lt
  have hv2 : 256 ^ m ≤ 65536 := Nat.le_trans (Nat.pow_le_pow_right (by decide) hm) (Nat.le_refl (256 ^ 2))
  have hk1 : New w (w.alloc (.cells #[.func (.func k) #[] caps] 84)) := (Kept.refl _ _).alloc _
  have hbk := Blk.made w 84 #[.func (.func k) #[] caps]
  have hlk : Looks (w.alloc (.cells #[.func (.func k) #[] caps] 84)) r .u64 (256 ^ m) 75 #[.pointer (some ⟨w.heap.size, 0, none⟩)] f :=
    ⟨fun args W => enters Try.func75 rfl rfl args W, fun W v hW hv => int1_any (by omega) ((hbk.kept hW (by omega)).cell 0) hf.enters (hf.tells W v ((hk1.mono fun _ _ h => h.elim).trans hW) (by omega))⟩
  have hnum := number_any (s := s) (hr.kept hk1 id) (hb.kept hk1 hB fun _ _ h => h) hm0 (by omega) hlk
  have HNUM := Lib.hid hnum
  have HK1 := Lib.hid hk1
  clear hnum hk1
  clear hlk hbk hf hb hr
  go_enter Try.func60, Try.ntmps60
  go_wp2_with (go_at_call 56; refine HNUM.out.mono ?_; rintro e w2 ⟨v, s', rfl, hv, hr2, hrun, hk2⟩; have hwv : IntKind.i64.wrap (v : Int) = (v : Int) := IntWalk.i64_in _ (by omega); have HR2 := Lib.hid hr2; have HRUN := Lib.hid hrun; have HK2 := Lib.hid hk2; clear hr2 hrun hk2)
  go_ret
  exact ⟨v, s', rfl, hv, HR2.out, HRUN.out, (HK1.out.mono fun _ _ h => h.elim).trans HK2.out⟩
end
end Go.Proofs.Ytaefgljpdpigeaa.Conf
