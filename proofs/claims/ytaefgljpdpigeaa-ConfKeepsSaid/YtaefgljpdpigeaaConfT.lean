/- The walks of conf's reader (layer 14): counted, ranged, partition, and what they look with. -/
import Derived.Test.YtaefgljpdpigeaaConfS
namespace Go.Proofs.Ytaefgljpdpigeaa.Conf
open Go.RowKit Go.Fb Go.CodeP Go.BytesP Go.ReaderP
set_option linter.unusedVariables false
section
variable {W : World} {b v : Nat}
theorem counted1 {most : Int} (hc : W.cell? ⟨b, 0, none⟩ = some (.int .i64 most)) : Calls Try.prog 62 #[.int .i64 v, .pointer (some ⟨b, 0, none⟩)] W fun e w' => e = .returned (.int .i64 (countF most v)) ∧ W = w' := by
  have h := many_any (v : Int) most W
  have H_ := Lib.hid h
  clear h
  go_enter Try.func62, Try.ntmps62
  go_wp2_with (go_at_call 41; refine H_.out.mono ?_; rintro e w' ⟨rfl, rfl⟩)
  go_ret
  exact ⟨rfl, rfl⟩
theorem ranged1 {part : Int} (hc : W.cell? ⟨b, 0, none⟩ = some (.int .i64 part)) : Calls Try.prog 61 #[.int .i64 v, .pointer (some ⟨b, 0, none⟩)] W fun e w' => e = .returned (.int .i64 (rangeF part v)) ∧ W = w' := by
  have h := ranged_any part (v : Int) W
  have H_ := Lib.hid h
  clear h
  go_enter Try.func61, Try.ntmps61
  go_wp2_with (go_at_call 43; refine H_.out.mono ?_; rintro e w' ⟨rfl, rfl⟩)
  go_ret
  exact ⟨rfl, rfl⟩
theorem partition1 {cb nl cl : Nat} {Al : Option Addr} (hc : W.cell? ⟨b, 0, none⟩ = some (.pointer (some ⟨cb, 0, none⟩))) (hl : W.cell? ⟨cb, 0, none⟩ = some (.slice Al nl cl)) : Calls Try.prog 74 #[.int .i64 v, .pointer (some ⟨b, 0, none⟩)] W fun e w' => e = .returned (.int .i64 (partF nl v)) ∧ W = w' := by
  by_cases h : nl ≤ v
  · have E := Lib.hid (show partF nl v = 2 by unfold partF; rw [if_pos (by omega)])
    go_enter Try.func74, Try.ntmps74
    go_wp2_with fail
    go_ret
    exact ⟨by rw [E.out]; rfl, rfl⟩
  · have E := Lib.hid (show partF nl v = 0 by unfold partF; rw [if_neg (by omega)])
    have h' : v < nl := by omega
    clear h
    go_enter Try.func74, Try.ntmps74
    go_wp2_with fail
    go_ret
    exact ⟨by rw [E.out]; rfl, rfl⟩
theorem proc1 : Calls Try.prog 63 #[.int .i64 v] W fun e w' => e = .returned (.int .i64 (codeF v)) ∧ W = w' := by
  by_cases h : 256 < v
  · have E := Lib.hid (show codeF v = 3 by unfold codeF; rw [if_pos h])
    go_enter Try.func63, Try.ntmps63
    go_wp2_with fail
    go_ret
    exact ⟨by rw [E.out]; rfl, rfl⟩
  · have E := Lib.hid (show codeF v = 0 by unfold codeF; rw [if_neg h])
    have h' : v ≤ 256 := by omega
    clear h
    go_enter Try.func63, Try.ntmps63
    go_wp2_with fail
    go_ret
    exact ⟨by rw [E.out]; rfl, rfl⟩
theorem ins1 : Calls Try.prog 76 #[.int .u64 v] W fun e w' => e = .returned (.int .i64 0) ∧ W = w' := by
  go_enter Try.func76, Try.ntmps76
  go_wp2_with fail
  go_ret
  exact ⟨rfl, rfl⟩
def markF (c v : Nat) : Int := if v = c then 0 else 4
theorem mark_index (i : Nat) (hi : i < 5) (W : World) : (Instr.index 9 (.string ⟨#[70, 66, 67, 70, 1]⟩) (.int .i64 (i : Int))).run Try.prog W = .ok (.int .u8 ((markB.getD i 0).toNat : Int)) W := by
  rcases (by omega : i = 0 ∨ i = 1 ∨ i = 2 ∨ i = 3 ∨ i = 4) with rfl | rfl | rfl | rfl | rfl <;> kernel_rfl
theorem marked1 {i : Nat} (hi : i < 5) (hv : v < 256) (hc : W.cell? ⟨b, 0, none⟩ = some (.int .i64 (i : Int))) : Calls Try.prog 57 #[.int .u64 v, .pointer (some ⟨b, 0, none⟩)] W fun e w' => e = .returned (.int .i64 (markF (markB.getD i 0).toNat v)) ∧ W = w' := by
  have hix := fun W => mark_index i hi W
  have hb := (markB.getD i 0).toNat_lt
  generalize (markB.getD i 0).toNat = q at *
  have hw : IntKind.u8.wrap (v : Int) = (v : Int) := by rw [IntKind.wrap_u8]; omega
  by_cases h : v = q
  · subst h
    have E := Lib.hid (show markF v v = 0 by unfold markF; rw [if_pos rfl])
    go_enter Try.func57, Try.ntmps57
    go_wp2_with fail
    go_ret
    exact ⟨by rw [E.out]; rfl, rfl⟩
  · have E := Lib.hid (show markF q v = 4 by unfold markF; rw [if_neg h])
    have h' : ((v : Int) != (q : Int)) = true := by rw [bne_iff_ne]; omega
    clear h
    go_enter Try.func57, Try.ntmps57
    go_wp2_with fail
    go_ret
    exact ⟨by rw [E.out]; rfl, rfl⟩
end
section
variable {w : World} {r : Nat} {A : Option Addr} {n c : Nat} {s : St} {B : Nat} {bs : List UInt8}
theorem counted_any {most : Int} (hr : RAt w r A n c s) (hb : SliceOf Rep.byte w B A n c bs) (hB : B ≤ w.heap.size) :
    Calls Try.prog 34 #[.pointer (some ⟨r, 0, none⟩), .int .i64 most] w fun x w' => Num w w' r A n c .i64 x bs 1 (countF most) s := by
  have hrl := hr.lt
  have hk1 : New w (w.alloc (.cells #[.int .i64 most] 3)) := (Kept.refl _ _).alloc _
  have hbk := Blk.made w 3 #[.int .i64 most]
  have hint := int_any (m := 1) (hr.kept hk1 id) (hb.kept hk1 hB fun _ _ h => h) (Nat.le_trans hB hk1.size) (by decide) (by decide) (k := 62) (caps := #[.pointer (some ⟨w.heap.size, 0, none⟩)]) (f := countF most)
    ⟨fun args W => enters Try.func62 rfl rfl args W, fun W v hW hv => counted1 ((hbk.kept hW (by omega)).cell 0)⟩
  have HINT := Lib.hid hint
  have HK1 := Lib.hid hk1
  clear hint hk1
  clear hbk hb hr
  go_enter Try.func34, Try.ntmps34
  go_wp2_with (go_at_call 60; refine HINT.out.mono ?_; rintro e w2 ⟨v, s', rfl, hv, hr2, hrun, hk2⟩; have HR2 := Lib.hid hr2; have HRUN := Lib.hid hrun; have HK2 := Lib.hid hk2; clear hr2 hrun hk2)
  go_ret
  exact ⟨v, s', rfl, hv, HR2.out, HRUN.out, (HK1.out.mono fun _ _ h => h.elim).trans HK2.out⟩
theorem ranged_num {part : Int} {m : Nat} (hm0 : 0 < m) (hm : m ≤ 2) (hr : RAt w r A n c s) (hb : SliceOf Rep.byte w B A n c bs) (hB : B ≤ w.heap.size) :
    Calls Try.prog 33 #[.pointer (some ⟨r, 0, none⟩), .int .i64 part, .int .i64 m] w fun x w' => Num w w' r A n c .i64 x bs m (rangeF part) s := by
  have hrl := hr.lt
  have hk1 : New w (w.alloc (.cells #[.int .i64 part] 3)) := (Kept.refl _ _).alloc _
  have hbk := Blk.made w 3 #[.int .i64 part]
  have hint := int_any (m := m) (hr.kept hk1 id) (hb.kept hk1 hB fun _ _ h => h) (Nat.le_trans hB hk1.size) hm0 hm (k := 61) (caps := #[.pointer (some ⟨w.heap.size, 0, none⟩)]) (f := rangeF part)
    ⟨fun args W => enters Try.func61 rfl rfl args W, fun W v hW hv => ranged1 ((hbk.kept hW (by omega)).cell 0)⟩
  have HINT := Lib.hid hint
  have HK1 := Lib.hid hk1
  clear hint hk1
  clear hbk hb hr
  go_enter Try.func33, Try.ntmps33
  go_wp2_with (go_at_call 60; refine HINT.out.mono ?_; rintro e w2 ⟨v, s', rfl, hv, hr2, hrun, hk2⟩; have HR2 := Lib.hid hr2; have HRUN := Lib.hid hrun; have HK2 := Lib.hid hk2; clear hr2 hrun hk2)
  go_ret
  exact ⟨v, s', rfl, hv, HR2.out, HRUN.out, (HK1.out.mono fun _ _ h => h.elim).trans HK2.out⟩
theorem partition_any {cb nl cl : Nat} {Al : Option Addr} (hl : w.cell? ⟨cb, 0, none⟩ = some (.slice Al nl cl)) (hcr : cb ≠ r) (hr : RAt w r A n c s) (hb : SliceOf Rep.byte w B A n c bs) (hB : B ≤ w.heap.size) :
    Calls Try.prog 59 #[.pointer (some ⟨r, 0, none⟩), .pointer (some ⟨cb, 0, none⟩)] w fun x w' => Num w w' r A n c .i64 x bs 1 (partF nl) s := by
  have hrl := hr.lt
  have hcl := (lt_of_cell hl).1
  have hk1 : New w (w.alloc (.cells #[.pointer (some ⟨cb, 0, none⟩)] 58)) := (Kept.refl _ _).alloc _
  have hbk := Blk.made w 58 #[.pointer (some ⟨cb, 0, none⟩)]
  have hint := int_any (m := 1) (hr.kept hk1 id) (hb.kept hk1 hB fun _ _ h => h) (Nat.le_trans hB hk1.size) (by decide) (by decide) (k := 74) (caps := #[.pointer (some ⟨w.heap.size, 0, none⟩)]) (f := partF nl)
    ⟨fun args W => enters Try.func74 rfl rfl args W, fun W v hW hv => partition1 ((hbk.kept hW (by omega)).cell 0) ((hW.cell (p := ⟨cb, 0, none⟩) (Nat.lt_of_lt_of_le hcl hk1.size) hcr).trans ((hk1.cell (p := ⟨cb, 0, none⟩) hcl id).trans hl))⟩
  have HINT := Lib.hid hint
  have HK1 := Lib.hid hk1
  clear hint hk1
  clear hbk hb hr
  go_enter Try.func59, Try.ntmps59
  go_wp2_with (go_at_call 60; refine HINT.out.mono ?_; rintro e w2 ⟨v, s', rfl, hv, hr2, hrun, hk2⟩; have HR2 := Lib.hid hr2; have HRUN := Lib.hid hrun; have HK2 := Lib.hid hk2; clear hr2 hrun hk2)
  go_ret
  exact ⟨v, s', rfl, hv, HR2.out, HRUN.out, (HK1.out.mono fun _ _ h => h.elim).trans HK2.out⟩
/-- The number of instructions. -/
theorem many_num (hr : RAt w r A n c s) (hb : SliceOf Rep.byte w B A n c bs) (hB : B ≤ w.heap.size) :
    Calls Try.prog 60 #[.pointer (some ⟨r, 0, none⟩), .int .i64 2, .func (.func 63) #[] #[]] w fun x w' => Num w w' r A n c .i64 x bs 2 codeF s :=
  int_any (m := 2) hr hb hB (by decide) (by decide) ⟨fun args W => enters Try.func63 rfl rfl args W, fun W v hW hv => proc1⟩
/-- A byte, or eight, at which nothing is wrong. -/
theorem fine_num {m : Nat} (hm0 : 0 < m) (hm : m ≤ 8) (hr : RAt w r A n c s) (hb : SliceOf Rep.byte w B A n c bs) :
    Calls Try.prog 56 #[.pointer (some ⟨r, 0, none⟩), .int .i64 m, .func (.func 76) #[] #[]] w fun x w' => Num w w' r A n c .u64 x bs m (fun _ => 0) s :=
  number_any hr hb hm0 hm ⟨fun args W => enters Try.func76 rfl rfl args W, fun W v hW hv => ins1⟩
end
end Go.Proofs.Ytaefgljpdpigeaa.Conf
