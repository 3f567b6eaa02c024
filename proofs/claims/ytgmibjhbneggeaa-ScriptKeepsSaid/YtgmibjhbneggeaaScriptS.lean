/- The walk of package script's reader (layer 16): step. -/
import Derived.Test.YtgmibjhbneggeaaScriptN
namespace Go.Proofs.Ytgmibjhbneggeaa.Script
open Go.RowKit Go.Fb Go.BytesP Go.ScriptP
set_option linter.unusedVariables false

theorem val_one {bs : List UInt8} {p : Nat} (h : p < bs.length) : val ((bs.drop p).take 1) = bs[p].toNat := by
  rw [List.drop_eq_getElem_cons h, List.take_succ_cons, List.take_zero]; simp [val]
def agg (s : Step) : Value := .agg #[.int .i64 s.k, .int .i64 s.n, .int .i64 s.v]
/-- What step tells. -/
def Told (w w' : World) (r : Nat) (A : Option Addr) (n c : Nat) (e : Ending) : Got Step → Prop
  | .error x => e = .returned (.tuple #[agg ⟨0, 0, 0⟩, .int .i64 x.1, .int .i64 x.2]) ∧ Kept (fun k => k = r) w w'
  | .ok (s, q) => e = .returned (.tuple #[agg s, .int .i64 0, .int .i64 0]) ∧ Rd w' r A n c q ∧ Kept (fun k => k = r) w w'
theorem Rd.lt {w : World} {r : Nat} {A : Option Addr} {n c p : Nat} (h : Rd w r A n c p) : r < w.heap.size := Blk.lt h
theorem Rd.alloc {w : World} {r : Nat} {A : Option Addr} {n c p : Nat} (h : Rd w r A n c p) (o : Obj) : Rd (w.alloc o) r A n c p := Blk.alloc h o
theorem Rd.other {w : World} {r : Nat} {A : Option Addr} {n c q : Nat} (h : Rd w r A n c q) {p : Addr} (hp : r ≠ p.block) (v : Value) : Rd (w.setCell p v) r A n c q := Blk.other h hp v
theorem Rd.drewN {w : World} {r : Nat} {A : Option Addr} {n c p : Nat} (h : Rd w r A n c p) (q : Nat) : Rd (w.drewN q) r A n c p := h

set_option maxHeartbeats 400000 in
theorem step_bad (B r : Nat) (A : Option Addr) (n c p : Nat) (bs : List UInt8) (w : World) (hr : Rd w r A n c p) (hb : SliceOf Rep.byte w B A n c bs) (hB : B ≤ r) (hp : p < bs.length) (hk : bs[p].toNat < 1 ∨ 3 < bs[p].toNat) :
    Calls Try.prog 23 #[.pointer (some ⟨r, 0, none⟩)] w fun e w' => e = .returned (.tuple #[agg ⟨0, 0, 0⟩, .int .i64 1, .int .i64 p]) ∧ Kept (fun k => k = r) w w' := by
  have c1 : w.cell? ⟨r, 1, none⟩ = some (.int .i64 p) := Blk.cell hr 1
  have hrl := hr.lt
  have hn := hb.len
  have hbd := hb.bound
  have HR := Lib.hid hr
  have HB := Lib.hid hb
  have HN := Lib.hid hn
  have hv := val_one hp
  have HV := Lib.hid hv
  have hkb : kindB (bs[p].toNat : Int) = false := by unfold kindB; simp; omega
  have h256 := bs[p].toNat_lt
  generalize bs[p].toNat = x at *
  clear hr hb hn hv
  go_enter Try.func23, Try.ntmps23
  go_wp2_with fail
  refine (number_some B r A n c p 1 bs _ (HR.out.alloc _) ((HB.out.kept ((Kept.refl (fun _ => False) _).alloc _) (by omega) (fun _ _ h => h))) hB (by decide) (by decide) (by have := HN.out; omega)).mono ?_
  rintro e w1 ⟨rfl, hr1, hk1⟩
  rw [HV.out]
  have hz : Blk w1 w.heap.size 38 #[.int .i64 0, .int .i64 0, .int .i64 0] := (Blk.made w 38 #[.int .i64 0, .int .i64 0, .int .i64 0]).kept hk1 (by omega)
  have q0 : w1.cell? ⟨w.heap.size, 0, none⟩ = some (.int .i64 0) := hz.cell 0
  have q1 : w1.cell? ⟨w.heap.size, 1, none⟩ = some (.int .i64 0) := hz.cell 1
  have q2 : w1.cell? ⟨w.heap.size, 2, none⟩ = some (.int .i64 0) := hz.cell 2
  have g0 : w1.frozen? ⟨w.heap.size, 0, none⟩ = false := hz.free 0
  have g1 : w1.frozen? ⟨w.heap.size, 1, none⟩ = false := hz.free 1
  have g2 : w1.frozen? ⟨w.heap.size, 2, none⟩ = false := hz.free 2
  have HK1 := Lib.hid hk1
  clear hz hk1 hr1
  go_wp2_with (go_at_call 28; refine (kind_any _ _).mono ?_; rintro e w' ⟨rfl, rfl⟩)
  refine bodyPost_ret (v := .tuple #[agg ⟨0, 0, 0⟩, .int .i64 1, .int .i64 p]) (by simp [results, Try.results23, go_sem, q0, q1, q2, agg]) rfl ⟨rfl, ?_⟩
  have hk0 : Kept (fun k => k = r) w w1 := ((Kept.refl _ _).alloc _).trans HK1.out
  exact ((hk0.setCell (.inl (Nat.le_refl _)) _).setCell (.inl (Nat.le_refl _)) _).setCell (.inl (Nat.le_refl _)) _

set_option maxHeartbeats 1000000 in
/-- The kind is one, and there are four bytes behind it. -/
theorem step_num (B r : Nat) (A : Option Addr) (n c p : Nat) (bs : List UInt8) (w : World) (hr : Rd w r A n c p) (hb : SliceOf Rep.byte w B A n c bs) (hB : B ≤ r) (hp : p + 5 ≤ bs.length) (hk1 : 1 ≤ bs[p].toNat) (hk3 : bs[p].toNat ≤ 3) (h2 : bs[p].toNat ≠ 2) :
    Calls Try.prog 23 #[.pointer (some ⟨r, 0, none⟩)] w fun e w' => e = .returned (.tuple #[agg ⟨bs[p].toNat, val ((bs.drop (p + 1)).take 4), 0⟩, .int .i64 0, .int .i64 0]) ∧ Rd w' r A n c (p + 5) ∧ Kept (fun k => k = r) w w' := by
  have c1 : w.cell? ⟨r, 1, none⟩ = some (.int .i64 p) := Blk.cell hr 1
  have hrl := hr.lt
  have hn := hb.len
  have hbd := hb.bound
  have HR := Lib.hid hr
  have HB := Lib.hid hb
  have HN := Lib.hid hn
  have hv := val_one (bs := bs) (p := p) (by omega)
  have HV := Lib.hid hv
  have hkb : kindB (bs[p].toNat : Int) = true := by unfold kindB; simp; omega
  have h256 := bs[p].toNat_lt
  have h2' : ((bs[p].toNat : Int) == 2) = false := by simp; omega
  have hvl := val_lt ((bs.drop (p + 1)).take 4)
  rw [List.length_take, List.length_drop, Nat.min_eq_left (by omega)] at hvl
  generalize bs[p].toNat = x at *
  have HP := Lib.hid hp
  clear hr hb hn hv h2 hp
  go_enter Try.func23, Try.ntmps23
  go_wp2_with fail
  have hb0 : SliceOf Rep.byte (w.alloc (.cells #[.int .i64 0, .int .i64 0, .int .i64 0] 38)) B A n c bs := HB.out.kept ((Kept.refl (fun _ => False) _).alloc _) (by omega) (fun _ _ h => h)
  refine (number_some B r A n c p 1 bs _ (HR.out.alloc _) hb0 hB (by decide) (by decide) (by have := HN.out; have := HP.out; omega)).mono ?_
  rintro e w1 ⟨rfl, hr1, hk1'⟩
  rw [HV.out]
  have hz : Blk w1 w.heap.size 38 #[.int .i64 0, .int .i64 0, .int .i64 0] := (Blk.made w 38 #[.int .i64 0, .int .i64 0, .int .i64 0]).kept hk1' (by omega)
  have hb1 := SliceOf.on hb0 hk1' hB (by simp; omega)
  have HZ := Lib.hid hz
  have HK1 := Lib.hid hk1'
  have HR1 := Lib.hid hr1
  have HB1 := Lib.hid hb1
  clear hz hk1' hr1 hb1 hb0 c1
  go_wp2_with (go_at_call 28; refine (kind_any _ _).mono ?_; rintro e w' ⟨rfl, rfl⟩)
  refine (number_some B r A n c (p + 1) 4 bs _ HR1.out HB1.out hB (by decide) (by decide) (by have := HN.out; have := HP.out; omega)).mono ?_
  rintro e w2 ⟨rfl, hr2, hk2⟩
  have hz2 := HZ.out.kept hk2 (by have := HR.out.lt; omega)
  have q0 : w2.cell? ⟨w.heap.size, 0, none⟩ = some (.int .i64 0) := hz2.cell 0
  have q1 : w2.cell? ⟨w.heap.size, 1, none⟩ = some (.int .i64 0) := hz2.cell 1
  have q2 : w2.cell? ⟨w.heap.size, 2, none⟩ = some (.int .i64 0) := hz2.cell 2
  have g0 : w2.frozen? ⟨w.heap.size, 0, none⟩ = false := hz2.free 0
  have g1 : w2.frozen? ⟨w.heap.size, 1, none⟩ = false := hz2.free 1
  have g2 : w2.frozen? ⟨w.heap.size, 2, none⟩ = false := hz2.free 2
  have hzl := hz2.lt
  rw [show p + 1 + 4 = p + 5 from rfl] at hr2
  have HR2 := Lib.hid hr2
  have HK2 := Lib.hid hk2
  clear hr2 hk2 hz2
  go_wp2_with fail
  refine bodyPost_ret (v := .tuple #[agg ⟨x, val ((bs.drop (p + 1)).take 4), 0⟩, .int .i64 0, .int .i64 0]) (by simp [results, Try.results23, go_sem, q0, q1, q2, agg, hzl]) rfl ⟨rfl, ?_, ?_⟩
  · exact (((HR2.out.other (p := ⟨w.heap.size, 0, none⟩) (Nat.ne_of_lt hrl) _).other (p := ⟨w.heap.size, 1, none⟩) (Nat.ne_of_lt hrl) _).other (p := ⟨w.heap.size, 2, none⟩) (Nat.ne_of_lt hrl) _).alloc _
  · have hk0 : Kept (fun k => k = r) w w2 := (((Kept.refl _ _).alloc _).trans HK1.out).trans HK2.out
    exact (((hk0.setCell (.inl (Nat.le_refl _)) _).setCell (.inl (Nat.le_refl _)) _).setCell (.inl (Nat.le_refl _)) _).alloc _
set_option maxHeartbeats 1000000 in
/-- .. and eight more, where something is injected. -/
theorem step_inj (B r : Nat) (A : Option Addr) (n c p : Nat) (bs : List UInt8) (w : World) (hr : Rd w r A n c p) (hb : SliceOf Rep.byte w B A n c bs) (hB : B ≤ r) (hp : p + 13 ≤ bs.length) (h2 : bs[p].toNat = 2) :
    Calls Try.prog 23 #[.pointer (some ⟨r, 0, none⟩)] w fun e w' => e = .returned (.tuple #[agg ⟨bs[p].toNat, val ((bs.drop (p + 1)).take 4), wrap64 (val ((bs.drop (p + 5)).take 8))⟩, .int .i64 0, .int .i64 0]) ∧ Rd w' r A n c (p + 13) ∧ Kept (fun k => k = r) w w' := by
  have c1 : w.cell? ⟨r, 1, none⟩ = some (.int .i64 p) := Blk.cell hr 1
  have hrl := hr.lt
  have hn := hb.len
  have hbd := hb.bound
  have HR := Lib.hid hr
  have HB := Lib.hid hb
  have HN := Lib.hid hn
  have hv := val_one (bs := bs) (p := p) (by omega)
  have HV := Lib.hid hv
  have hkb : kindB (bs[p].toNat : Int) = true := by unfold kindB; simp; omega
  have h256 := bs[p].toNat_lt
  have h2' : ((bs[p].toNat : Int) == 2) = true := by simp; omega
  have hvl := val_lt ((bs.drop (p + 1)).take 4)
  rw [List.length_take, List.length_drop, Nat.min_eq_left (by omega)] at hvl
  generalize bs[p].toNat = x at *
  have HP := Lib.hid hp
  clear hr hb hn hv h2 hp
  go_enter Try.func23, Try.ntmps23
  go_wp2_with fail
  have hb0 : SliceOf Rep.byte (w.alloc (.cells #[.int .i64 0, .int .i64 0, .int .i64 0] 38)) B A n c bs := HB.out.kept ((Kept.refl (fun _ => False) _).alloc _) (by omega) (fun _ _ h => h)
  refine (number_some B r A n c p 1 bs _ (HR.out.alloc _) hb0 hB (by decide) (by decide) (by have := HN.out; have := HP.out; omega)).mono ?_
  rintro e w1 ⟨rfl, hr1, hk1'⟩
  rw [HV.out]
  have hz : Blk w1 w.heap.size 38 #[.int .i64 0, .int .i64 0, .int .i64 0] := (Blk.made w 38 #[.int .i64 0, .int .i64 0, .int .i64 0]).kept hk1' (by omega)
  have hb1 := SliceOf.on hb0 hk1' hB (by simp; omega)
  have HZ := Lib.hid hz
  have HK1 := Lib.hid hk1'
  have HR1 := Lib.hid hr1
  have HB1 := Lib.hid hb1
  clear hz hk1' hr1 hb1 hb0 c1
  go_wp2_with (go_at_call 28; refine (kind_any _ _).mono ?_; rintro e w' ⟨rfl, rfl⟩)
  refine (number_some B r A n c (p + 1) 4 bs _ HR1.out HB1.out hB (by decide) (by decide) (by have := HN.out; have := HP.out; omega)).mono ?_
  rintro e w2 ⟨rfl, hr2, hk2⟩
  have hz2 := HZ.out.kept hk2 (by have := HR.out.lt; omega)
  have q0 : w2.cell? ⟨w.heap.size, 0, none⟩ = some (.int .i64 0) := hz2.cell 0
  have q1 : w2.cell? ⟨w.heap.size, 1, none⟩ = some (.int .i64 0) := hz2.cell 1
  have q2 : w2.cell? ⟨w.heap.size, 2, none⟩ = some (.int .i64 0) := hz2.cell 2
  have g0 : w2.frozen? ⟨w.heap.size, 0, none⟩ = false := hz2.free 0
  have g1 : w2.frozen? ⟨w.heap.size, 1, none⟩ = false := hz2.free 1
  have g2 : w2.frozen? ⟨w.heap.size, 2, none⟩ = false := hz2.free 2
  have hzl := hz2.lt
  rw [show p + 1 + 4 = p + 5 from rfl] at hr2
  have hb2 := SliceOf.on HB1.out hk2 hB (HR1.out.lt)
  have HR2 := Lib.hid hr2
  have HK2 := Lib.hid hk2
  have HZ2 := Lib.hid hz2
  have HB2 := Lib.hid hb2
  clear hr2 hk2 hz2 hb2 q0 q1 q2 g0 g1 g2
  go_wp2_with fail
  have hb3 : SliceOf Rep.byte (w2.alloc (.cells #[.int .i64 x, .int .i64 (val ((bs.drop (p + 1)).take 4)), .int .i64 0] 38)) B A n c bs := HB2.out.kept ((Kept.refl (fun _ => False) _).alloc _) (by omega) (fun _ _ h => h)
  refine (number_some B r A n c (p + 5) 8 bs _ (HR2.out.alloc _) hb3 hB (by decide) (by decide) (by have := HN.out; have := HP.out; omega)).mono ?_
  rintro e w3 ⟨rfl, hr3, hk3'⟩
  have hz3 := (HZ2.out.alloc (.cells #[.int .i64 x, .int .i64 (val ((bs.drop (p + 1)).take 4)), .int .i64 0] 38)).kept hk3' (by have := HR.out.lt; omega)
  have hs3 := (Blk.made w2 38 #[.int .i64 x, .int .i64 (val ((bs.drop (p + 1)).take 4)), .int .i64 0]).kept hk3' (by have := HR2.out.lt; omega)
  have q0 : w3.cell? ⟨w.heap.size, 0, none⟩ = some (.int .i64 0) := hz3.cell 0
  have q1 : w3.cell? ⟨w.heap.size, 1, none⟩ = some (.int .i64 0) := hz3.cell 1
  have q2 : w3.cell? ⟨w.heap.size, 2, none⟩ = some (.int .i64 0) := hz3.cell 2
  have g0 : w3.frozen? ⟨w.heap.size, 0, none⟩ = false := hz3.free 0
  have g1 : w3.frozen? ⟨w.heap.size, 1, none⟩ = false := hz3.free 1
  have g2 : w3.frozen? ⟨w.heap.size, 2, none⟩ = false := hz3.free 2
  have s0 : w3.cell? ⟨w2.heap.size, 0, none⟩ = some (.int .i64 x) := hs3.cell 0
  have s1 : w3.cell? ⟨w2.heap.size, 1, none⟩ = some (.int .i64 (val ((bs.drop (p + 1)).take 4))) := hs3.cell 1
  have s2 : w3.cell? ⟨w2.heap.size, 2, none⟩ = some (.int .i64 0) := hs3.cell 2
  have t2 : w3.frozen? ⟨w2.heap.size, 2, none⟩ = false := hs3.free 2
  rw [show p + 5 + 8 = p + 13 from rfl] at hr3
  have HR3 := Lib.hid hr3
  have HK3 := Lib.hid hk3'
  clear hr3 hk3' hz3 hs3 hb3
  go_wp2_with fail
  refine bodyPost_ret (v := .tuple #[agg ⟨x, val ((bs.drop (p + 1)).take 4), wrap64 (val ((bs.drop (p + 5)).take 8))⟩, .int .i64 0, .int .i64 0]) (by simp [results, Try.results23, go_sem, q0, q1, q2, agg]) rfl ⟨rfl, ?_, ?_⟩
  · exact (((HR3.out.other (p := ⟨w2.heap.size, 2, none⟩) (Nat.ne_of_lt HR2.out.lt) _).other (p := ⟨w.heap.size, 0, none⟩) (Nat.ne_of_lt hrl) _).other (p := ⟨w.heap.size, 1, none⟩) (Nat.ne_of_lt hrl) _).other (p := ⟨w.heap.size, 2, none⟩) (Nat.ne_of_lt hrl) _
  · have hk0 : Kept (fun k => k = r) w w3 := (((((Kept.refl _ _).alloc _).trans HK1.out).trans HK2.out).alloc _).trans HK3.out
    exact (((hk0.setCell (.inl (Nat.le_of_lt hzl)) _).setCell (.inl (Nat.le_refl _)) _).setCell (.inl (Nat.le_refl _)) _).setCell (.inl (Nat.le_refl _)) _
set_option maxHeartbeats 1000000 in
/-- No byte is there. -/
theorem step_end (B r : Nat) (A : Option Addr) (n c p : Nat) (bs : List UInt8) (w : World) (hr : Rd w r A n c p) (hb : SliceOf Rep.byte w B A n c bs) (hB : B ≤ r) (hp : p = bs.length) :
    Calls Try.prog 23 #[.pointer (some ⟨r, 0, none⟩)] w fun e w' => e = .returned (.tuple #[agg ⟨0, 0, 0⟩, .int .i64 5, .int .i64 bs.length]) ∧ Kept (fun k => k = r) w w' := by
  have c1 : w.cell? ⟨r, 1, none⟩ = some (.int .i64 p) := Blk.cell hr 1
  have c0 : w.cell? ⟨r, 0, none⟩ = some (.slice A n c) := Blk.cell hr 0
  have hrl := hr.lt
  have hn := hb.len
  have hbd := hb.bound
  have HR := Lib.hid hr
  have HB := Lib.hid hb
  have HN := Lib.hid hn
  have HP := Lib.hid hp
  clear hr hb hn hp
  go_enter Try.func23, Try.ntmps23
  go_wp2_with fail
  have hb0 : SliceOf Rep.byte (w.alloc (.cells #[.int .i64 0, .int .i64 0, .int .i64 0] 38)) B A n c bs := HB.out.kept ((Kept.refl (fun _ => False) _).alloc _) (by omega) (fun _ _ h => h)
  refine (number_none B r A n c p 1 bs _ (HR.out.alloc _) hb0 hB (by have := HN.out; have := HP.out; omega) (by decide) (by have := HN.out; have := HP.out; omega)).mono ?_
  rintro e w1 ⟨rfl, q1, rfl⟩
  have HB0 := Lib.hid hb0
  clear hb0
  go_wp2_with fail
  refine (number_none B r A n c p 4 bs _ ((HR.out.alloc _).drewN _) (HB0.out.drewN _) hB (by have := HN.out; have := HP.out; omega) (by decide) (by have := HN.out; have := HP.out; omega)).mono ?_
  rintro e w2 ⟨rfl, q2, rfl⟩
  go_wp2_with fail
  go_region
  all_goals (go_wp2)
  have hk0 := Kept.refl (fun k => k = r) w
  refine bodyPost_ret (v := .tuple #[agg ⟨0, 0, 0⟩, .int .i64 5, .int .i64 n]) (by simp [results, Try.results23, go_sem, agg]) rfl ⟨by rw [← HN.out], ?_⟩
  repeat (first | exact Kept.refl _ _ | exact hk0 | apply Kept.drew | apply Kept.drewN | apply Kept.alloc | (refine Kept.setCell ?_ (.inl (by simp; try omega)) _))
set_option maxHeartbeats 1000000 in
/-- The kind is one, but what is behind it is too short. -/
theorem step_short (B r : Nat) (A : Option Addr) (n c p : Nat) (bs : List UInt8) (w : World) (hr : Rd w r A n c p) (hb : SliceOf Rep.byte w B A n c bs) (hB : B ≤ r) (hp : p < bs.length) (hp5 : bs.length < p + 5) (hk1 : 1 ≤ bs[p].toNat) (hk3 : bs[p].toNat ≤ 3) :
    Calls Try.prog 23 #[.pointer (some ⟨r, 0, none⟩)] w fun e w' => e = .returned (.tuple #[agg ⟨0, 0, 0⟩, .int .i64 5, .int .i64 bs.length]) ∧ Kept (fun k => k = r) w w' := by
  have c1 : w.cell? ⟨r, 1, none⟩ = some (.int .i64 p) := Blk.cell hr 1
  have hrl := hr.lt
  have hn := hb.len
  have hbd := hb.bound
  have HR := Lib.hid hr
  have HB := Lib.hid hb
  have HN := Lib.hid hn
  have hv := val_one (bs := bs) (p := p) (by omega)
  have HV := Lib.hid hv
  have hkb : kindB (bs[p].toNat : Int) = true := by unfold kindB; simp; omega
  have h256 := bs[p].toNat_lt
  generalize bs[p].toNat = x at *
  have HP := Lib.hid (And.intro hp hp5)
  clear hr hb hn hv hp hp5
  go_enter Try.func23, Try.ntmps23
  go_wp2_with fail
  have hb0 : SliceOf Rep.byte (w.alloc (.cells #[.int .i64 0, .int .i64 0, .int .i64 0] 38)) B A n c bs := HB.out.kept ((Kept.refl (fun _ => False) _).alloc _) (by omega) (fun _ _ h => h)
  refine (number_some B r A n c p 1 bs _ (HR.out.alloc _) hb0 hB (by decide) (by decide) (by have := HN.out; have := HP.out; omega)).mono ?_
  rintro e w1 ⟨rfl, hr1, hk1'⟩
  rw [HV.out]
  have hz : Blk w1 w.heap.size 38 #[.int .i64 0, .int .i64 0, .int .i64 0] := (Blk.made w 38 #[.int .i64 0, .int .i64 0, .int .i64 0]).kept hk1' (by omega)
  have hb1 := SliceOf.on hb0 hk1' hB (by simp; omega)
  have HZ := Lib.hid hz
  have HK1 := Lib.hid hk1'
  have HR1 := Lib.hid hr1
  have HB1 := Lib.hid hb1
  clear hz hk1' hr1 hb1 hb0 c1
  go_wp2_with (go_at_call 28; refine (kind_any _ _).mono ?_; rintro e w' ⟨rfl, rfl⟩)
  refine (number_none B r A n c (p + 1) 4 bs _ HR1.out HB1.out hB (by have := HN.out; have := HP.out; omega) (by decide) (by have := HN.out; have := HP.out; omega)).mono ?_
  rintro e w2 ⟨rfl, hw2⟩
  have hk2 : New w1 w2 := by obtain ⟨q, rfl⟩ := hw2; exact (Kept.refl _ _).drewN _
  have hz2 := HZ.out.kept hk2 id
  have hr2 : Rd w2 r A n c (p + 1) := Blk.kept (g := fun _ => False) HR1.out hk2 id
  have z0 : w2.cell? ⟨w.heap.size, 0, none⟩ = some (.int .i64 0) := hz2.cell 0
  have z1 : w2.cell? ⟨w.heap.size, 1, none⟩ = some (.int .i64 0) := hz2.cell 1
  have z2 : w2.cell? ⟨w.heap.size, 2, none⟩ = some (.int .i64 0) := hz2.cell 2
  have g0 : w2.frozen? ⟨w.heap.size, 0, none⟩ = false := hz2.free 0
  have g1 : w2.frozen? ⟨w.heap.size, 1, none⟩ = false := hz2.free 1
  have g2 : w2.frozen? ⟨w.heap.size, 2, none⟩ = false := hz2.free 2
  have c0 : w2.cell? ⟨r, 0, none⟩ = some (.slice A n c) := Blk.cell hr2 0
  have hzl := hz2.lt
  have hrl1 := hr2.lt
  have hk0 : Kept (fun k => k = r) w w2 := (((Kept.refl _ _).alloc _).trans HK1.out).trans (hk2.mono fun _ _ h => h.elim)
  have HK0 := Lib.hid hk0
  clear hk0 hk2 hz2 hr2 hw2
  by_cases h2 : x = 2
  · subst h2
    go_wp2_with fail
    go_region
    all_goals (go_wp2)
    refine bodyPost_ret (v := .tuple #[agg ⟨0, 0, 0⟩, .int .i64 5, .int .i64 n]) (by simp [results, Try.results23, go_sem, agg, z0, z1, z2, hzl]) rfl ⟨by rw [← HN.out], ?_⟩
    have hk0 := HK0.out
    repeat (first | exact Kept.refl _ _ | exact hk0 | apply Kept.drew | apply Kept.drewN | apply Kept.alloc | (refine Kept.setCell ?_ (.inl (by simp; try omega)) _))
  · have h2' : ((x : Int) == 2) = false := by simp; omega
    go_wp2_with fail
    go_region
    all_goals (go_wp2)
    refine bodyPost_ret (v := .tuple #[agg ⟨0, 0, 0⟩, .int .i64 5, .int .i64 n]) (by simp [results, Try.results23, go_sem, agg, z0, z1, z2, hzl]) rfl ⟨by rw [← HN.out], ?_⟩
    have hk0 := HK0.out
    repeat (first | exact Kept.refl _ _ | exact hk0 | apply Kept.drew | apply Kept.drewN | apply Kept.alloc | (refine Kept.setCell ?_ (.inl (by simp; try omega)) _))
set_option maxHeartbeats 1000000 in
/-- .. but not eight more. -/
theorem step_short2 (B r : Nat) (A : Option Addr) (n c p : Nat) (bs : List UInt8) (w : World) (hr : Rd w r A n c p) (hb : SliceOf Rep.byte w B A n c bs) (hB : B ≤ r) (hp : p + 5 ≤ bs.length) (hp13 : bs.length < p + 13) (h2 : bs[p].toNat = 2) :
    Calls Try.prog 23 #[.pointer (some ⟨r, 0, none⟩)] w fun e w' => e = .returned (.tuple #[agg ⟨0, 0, 0⟩, .int .i64 5, .int .i64 bs.length]) ∧ Kept (fun k => k = r) w w' := by
  have c1 : w.cell? ⟨r, 1, none⟩ = some (.int .i64 p) := Blk.cell hr 1
  have hrl := hr.lt
  have hn := hb.len
  have hbd := hb.bound
  have HR := Lib.hid hr
  have HB := Lib.hid hb
  have HN := Lib.hid hn
  have hv := val_one (bs := bs) (p := p) (by omega)
  have HV := Lib.hid hv
  have hkb : kindB (bs[p].toNat : Int) = true := by unfold kindB; simp; omega
  have h256 := bs[p].toNat_lt
  have h2' : ((bs[p].toNat : Int) == 2) = true := by simp; omega
  have hvl := val_lt ((bs.drop (p + 1)).take 4)
  rw [List.length_take, List.length_drop, Nat.min_eq_left (by omega)] at hvl
  generalize bs[p].toNat = x at *
  have HP := Lib.hid (And.intro hp hp13)
  clear hr hb hn hv h2 hp hp13
  go_enter Try.func23, Try.ntmps23
  go_wp2_with fail
  have hb0 : SliceOf Rep.byte (w.alloc (.cells #[.int .i64 0, .int .i64 0, .int .i64 0] 38)) B A n c bs := HB.out.kept ((Kept.refl (fun _ => False) _).alloc _) (by omega) (fun _ _ h => h)
  refine (number_some B r A n c p 1 bs _ (HR.out.alloc _) hb0 hB (by decide) (by decide) (by have := HN.out; have := HP.out; omega)).mono ?_
  rintro e w1 ⟨rfl, hr1, hk1'⟩
  rw [HV.out]
  have hz : Blk w1 w.heap.size 38 #[.int .i64 0, .int .i64 0, .int .i64 0] := (Blk.made w 38 #[.int .i64 0, .int .i64 0, .int .i64 0]).kept hk1' (by omega)
  have hb1 := SliceOf.on hb0 hk1' hB (by simp; omega)
  have HZ := Lib.hid hz
  have HK1 := Lib.hid hk1'
  have HR1 := Lib.hid hr1
  have HB1 := Lib.hid hb1
  clear hz hk1' hr1 hb1 hb0 c1
  go_wp2_with (go_at_call 28; refine (kind_any _ _).mono ?_; rintro e w' ⟨rfl, rfl⟩)
  refine (number_some B r A n c (p + 1) 4 bs _ HR1.out HB1.out hB (by decide) (by decide) (by have := HN.out; have := HP.out; omega)).mono ?_
  rintro e w2 ⟨rfl, hr2, hk2⟩
  have hz2 := HZ.out.kept hk2 (by have := HR.out.lt; omega)
  have q0 : w2.cell? ⟨w.heap.size, 0, none⟩ = some (.int .i64 0) := hz2.cell 0
  have q1 : w2.cell? ⟨w.heap.size, 1, none⟩ = some (.int .i64 0) := hz2.cell 1
  have q2 : w2.cell? ⟨w.heap.size, 2, none⟩ = some (.int .i64 0) := hz2.cell 2
  have g0 : w2.frozen? ⟨w.heap.size, 0, none⟩ = false := hz2.free 0
  have g1 : w2.frozen? ⟨w.heap.size, 1, none⟩ = false := hz2.free 1
  have g2 : w2.frozen? ⟨w.heap.size, 2, none⟩ = false := hz2.free 2
  have hzl := hz2.lt
  rw [show p + 1 + 4 = p + 5 from rfl] at hr2
  have hb2 := SliceOf.on HB1.out hk2 hB (HR1.out.lt)
  have HR2 := Lib.hid hr2
  have HK2 := Lib.hid hk2
  have HZ2 := Lib.hid hz2
  have HB2 := Lib.hid hb2
  clear hr2 hk2 hz2 hb2 q0 q1 q2 g0 g1 g2
  go_wp2_with fail
  have hb3 : SliceOf Rep.byte (w2.alloc (.cells #[.int .i64 x, .int .i64 (val ((bs.drop (p + 1)).take 4)), .int .i64 0] 38)) B A n c bs := HB2.out.kept ((Kept.refl (fun _ => False) _).alloc _) (by omega) (fun _ _ h => h)
  refine (number_none B r A n c (p + 5) 8 bs _ (HR2.out.alloc _) hb3 hB (by have := HN.out; have := HP.out; omega) (by decide) (by have := HN.out; have := HP.out; omega)).mono ?_
  rintro e w3 ⟨rfl, q3, rfl⟩
  have z0 : w2.cell? ⟨w.heap.size, 0, none⟩ = some (.int .i64 0) := HZ2.out.cell 0
  have z1 : w2.cell? ⟨w.heap.size, 1, none⟩ = some (.int .i64 0) := HZ2.out.cell 1
  have z2 : w2.cell? ⟨w.heap.size, 2, none⟩ = some (.int .i64 0) := HZ2.out.cell 2
  have g0 : w2.frozen? ⟨w.heap.size, 0, none⟩ = false := HZ2.out.free 0
  have g1 : w2.frozen? ⟨w.heap.size, 1, none⟩ = false := HZ2.out.free 1
  have g2 : w2.frozen? ⟨w.heap.size, 2, none⟩ = false := HZ2.out.free 2
  have c0 : w2.cell? ⟨r, 0, none⟩ = some (.slice A n c) := Blk.cell HR2.out 0
  have hrl2 := HR2.out.lt
  have hk0 : Kept (fun k => k = r) w w2 := (((Kept.refl _ _).alloc _).trans HK1.out).trans HK2.out
  have HK0 := Lib.hid hk0
  clear hk0 hb3
  go_wp2_with fail
  go_region
  all_goals (go_wp2)
  refine bodyPost_ret (v := .tuple #[agg ⟨0, 0, 0⟩, .int .i64 5, .int .i64 n]) (by simp [results, Try.results23, go_sem, agg, z0, z1, z2, hzl]) rfl ⟨by rw [← HN.out], ?_⟩
  have hk0 := HK0.out
  repeat (first | exact Kept.refl _ _ | exact hk0 | apply Kept.drew | apply Kept.drewN | apply Kept.alloc | (refine Kept.setCell ?_ (.inl (by simp; try omega)) _))
end Go.Proofs.Ytgmibjhbneggeaa.Script
