/- The walk of conf's reader's ins (layer 14): an instruction. -/
import Derived.Test.YtaefgljpdpigeaaConfI
import Derived.Test.YtaefgljpdpigeaaCodeDc
namespace Go.Proofs.Ytaefgljpdpigeaa.Conf
open Go.RowKit Go.Fb Go.CodeP Go.BytesP Go.ReaderP
set_option linter.unusedVariables false
theorem get_at {bs : List UInt8} {p : Nat} (h : p + 12 ≤ bs.length) : get ((bs.drop p).take 12) = ⟨numV bs p 1, numV bs (p + 1) 1, numV bs (p + 2) 1, numV bs (p + 3) 1, wrap64 (numV bs (p + 4) 8)⟩ := by
  rw [Code.get_bytes (by rw [List.length_drop]; omega), numV_one (by omega), numV_one (by omega), numV_one (by omega), numV_one (by omega)]
  simp only [List.getElem_drop, Nat.add_zero]
  unfold numV
  rw [List.drop_drop]
section
variable {w : World} {r : Nat} {A : Option Addr} {n c : Nat} {B : Nat} {bs : List UInt8}
theorem fine_ok {p m : Nat} (hm0 : 0 < m) (hm : m ≤ 8) (hr : RAt w r A n c (.ok p)) (hb : SliceOf Rep.byte w B A n c bs) (hs : p + m ≤ n) :
    Calls Try.prog 56 #[.pointer (some ⟨r, 0, none⟩), .int .i64 m, .func (.func 76) #[] #[]] w fun x w' => x = .returned (.int .u64 (numV bs p m)) ∧ RAt w' r A n c (.ok (p + m)) ∧ Kept (fun k => k = r) w w' := by
  have hn := hb.len
  refine (fine_num hm0 hm hr hb).mono fun x w' ⟨v, s', h1, hv, h2, h3, h4⟩ => ?_
  unfold Run numD Agr at h3
  simp only at h3
  rw [if_neg (show ¬ bs.length < p + m by omega), if_pos trivial] at h3
  obtain ⟨rfl, rfl⟩ := h3
  exact ⟨h1, h2, h4⟩
theorem fine_at {p m p' v : Nat} (hv : numV bs p m = v) (hp' : p + m = p') (hm0 : 0 < m) (hm : m ≤ 8) (hr : RAt w r A n c (.ok p)) (hb : SliceOf Rep.byte w B A n c bs) (hB : B ≤ r) (hs : p + m ≤ n) :
    Calls Try.prog 56 #[.pointer (some ⟨r, 0, none⟩), .int .i64 m, .func (.func 76) #[] #[]] w fun x w' => x = .returned (.int .u64 v) ∧ RAt w' r A n c (.ok p') ∧ SliceOf Rep.byte w' B A n c bs ∧ Kept (fun k => k = r) w w' := by
  subst hv
  subst hp'
  have hrl := hr.lt
  exact (fine_ok hm0 hm hr hb hs).mono fun x w' ⟨h1, h2, h3⟩ => ⟨h1, h2, hb.kept h3 (by omega) (fun k h1 h2 => by omega), h3⟩
/-- Five cells are written. -/
def set5 (w : World) (b : Nat) (v0 v1 v2 v3 v4 : Value) : World := ((((w.setCell ⟨b, 0, none⟩ v0).setCell ⟨b, 1, none⟩ v1).setCell ⟨b, 2, none⟩ v2).setCell ⟨b, 3, none⟩ v3).setCell ⟨b, 4, none⟩ v4
theorem set5_blk {w : World} {b : Nat} {T : TypeId} {a0 a1 a2 a3 a4 : Value} (h : Blk w b T #[a0, a1, a2, a3, a4]) (v0 v1 v2 v3 v4 : Value) : Blk (set5 w b v0 v1 v2 v3 v4) b T #[v0, v1, v2, v3, v4] := by
  have := ((((h.set (i := 0) v0).set (i := 1) v1).set (i := 2) v2).set (i := 3) v3).set (i := 4) v4
  unfold set5
  simpa using this
theorem set5_kept (w : World) (b : Nat) (v0 v1 v2 v3 v4 : Value) : Kept (fun k => k = b) w (set5 w b v0 v1 v2 v3 v4) :=
  (((((Kept.refl (fun k => k = b) w).setCell (p := ⟨b, 0, none⟩) (.inr rfl) v0).setCell (p := ⟨b, 1, none⟩) (.inr rfl) v1).setCell (p := ⟨b, 2, none⟩) (.inr rfl) v2).setCell (p := ⟨b, 3, none⟩) (.inr rfl) v3).setCell (p := ⟨b, 4, none⟩) (.inr rfl) v4
/-- What an instruction's reading leaves. -/
def InsR (w w' : World) (r : Nat) (A : Option Addr) (n c : Nat) (e : Ending) (bs : List UInt8) (many locks : Int) (s : St) : Prop :=
  ∃ (x : Ins) (s' : St), e = .returned (Code.agg x) ∧ Code.Wf x ∧ RAt w' r A n c s' ∧ Run (insD bs many locks) s s' x ∧ Kept (fun k => k = r) w w'
theorem wf_zero : Code.Wf ⟨0, 0, 0, 0, 0⟩ := by refine ⟨?_, ?_, ?_, ?_, ?_⟩ <;> decide
set_option maxRecDepth 100000 in
set_option maxHeartbeats 2000000 in
theorem ins_any {s : St} {many locks : Int} (hr : RAt w r A n c s) (hb : SliceOf Rep.byte w B A n c bs) (hB : B ≤ r) :
    Calls Try.prog 64 #[.pointer (some ⟨r, 0, none⟩), .int .i64 many, .int .i64 locks] w fun e w' => InsR w w' r A n c e bs many locks s := by
  unfold InsR
  have hrl := hr.lt
  have hn := hb.len
  have hbd := hb.bound
  have hk1 : New w (w.alloc (.cells #[.int .i64 0, .int .i64 0, .int .i64 0, .int .i64 0, .int .i64 0] 62)) := (Kept.refl _ _).alloc _
  have hb1 := Blk.made w 62 #[.int .i64 0, .int .i64 0, .int .i64 0, .int .i64 0, .int .i64 0]
  have hr1 := hr.kept hk1 id
  have hbad := bad_any hr1
  cases s with
  | error e =>
    rw [show isErr (.error e) = true from rfl] at hbad
    have y0 := hb1.cell 0
    have y1 := hb1.cell 1
    have y2 := hb1.cell 2
    have y3 := hb1.cell 3
    have y4 := hb1.cell 4
    simp only [List.getElem?_toArray, List.getElem?_cons_zero, List.getElem?_cons_succ] at y0 y1 y2 y3 y4
    have f0 := hb1.free 0
    have f1 := hb1.free 1
    have f2 := hb1.free 2
    have f3 := hb1.free 3
    have f4 := hb1.free 4
    have HK1 := Lib.hid hk1
    have HB1 := Lib.hid hb1
    have HR1 := Lib.hid hr1
    have HBAD := Lib.hid hbad
    have HN := Lib.hid hn
    clear hk1 hb1 hr1 hbad hn
    clear hr hb
    go_enter Try.func64, Try.ntmps64
    go_wp2_with (go_at_call 30; refine HBAD.out.mono ?_; rintro e' w' ⟨rfl, rfl⟩)
    refine bodyPost_ret (v := Code.agg ⟨0, 0, 0, 0, 0⟩) (by simp [results, Try.results64, go_sem, Code.agg, y0, y1, y2, y3, y4]) rfl ⟨⟨0, 0, 0, 0, 0⟩, .error e, rfl, wf_zero, HR1.out, rfl, HK1.out.mono fun _ _ h => h.elim⟩
  | ok p =>
    rw [show isErr (.ok p) = false from rfl] at hbad
    have hp : p ≤ n := hr.2
    have hbl : SliceOf Rep.byte (w.alloc (.cells #[.int .i64 0, .int .i64 0, .int .i64 0, .int .i64 0, .int .i64 0] 62)) B A n c bs := hb.kept hk1 (by omega) fun _ _ h => h
    have x0 : (w.alloc (.cells #[.int .i64 0, .int .i64 0, .int .i64 0, .int .i64 0, .int .i64 0] 62)).cell? ⟨r, 0, none⟩ = some (.slice A n c) := Blk.cell hr1.1 0
    have x1 : (w.alloc (.cells #[.int .i64 0, .int .i64 0, .int .i64 0, .int .i64 0, .int .i64 0] 62)).cell? ⟨r, 1, none⟩ = some (.int .i64 p) := Blk.cell hr1.1 1
    by_cases hs : n < p + 12
    · have hg := give_any (e := 5) (q := (n : Int)) hr1
      unfold giveS at hg
      simp only at hg
      rw [if_neg (by decide)] at hg
      have hs' : (n : Int) - (p : Int) < 12 := by omega
      have HRU := Lib.hid (show Run (insD bs many locks) (.ok p) (.error (5, n)) ⟨0, 0, 0, 0, 0⟩ by
        unfold Run insD Agr
        simp only
        rw [if_pos (by omega), hn])
      have y0 := hb1.cell 0
      have y1 := hb1.cell 1
      have y2 := hb1.cell 2
      have y3 := hb1.cell 3
      have y4 := hb1.cell 4
      simp only [List.getElem?_toArray, List.getElem?_cons_zero, List.getElem?_cons_succ] at y0 y1 y2 y3 y4
      have f0 := hb1.free 0
      have f1 := hb1.free 1
      have f2 := hb1.free 2
      have f3 := hb1.free 3
      have f4 := hb1.free 4
      have HK1 := Lib.hid hk1
      have HB1 := Lib.hid hb1
      have HR1 := Lib.hid hr1
      have HBAD := Lib.hid hbad
      have HG := Lib.hid hg
      have HN := Lib.hid hn
      clear hk1 hb1 hr1 hbad hg hn
      clear hr hb hbl hs
      go_enter Try.func64, Try.ntmps64
      go_upto_region 7 with (first | (go_at_call 30; refine HBAD.out.mono ?_; rintro e' w' ⟨rfl, rfl⟩) | (go_at_call 28; refine HG.out.mono ?_; rintro e' w2 ⟨rfl, hr2, hk2⟩))
      have hb2 := HB1.out.kept hk2 (by omega)
      clear y0 y1 y2 y3 y4 f0 f1 f2 f3 f4
      have y0 := hb2.cell 0
      have y1 := hb2.cell 1
      have y2 := hb2.cell 2
      have y3 := hb2.cell 3
      have y4 := hb2.cell 4
      simp only [List.getElem?_toArray, List.getElem?_cons_zero, List.getElem?_cons_succ] at y0 y1 y2 y3 y4
      have f0 := hb2.free 0
      have f1 := hb2.free 1
      have f2 := hb2.free 2
      have f3 := hb2.free 3
      have f4 := hb2.free 4
      have HR2 := Lib.hid hr2
      have HK2 := Lib.hid hk2
      have HB2 := Lib.hid hb2
      clear hr2 hk2 hb2
      go_wp2_with fail
      clear y0 y1 y2 y3 y4
      have hb3 := set5_blk HB2.out (.int .i64 0) (.int .i64 0) (.int .i64 0) (.int .i64 0) (.int .i64 0)
      have hk3 := set5_kept w2 w.heap.size (.int .i64 0) (.int .i64 0) (.int .i64 0) (.int .i64 0) (.int .i64 0)
      change bodyPost _ _ _ _ _ (set5 w2 w.heap.size (.int .i64 0) (.int .i64 0) (.int .i64 0) (.int .i64 0) (.int .i64 0))
      generalize set5 w2 w.heap.size (.int .i64 0) (.int .i64 0) (.int .i64 0) (.int .i64 0) (.int .i64 0) = W at *
      have y0 := hb3.cell 0
      have y1 := hb3.cell 1
      have y2 := hb3.cell 2
      have y3 := hb3.cell 3
      have y4 := hb3.cell 4
      simp only [List.getElem?_toArray, List.getElem?_cons_zero, List.getElem?_cons_succ] at y0 y1 y2 y3 y4
      refine bodyPost_ret (v := Code.agg ⟨0, 0, 0, 0, 0⟩) (by simp [results, Try.results64, go_sem, Code.agg, y0, y1, y2, y3, y4]) rfl ⟨⟨0, 0, 0, 0, 0⟩, .error (5, n), rfl, wf_zero, HR2.out.kept hk3 (by omega), HRU.out, ?_⟩
      exact ((HK1.out.mono fun _ _ h => h.elim).trans HK2.out).step hk3 fun i hi e => by omega
    · have hs' : 12 ≤ (n : Int) - (p : Int) := by omega
      have hx := get_at (bs := bs) (p := p) (by omega)
      have hwf := Code.wf_get ((bs.drop p).take 12) (by rw [List.length_take, List.length_drop]; omega)
      have l0 := numV_lt bs p 1
      have l1 := numV_lt bs (p + 1) 1
      have l2 := numV_lt bs (p + 2) 1
      have l3 := numV_lt bs (p + 3) 1
      have hrun : ∀ s' : St, (if (wrong (get ((bs.drop p).take 12)) many locks).1 = 0 then s' = .ok (p + 12) else s' = .error ((wrong (get ((bs.drop p).take 12)) many locks).1, p + (wrong (get ((bs.drop p).take 12)) many locks).2)) → Run (insD bs many locks) (.ok p) s' (get ((bs.drop p).take 12)) := fun s' h => by
        unfold Run insD Agr
        simp only
        rw [if_neg (show ¬ bs.length < p + 12 by omega)]
        by_cases hz : (wrong (get ((bs.drop p).take 12)) many locks).1 = 0
        · rw [if_pos hz] at h ⊢; exact ⟨h, rfl⟩
        · rw [if_neg hz] at h ⊢; exact h
      generalize hv0 : numV bs p 1 = a0 at *
      generalize hv1 : numV bs (p + 1) 1 = a1 at *
      generalize hv2 : numV bs (p + 2) 1 = a2 at *
      generalize hv3 : numV bs (p + 3) 1 = a3 at *
      generalize hv4 : numV bs (p + 4) 8 = a8 at *
      rw [hx] at hwf hrun
      have q0 : IntKind.i64.wrap (a0 : Int) = (a0 : Int) := IntWalk.i64_in _ (by omega)
      have q1 : IntKind.i64.wrap (a1 : Int) = (a1 : Int) := IntWalk.i64_in _ (by omega)
      have q2 : IntKind.i64.wrap (a2 : Int) = (a2 : Int) := IntWalk.i64_in _ (by omega)
      have q3 : IntKind.i64.wrap (a3 : Int) = (a3 : Int) := IntWalk.i64_in _ (by omega)
      have q8 : IntKind.i64.wrap (a8 : Int) = wrap64 a8 := Code.wrap_eq _
      have hp12 : p + 12 ≤ n := by omega
      have HK1 := Lib.hid hk1
      have HB1 := Lib.hid hb1
      have HBAD := Lib.hid hbad
      have HN := Lib.hid hn
      have HX := Lib.hid hx
      have HWF := Lib.hid hwf
      have HRUN := Lib.hid hrun
      have HV0 := Lib.hid hv0
      have HV1 := Lib.hid hv1
      have HV2 := Lib.hid hv2
      have HV3 := Lib.hid hv3
      have HV4 := Lib.hid hv4
      have HR1 := Lib.hid hr1
      have HBY1 := Lib.hid hbl
      clear hk1 hb1 hbad hn hx hwf hrun hv0 hv1 hv2 hv3 hv4 hr1 hbl
      clear hr hb hs
      go_enter Try.func64, Try.ntmps64
      go_upto_region 8 with (go_at_call 30; refine HBAD.out.mono ?_; rintro e' w' ⟨rfl, rfl⟩)
      clear x0 x1
      go_upto_region 9 with (first
        | (go_at_call 56; refine (fine_at (p' := p + 1) (m := 1) HV0.out rfl (by decide) (by decide) HR1.out HBY1.out hB (by omega)).mono ?_; rintro e' w2 ⟨rfl, hr2, hby2, hk2⟩; have HR2 := Lib.hid hr2; have HBY2 := Lib.hid hby2; have HK2 := Lib.hid hk2; clear hr2 hby2 hk2 HR1 HBY1)
        | (go_at_call 56; refine (fine_at (p' := p + 2) (m := 1) HV1.out rfl (by decide) (by decide) HR2.out HBY2.out hB (by omega)).mono ?_; rintro e' w3 ⟨rfl, hr3, hby3, hk3⟩; have HR3 := Lib.hid hr3; have HBY3 := Lib.hid hby3; have HK3 := Lib.hid hk3; clear hr3 hby3 hk3 HR2 HBY2)
        | (go_at_call 56; refine (fine_at (p' := p + 3) (m := 1) HV2.out rfl (by decide) (by decide) HR3.out HBY3.out hB (by omega)).mono ?_; rintro e' w4 ⟨rfl, hr4, hby4, hk4⟩; have HR4 := Lib.hid hr4; have HBY4 := Lib.hid hby4; have HK4 := Lib.hid hk4; clear hr4 hby4 hk4 HR3 HBY3)
        | (go_at_call 56; refine (fine_at (p' := p + 4) (m := 1) HV3.out rfl (by decide) (by decide) HR4.out HBY4.out hB (by omega)).mono ?_; rintro e' w5 ⟨rfl, hr5, hby5, hk5⟩; have HR5 := Lib.hid hr5; have HBY5 := Lib.hid hby5; have HK5 := Lib.hid hk5; clear hr5 hby5 hk5 HR4 HBY4)
        | (go_at_call 56; refine (fine_at (p' := p + 12) (m := 8) HV4.out rfl (by decide) (by decide) HR5.out HBY5.out hB (by omega)).mono ?_; rintro e' w6 ⟨rfl, hr6, hby6, hk6⟩; have HR6 := Lib.hid hr6; have HBY6 := Lib.hid hby6; have HK6 := Lib.hid hk6; clear hr6 hby6 hk6 HR5 HBY5))
      have HK16 := Lib.hid ((((HK2.out.trans HK3.out).trans HK4.out).trans HK5.out).trans HK6.out)
      have hb6 := HB1.out.kept HK16.out (by omega)
      have k7 : New w6 (w6.alloc (.cells #[.int .i64 (a0 : Int), .int .i64 (a1 : Int), .int .i64 (a2 : Int), .int .i64 (a3 : Int), .int .i64 (wrap64 a8)] 62)) := (Kept.refl _ _).alloc _
      have hx7 := Blk.made w6 62 #[.int .i64 (a0 : Int), .int .i64 (a1 : Int), .int .i64 (a2 : Int), .int .i64 (a3 : Int), .int .i64 (wrap64 a8)]
      have hb7 := hb6.kept k7 id
      have hr7 := HR6.out.kept k7 id
      have hkk := HK16.out.trans (k7.mono fun _ _ h => h.elim)
      clear q0 q1 q2 q3 q8
      have hbx : w.heap.size ≠ w6.heap.size := by have := hb6.lt; omega
      have hbr : r ≠ w6.heap.size := by have := HK16.out.size; have := HK1.out.size; omega
      clear HK2 HK3 HK4 HK5 HK6 k7 hb6
      generalize w6.alloc (.cells #[.int .i64 (a0 : Int), .int .i64 (a1 : Int), .int .i64 (a2 : Int), .int .i64 (a3 : Int), .int .i64 (wrap64 a8)] 62) = w7 at *
      generalize w6.heap.size = bx at *
      have hch := Code.check_any ⟨a0, a1, a2, a3, wrap64 a8⟩ many locks w7
      have HK7 := Lib.hid ((HK1.out.mono fun _ _ h => h.elim).trans hkk)
      have y0 := hx7.cell 0
      have y1 := hx7.cell 1
      have y2 := hx7.cell 2
      have y3 := hx7.cell 3
      have y4 := hx7.cell 4
      simp only [List.getElem?_toArray, List.getElem?_cons_zero, List.getElem?_cons_succ] at y0 y1 y2 y3 y4
      by_cases hz : check ⟨a0, a1, a2, a3, wrap64 a8⟩ many locks = 0
      · rw [hz] at hch
        have HCH := Lib.hid hch
        have HX7 := Lib.hid hx7
        have HB7 := Lib.hid hb7
        have HR7 := Lib.hid hr7
        clear hch hx7 hb7 hr7
        clear hkk
        go_upto_region 12 with (go_at_call 68; refine HCH.out.mono ?_; rintro e' w8 ⟨rfl, hn8⟩)
        clear y0 y1 y2 y3 y4
        have hb8 := HB7.out.kept hn8 id
        have hx8 := HX7.out.kept hn8 id
        have hr8 := HR7.out.kept hn8 id
        have HN8 := Lib.hid hn8
        have HB8 := Lib.hid hb8
        have HX8 := Lib.hid hx8
        have HR8 := Lib.hid hr8
        clear hn8 hb8 hx8 hr8
        have y0 := HX8.out.cell 0
        have y1 := HX8.out.cell 1
        have y2 := HX8.out.cell 2
        have y3 := HX8.out.cell 3
        have y4 := HX8.out.cell 4
        simp only [List.getElem?_toArray, List.getElem?_cons_zero, List.getElem?_cons_succ] at y0 y1 y2 y3 y4
        have z0 := HB8.out.cell 0
        have z1 := HB8.out.cell 1
        have z2 := HB8.out.cell 2
        have z3 := HB8.out.cell 3
        have z4 := HB8.out.cell 4
        simp only [List.getElem?_toArray, List.getElem?_cons_zero, List.getElem?_cons_succ] at z0 z1 z2 z3 z4
        have f0 := HB8.out.free 0
        have f1 := HB8.out.free 1
        have f2 := HB8.out.free 2
        have f3 := HB8.out.free 3
        have f4 := HB8.out.free 4
        go_wp2_with fail
        clear y0 y1 y2 y3 y4 z0 z1 z2 z3 z4 f0 f1 f2 f3 f4
        have hb9 := set5_blk HB8.out (.int .i64 (a0 : Int)) (.int .i64 (a1 : Int)) (.int .i64 (a2 : Int)) (.int .i64 (a3 : Int)) (.int .i64 (wrap64 a8))
        have hk9 := set5_kept w8 w.heap.size (.int .i64 (a0 : Int)) (.int .i64 (a1 : Int)) (.int .i64 (a2 : Int)) (.int .i64 (a3 : Int)) (.int .i64 (wrap64 a8))
        change bodyPost _ _ _ _ _ (set5 w8 w.heap.size (.int .i64 (a0 : Int)) (.int .i64 (a1 : Int)) (.int .i64 (a2 : Int)) (.int .i64 (a3 : Int)) (.int .i64 (wrap64 a8)))
        generalize set5 w8 w.heap.size (.int .i64 (a0 : Int)) (.int .i64 (a1 : Int)) (.int .i64 (a2 : Int)) (.int .i64 (a3 : Int)) (.int .i64 (wrap64 a8)) = W at *
        have v0 := hb9.cell 0
        have v1 := hb9.cell 1
        have v2 := hb9.cell 2
        have v3 := hb9.cell 3
        have v4 := hb9.cell 4
        simp only [List.getElem?_toArray, List.getElem?_cons_zero, List.getElem?_cons_succ] at v0 v1 v2 v3 v4
        refine bodyPost_ret (v := Code.agg ⟨a0, a1, a2, a3, wrap64 a8⟩) (by simp [results, Try.results64, go_sem, Code.agg, v0, v1, v2, v3, v4]) rfl ⟨⟨a0, a1, a2, a3, wrap64 a8⟩, .ok (p + 12), rfl, HWF.out, HR8.out.kept hk9 (by omega), HRUN.out _ ?_, ?_⟩
        · rw [if_pos (show (wrong ⟨a0, a1, a2, a3, wrap64 a8⟩ many locks).1 = 0 from hz)]
        · exact (HK7.out.trans (HN8.out.mono fun _ _ h => h.elim)).step hk9 fun i hi e => by omega
      · have hsp := fun W => spoilt_any ⟨a0, a1, a2, a3, wrap64 a8⟩ (check ⟨a0, a1, a2, a3, wrap64 a8⟩ many locks) W
        have hsw : spoiltP ⟨a0, a1, a2, a3, wrap64 a8⟩ (check ⟨a0, a1, a2, a3, wrap64 a8⟩ many locks) = (wrong ⟨a0, a1, a2, a3, wrap64 a8⟩ many locks).2 := spoilt_wrong (by simp only; omega) (by simp only; omega) (by simp only; omega)
        rw [hsw] at hsp
        have hw2 := wrong_two ⟨a0, a1, a2, a3, wrap64 a8⟩ many locks
        have hst : ∀ s' : St, s' = .error (check ⟨a0, a1, a2, a3, wrap64 a8⟩ many locks, p + (wrong ⟨a0, a1, a2, a3, wrap64 a8⟩ many locks).2) → Run (insD bs many locks) (.ok p) s' ⟨a0, a1, a2, a3, wrap64 a8⟩ := fun s' h => HRUN.out s' (by rw [if_neg (show ¬ (wrong ⟨a0, a1, a2, a3, wrap64 a8⟩ many locks).1 = 0 from hz)]; exact h)
        generalize check ⟨a0, a1, a2, a3, wrap64 a8⟩ many locks = ec at *
        generalize (wrong ⟨a0, a1, a2, a3, wrap64 a8⟩ many locks).2 = pl at *
        have hz' : (ec != 0) = true := by simpa using hz
        have hadd : IntKind.i64.wrap ((p : Int) + pl) = (p : Int) + pl := IntWalk.i64_in _ (by omega)
        have HCH := Lib.hid hch
        have HX7 := Lib.hid hx7
        have HB7 := Lib.hid hb7
        have HR7 := Lib.hid hr7
        have HSP := Lib.hid hsp
        have HST := Lib.hid hst
        have HZ := Lib.hid hz
        clear hch hx7 hb7 hr7 hsp hst hz
        clear hkk hsw
        go_upto_region 11 with (go_at_call 68; refine HCH.out.mono ?_; rintro e' w8 ⟨rfl, hn8⟩)
        clear y0 y1 y2 y3 y4
        have hb8 := HB7.out.kept hn8 id
        have hx8 := HX7.out.kept hn8 id
        have hr8 := HR7.out.kept hn8 id
        have y0 := hx8.cell 0
        have y1 := hx8.cell 1
        have y2 := hx8.cell 2
        have y3 := hx8.cell 3
        have y4 := hx8.cell 4
        simp only [List.getElem?_toArray, List.getElem?_cons_zero, List.getElem?_cons_succ] at y0 y1 y2 y3 y4
        have HN8 := Lib.hid hn8
        have HB8 := Lib.hid hb8
        have HX8 := Lib.hid hx8
        have HR8 := Lib.hid hr8
        clear hn8 hb8 hx8 hr8
        go_upto_region 12 with (first
          | (go_at_call 77; refine (HSP.out _).mono ?_; rintro e' w9 ⟨rfl, hn9⟩; have HG9 := Lib.hid (give_any (e := ec) (q := (p : Int) + pl) (HR8.out.kept hn9 id)); have HN9 := Lib.hid hn9; clear hn9)
          | (go_at_call 28; refine HG9.out.mono ?_; rintro e' w10 ⟨rfl, hr10, hk10⟩))
        clear y0 y1 y2 y3 y4
        unfold giveS at hr10
        simp only at hr10
        rw [if_neg HZ.out] at hr10
        have hb10 := (HB8.out.kept HN9.out id).kept hk10 (by omega)
        have hx10 := (HX8.out.kept HN9.out id).kept hk10 (fun e => hbr e.symm)
        have HR10 := Lib.hid hr10
        have HK10 := Lib.hid hk10
        have HB10 := Lib.hid hb10
        have HX10 := Lib.hid hx10
        clear hr10 hk10 hb10 hx10
        have y0 := HX10.out.cell 0
        have y1 := HX10.out.cell 1
        have y2 := HX10.out.cell 2
        have y3 := HX10.out.cell 3
        have y4 := HX10.out.cell 4
        simp only [List.getElem?_toArray, List.getElem?_cons_zero, List.getElem?_cons_succ] at y0 y1 y2 y3 y4
        have z0 := HB10.out.cell 0
        have z1 := HB10.out.cell 1
        have z2 := HB10.out.cell 2
        have z3 := HB10.out.cell 3
        have z4 := HB10.out.cell 4
        simp only [List.getElem?_toArray, List.getElem?_cons_zero, List.getElem?_cons_succ] at z0 z1 z2 z3 z4
        have f0 := HB10.out.free 0
        have f1 := HB10.out.free 1
        have f2 := HB10.out.free 2
        have f3 := HB10.out.free 3
        have f4 := HB10.out.free 4
        go_wp2_with fail
        clear y0 y1 y2 y3 y4 z0 z1 z2 z3 z4 f0 f1 f2 f3 f4
        have hb9 := set5_blk HB10.out (.int .i64 (a0 : Int)) (.int .i64 (a1 : Int)) (.int .i64 (a2 : Int)) (.int .i64 (a3 : Int)) (.int .i64 (wrap64 a8))
        have hk9 := set5_kept w10 w.heap.size (.int .i64 (a0 : Int)) (.int .i64 (a1 : Int)) (.int .i64 (a2 : Int)) (.int .i64 (a3 : Int)) (.int .i64 (wrap64 a8))
        change bodyPost _ _ _ _ _ (set5 w10 w.heap.size (.int .i64 (a0 : Int)) (.int .i64 (a1 : Int)) (.int .i64 (a2 : Int)) (.int .i64 (a3 : Int)) (.int .i64 (wrap64 a8)))
        generalize set5 w10 w.heap.size (.int .i64 (a0 : Int)) (.int .i64 (a1 : Int)) (.int .i64 (a2 : Int)) (.int .i64 (a3 : Int)) (.int .i64 (wrap64 a8)) = W at *
        have v0 := hb9.cell 0
        have v1 := hb9.cell 1
        have v2 := hb9.cell 2
        have v3 := hb9.cell 3
        have v4 := hb9.cell 4
        simp only [List.getElem?_toArray, List.getElem?_cons_zero, List.getElem?_cons_succ] at v0 v1 v2 v3 v4
        refine bodyPost_ret (v := Code.agg ⟨a0, a1, a2, a3, wrap64 a8⟩) (by simp [results, Try.results64, go_sem, Code.agg, v0, v1, v2, v3, v4]) rfl ⟨⟨a0, a1, a2, a3, wrap64 a8⟩, .error (ec, p + pl), rfl, HWF.out, HR10.out.kept hk9 (by omega), HST.out _ rfl, ?_⟩
        exact (((HK7.out.trans (HN8.out.mono fun _ _ h => h.elim)).trans (HN9.out.mono fun _ _ h => h.elim)).trans HK10.out).step hk9 fun i hi e => by omega
end
end Go.Proofs.Ytaefgljpdpigeaa.Conf
