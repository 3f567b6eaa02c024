/- The walk of conf.spoilt (layer 14): at which of its bytes an instruction is wrong. -/
import Derived.Test.YtaefgljpdpigeaaConfTb
namespace Go.Proofs.Ytaefgljpdpigeaa.Conf
open Go.RowKit Go.Fb Go.CodeP Go.BytesP Go.ReaderP
set_option linter.unusedVariables false
def offB (has : Bool) (n : Int) : Bool := has && decide (8 ≤ n) || !has && n != 0
def spoiltP (x : Ins) (e : Int) : Int := if e = 9 then 0 else if offB (hasA x.op) x.a then 1 else if offB (hasB x.op) x.b then 2 else if offB (hasC x.op) x.c then 3 else 4
theorem reg_off {has : Bool} {n : Int} (h0 : 0 ≤ n) : (reg has n ≠ 0) ↔ offB has n = true := by
  unfold reg offB
  cases has
  · by_cases h : n = 0 <;> simp [h]
  · by_cases h : 8 ≤ n
    · simp [h]
    · simp [h]; omega
theorem number_nine (x : Ins) (n locks : Int) : number x n locks ≠ 9 := by unfold number; (repeat' split) <;> decide
theorem reg_nine (has : Bool) (n : Int) : reg has n ≠ 9 := by unfold reg; (repeat' split) <;> decide
theorem spoilt_wrong {x : Ins} {n locks : Int} (ha : 0 ≤ x.a) (hb : 0 ≤ x.b) (hc : 0 ≤ x.c) : spoiltP x (wrong x n locks).1 = (wrong x n locks).2 := by
  unfold wrong
  by_cases h0 : x.op < 0 ∨ 34 ≤ x.op
  · rw [if_pos h0]; rfl
  · rw [if_neg h0]
    by_cases h1 : reg (hasA x.op) x.a ≠ 0
    · rw [if_pos h1]
      unfold spoiltP
      rw [if_neg (reg_nine _ _), if_pos ((reg_off ha).1 h1)]
    · rw [if_neg h1]
      have g1 : ¬ offB (hasA x.op) x.a = true := fun h => h1 ((reg_off ha).2 h)
      by_cases h2 : reg (hasB x.op) x.b ≠ 0
      · rw [if_pos h2]
        unfold spoiltP
        rw [if_neg (reg_nine _ _), if_neg g1, if_pos ((reg_off hb).1 h2)]
      · rw [if_neg h2]
        have g2 : ¬ offB (hasB x.op) x.b = true := fun h => h2 ((reg_off hb).2 h)
        by_cases h3 : reg (hasC x.op) x.c ≠ 0
        · rw [if_pos h3]
          unfold spoiltP
          rw [if_neg (reg_nine _ _), if_neg g1, if_neg g2, if_pos ((reg_off hc).1 h3)]
        · rw [if_neg h3]
          unfold spoiltP
          rw [if_neg (number_nine _ _ _), if_neg g1, if_neg g2, if_neg (fun h => h3 ((reg_off hc).2 h))]
/-- The fields that are looked at, by number. -/
def offs (ha hb hc : Bool) (a b c : Int) (k : Nat) : Bool × Int := if k = 0 then (ha, a) else if k = 1 then (hb, b) else (hc, c)
theorem offs_cell (ha hb hc : Bool) (a b c : Int) {k : Nat} (hk : k < 3) : (#[.bool ha, .int .i64 a, .bool hb, .int .i64 b, .bool hc, .int .i64 c] : Array Value)[k * 2]? = some (.bool (offs ha hb hc a b c k).1) ∧ (#[.bool ha, .int .i64 a, .bool hb, .int .i64 b, .bool hc, .int .i64 c] : Array Value)[k * 2 + 1]? = some (.int .i64 (offs ha hb hc a b c k).2) := by
  rcases (by omega : k = 0 ∨ k = 1 ∨ k = 2) with rfl | rfl | rfl <;> exact ⟨rfl, rfl⟩
def offAt (ha hb hc : Bool) (a b c : Int) (k : Nat) : Bool := offB (offs ha hb hc a b c k).1 (offs ha hb hc a b c k).2
theorem spoilt_any (x : Ins) (e : Int) (w : World) : Calls Try.prog 77 #[Code.agg x, .int .i64 e] w fun y w' => y = .returned (.int .i64 (spoiltP x e)) ∧ New w w' := by
  by_cases h9 : e = 9
  · subst h9
    have E := Lib.hid (show spoiltP x 9 = 0 by unfold spoiltP; rw [if_pos rfl])
    obtain ⟨op, a, b, c, imm⟩ := x
    unfold Code.agg
    go_enter Try.func77, Try.ntmps77
    go_wp2_with fail
    go_ret
    exact ⟨by rw [E.out]; rfl, (Kept.refl _ _).alloc _⟩
  · have hS : spoiltP x e = if offAt (hasA x.op) (hasB x.op) (hasC x.op) x.a x.b x.c 0 then 1 else if offAt (hasA x.op) (hasB x.op) (hasC x.op) x.a x.b x.c 1 then 2 else if offAt (hasA x.op) (hasB x.op) (hasC x.op) x.a x.b x.c 2 then 3 else 4 := by
      unfold spoiltP
      rw [if_neg h9]
      rfl
    have hF := fun W => Code.fields_any x.op W
    have g9 : (e == 9) = false := by simpa using h9
    obtain ⟨op, a, b, c, imm⟩ := x
    simp only at hS hF
    generalize hasA op = ba at *
    generalize hasB op = bb at *
    generalize hasC op = bc at *
    generalize spoiltP ⟨op, a, b, c, imm⟩ e = res at *
    have hk1 : New w (w.alloc (.cells #[.int .i64 op, .int .i64 a, .int .i64 b, .int .i64 c, .int .i64 imm] 62)) := (Kept.refl _ _).alloc _
    have hb1 := Blk.made w 62 #[.int .i64 op, .int .i64 a, .int .i64 b, .int .i64 c, .int .i64 imm]
    unfold Code.agg
    have HS := Lib.hid hS
    have HF := Lib.hid hF
    have HK1 := Lib.hid hk1
    have HB1 := Lib.hid hb1
    clear hS hF hk1 hb1
    clear h9
    go_enter Try.func77, Try.ntmps77
    go_upto_region 4 with (go_at_call 81; refine (HF.out _).mono ?_; rintro e w2 ⟨rfl, hn2⟩)
    have hb2 := HB1.out.kept hn2 id
    have y1 := hb2.cell 1
    have y2 := hb2.cell 2
    have y3 := hb2.cell 3
    simp only [List.getElem?_toArray, List.getElem?_cons_zero, List.getElem?_cons_succ] at y1 y2 y3
    have HN2 := Lib.hid hn2
    have HB2 := Lib.hid hb2
    clear hn2 hb2
    have HK3 := Lib.hid ((HK1.out.trans HN2.out).alloc (.cells #[.bool ba, .int .i64 a, .bool bb, .int .i64 b, .bool bc, .int .i64 c] 101))
    have HB3 := Lib.hid (Blk.made w2 101 #[.bool ba, .int .i64 a, .bool bb, .int .i64 b, .bool bc, .int .i64 c])
    go_wp2_with fail
    clear y1 y2 y3
    go_loopw [35] (fun i wr => ∃ k : Nat, k ≤ 3 ∧ i = .int .i64 k ∧ New w wr ∧ Blk wr w2.heap.size 101 #[.bool ba, .int .i64 a, .bool bb, .int .i64 b, .bool bc, .int .i64 c] ∧ Hid (∀ j, j < k → offAt ba bb bc a b c j = false)) (fun i _ => (3 - intOf i).toNat)
    case atStart => exact ⟨0, by omega, rfl, HK3.out, HB3.out, Lib.hid fun j h => absurd h (Nat.not_lt_zero _)⟩
    case round =>
      obtain ⟨k, hk, rfl, hnr, hbr, hno⟩ := hrel
      clear HK3 HB3 HB2 HN2 HB1 HK1 HF
      by_cases hlt : k < 3
      · have x0 := (hbr.cell (k * 2)).trans (offs_cell ba bb bc a b c hlt).1
        have x1 := (hbr.cell (k * 2 + 1)).trans (offs_cell ba bb bc a b c hlt).2
        have hoff : offAt ba bb bc a b c k = offB (offs ba bb bc a b c k).1 (offs ba bb bc a b c k).2 := rfl
        have HR := Lib.hid (fun (h : offAt ba bb bc a b c k = true) => show res = (k : Int) + 1 by
          rw [HS.out]
          rcases (by omega : k = 0 ∨ k = 1 ∨ k = 2) with rfl | rfl | rfl
          · rw [if_pos h]; rfl
          · rw [if_neg (by rw [hno.out 0 (by omega)]; decide), if_pos h]; rfl
          · rw [if_neg (by rw [hno.out 0 (by omega)]; decide), if_neg (by rw [hno.out 1 (by omega)]; decide), if_pos h]; rfl)
        have HX := Lib.hid (fun (h : offAt ba bb bc a b c k = false) => show ∀ j, j < k + 1 → offAt ba bb bc a b c j = false from fun j hj => by
          by_cases e : j = k
          · subst e; exact h
          · exact hno.out j (by omega))
        generalize offAt ba bb bc a b c k = ov at *
        generalize offs ba bb bc a b c k = pr at *
        obtain ⟨has, nn⟩ := pr
        simp only at x0 x1 hoff
        have kn : New wr (wr.alloc (.cells #[.bool has, .int .i64 nn] 101)) := (Kept.refl _ _).alloc _
        have bn := Blk.made wr 101 #[.bool has, .int .i64 nn]
        have y0 := bn.cell 0
        have y1 := bn.cell 1
        simp only [List.getElem?_toArray, List.getElem?_cons_zero, List.getElem?_cons_succ] at y0 y1
        have HB4 := Lib.hid (hbr.kept kn id)
        have HN4 := Lib.hid (hnr.trans kn)
        have hadd : IntKind.i64.wrap (1 + (k : Int)) = 1 + (k : Int) := IntWalk.i64_in _ (by omega)
        clear hno hnr hbr kn bn
        cases has with
        | true =>
          by_cases h8 : 8 ≤ nn
          · have E := Lib.hid (HR.out (by rw [hoff]; simp [offB, h8]))
            clear hoff HX
            go_wp2_with fail
            go_ret
            refine ⟨?_, HN4.out⟩
            rw [E.out]
            exact Code.ret_int (by omega)
          · have E := Lib.hid (HX.out (by rw [hoff]; simp [offB]; omega))
            have h8' : nn < 8 := by omega
            clear hoff HR h8
            go_wp2_with fail
            go_roundw
            case rel => exact ⟨k + 1, by omega, by go_num, HN4.out, HB4.out, E⟩
            case measure => simp [intOf]; omega
        | false =>
          by_cases h0 : nn = 0
          · subst h0
            have E := Lib.hid (HX.out (by rw [hoff]; simp [offB]))
            clear hoff HR
            go_wp2_with fail
            go_roundw
            case rel => exact ⟨k + 1, by omega, by go_num, HN4.out, HB4.out, E⟩
            case measure => simp [intOf]; omega
          · have h0' : (nn != 0) = true := by simpa using h0
            have E := Lib.hid (HR.out (by rw [hoff]; simp [offB, h0]))
            clear hoff HX h0
            go_wp2_with fail
            go_ret
            refine ⟨?_, HN4.out⟩
            rw [E.out]
            exact Code.ret_int (by omega)
      · obtain rfl : k = 3 := by omega
        have E := Lib.hid (show res = 4 by rw [HS.out, if_neg (by rw [hno.out 0 (by omega)]; decide), if_neg (by rw [hno.out 1 (by omega)]; decide), if_neg (by rw [hno.out 2 (by omega)]; decide)])
        have HNR := Lib.hid hnr
        clear hnr hbr hno
        go_wp2_with fail
        go_ret
        exact ⟨by rw [E.out]; rfl, HNR.out⟩
end Go.Proofs.Ytaefgljpdpigeaa.Conf
