/- The walk of package valid's holds (layer 8). -/
import Derived.Test.YtjhiaicpgajeoaaValidL
import Derived.Test.YtjhiaicpgajeoaaMapI
namespace Go.Fb
open Go.RowKit Go.Maps
/-- 'v, ok := m[k]'. -/
theorem MapF.look2 {P : Program} {K E T : TypeId} {w : World} {b n : Nat} {f : Int → Option Int} (h : MapF P K E w b n f) (hT : P.underlying T = some (.map K E)) (hK : P.underlying K = some (.int .i64)) (hE : P.underlying E = some (.int .i64)) (hz : ∀ W, (zeroValue E).run P W = .ok (.int .i64 0) W) {x : Int} (hx : (Lit.int .i64 x).wf = true) :
    (Instr.lookup T (.map (some b)) (.int .i64 x) true).run P w = .ok (.tuple #[.int .i64 ((f x).getD 0), .bool (f x).isSome]) w := by
  obtain ⟨D, h1, h2, h3⟩ := h
  obtain ⟨v, ps, hrun, hv⟩ := h1.look_ok (int_keyed hK) hT (hz w) (plainElem_int hE (by decide)) (MapF.key_of hK hx)
  obtain ⟨c, rfl, hc, hwc⟩ := plainElem_int_inv hE hv
  obtain ⟨e1, e2⟩ := h3 x hx
  have h4 := congrArg Prod.fst hc
  simp only at h4
  have : c = (f x).getD 0 := by
    cases hf : f x with
    | none =>
      rw [hf] at e1
      rw [atKey_of_not_has e1] at h4
      injection h4 with h4
      injection h4 with _ h4
      exact h4.symm
    | some u =>
      rw [e2 u hf] at h4
      injection h4 with h4
      injection h4 with _ h4
      exact h4.symm
  rw [hrun, this, e1]
end Go.Fb
namespace Go.Proofs.Ytjhiaicpgajeoaa.Valid
open Go.RowKit Go.Fb Go.BytesP Go.CodeP Go.ValidP
open Go.Proofs.Ytjhiaicpgajeoaa.Code (repIns ins_at ins_wf)
set_option linter.unusedVariables false
/-- The holds of a program, in a map. -/
structure HoldsI (l : List Ins) (bo i : Nat) (g : Int → Option Int) (W : World) : Prop where
  map : MapF Try.prog 3 3 W bo i g
  tells : ∀ q : Nat, q < i → ∀ v, g (q : Int) = some v ↔ Hold l q v
  rest : ∀ q : Nat, i ≤ q → g (q : Int) = none
theorem HoldsI.new {l : List Ins} {bo i : Nat} {g : Int → Option Int} {W W' : World} (h : HoldsI l bo i g W) (hn : New W W') : HoldsI l bo i g W' := ⟨h.map.new hn, h.tells, h.rest⟩
theorem MapF.le {P : Program} {K E : TypeId} {w : World} {b n m : Nat} {f : Int → Option Int} (h : MapF P K E w b n f) (hnm : n ≤ m) : MapF P K E w b m f := by
  obtain ⟨D, ⟨es, clock, hb, h1, h2, h3⟩, h4⟩ := h
  exact ⟨D, ⟨es, clock, hb, h1, by omega, h3⟩, h4⟩
theorem HoldsI.skip {l : List Ins} {bo i : Nat} {g : Int → Option Int} {W : World} (h : HoldsI l bo i g W) (hn : ∀ v, ¬ Hold l i v) : HoldsI l bo (i + 1) g W := by
  refine ⟨MapF.le h.map (by omega), fun q hq v => ?_, fun q hq => h.rest q (by omega)⟩
  by_cases e : q = i
  · subst e
    rw [h.rest q (Nat.le_refl _)]
    exact ⟨fun e => (by cases e), fun e => absurd e (hn v)⟩
  · exact h.tells q (by omega) v
theorem HoldsI.put {l : List Ins} {bo i : Nat} {g : Int → Option Int} {W W' : World} {v : Int} (h : HoldsI l bo i g W) (hv : Hold l i v) (hm : MapF Try.prog 3 3 W' bo (i + 1) (fun y => if y = (i : Int) then some v else g y)) : HoldsI l bo (i + 1) (fun y => if y = (i : Int) then some v else g y) W' := by
  refine ⟨hm, fun q hq u => ?_, fun q hq => ?_⟩
  · by_cases e : q = i
    · subst e
      rw [if_pos rfl]
      exact ⟨fun e => by injection e with e; subst e; exact hv, fun e => by rw [hv.det e]⟩
    · rw [if_neg (by omega)]
      exact h.tells q (by omega) u
  · rw [if_neg (by omega)]
    exact h.rest q (by omega)
set_option maxHeartbeats 2000000 in
theorem holds_any {A : Option Addr} {n c : Nat} {l : List Ins} {w : World} {locks : Int} {bm k : Nat} {f : Stand → Option Int} (hl : SliceOf repIns w w.heap.size A n c l) (hk : locks ≤ 8) (hc : ∀ x ∈ l, check x l.length locks = 0) (hn : n ≤ 256) (hfine : ∀ s, ValidP.Reach l s → wrongS l s = 0)
    (hm : MapS Try.prog 61 3 w bm k f) (hf : ∀ s, (f s).isSome = true ↔ ValidP.Reach l s) :
    Calls Try.prog 20 #[.slice A n c, .map (some bm)] w fun e w' => New w w' ∧ ∃ bo g, e = .returned (.map (some bo)) ∧ HoldsI l bo l.length g w' := by
  have hln := hl.len
  have hbd := hl.bound
  have hl256 : l.length ≤ 256 := by omega
  have HLG := Lib.hid (fun bu h => @longest_any A n c l w locks bu hl hk hc hn h hfine 65792)
  have HLW := Lib.hid (fun W (hW : New w W) => (hl.kept hW (Nat.le_refl _) (fun _ _ h => h)))
  have HMW := Lib.hid (fun W (hW : New w W) => hm.new hW)
  have HOK := Lib.hid (fun s h => ok_small (l := l) (s := s) hl256 h)
  have HAB := Lib.hid (fun s v h1 h2 => Answer.bound hk hc hl256 (s := s) (v := v) h1 h2)
  have HSMA := Lib.hid (fun s (h : ValidP.Reach l s) => h.small hk hc)
  have HNB := Lib.hid (fun x hx => number_bounds (hc x hx))
  have hmm := @run_makeMap Try.prog
  have HL := Lib.hid hl
  have HC := Lib.hid hc
  have HLN := Lib.hid hln
  have HFINE := Lib.hid hfine
  have HM := Lib.hid hm
  have HF := Lib.hid hf
  clear hl hc hln hfine hm hf
  go_enter Try.func20, Try.ntmps20
  go_wp2_with fail
  have hmb := (((MapS.made (P := Try.prog) (K := 61) (E := 3) w).new ((Kept.refl _ _).alloc (.cells #[.slice A n c, .map (some w.heap.size)] 66))).new ((Kept.refl _ _).alloc (.map #[] 0)))
  have hbr := (Blk.made_at (w.alloc (.map #[] 0)) 66 #[.slice A n c, .map (some w.heap.size)] (w.heap.size + 1) (size1 _ _)).alloc (.map #[] 0)
  have hmo := MapF.made (P := Try.prog) (K := 3) (E := 3) ((w.alloc (.map #[] 0)).alloc (.cells #[.slice A n c, .map (some w.heap.size)] 66))
  rw [size_al, size_al] at hmo
  have hn3 : New w (((w.alloc (.map #[] 0)).alloc (.cells #[.slice A n c, .map (some w.heap.size)] 66)).alloc (.map #[] 0)) := (((Kept.refl _ _).alloc _).alloc _).alloc _
  have hM3 : MeI l w.heap.size (fun _ => none) [] [] (((w.alloc (.map #[] 0)).alloc (.cells #[.slice A n c, .map (some w.heap.size)] 66)).alloc (.map #[] 0)) := ⟨⟨0, hmb, by simp⟩, fun s => by simp, by simp, by simp, Memo.empty l⟩
  have hH3 : HoldsI l (w.heap.size + 1 + 1) 0 (fun _ => none) (((w.alloc (.map #[] 0)).alloc (.cells #[.slice A n c, .map (some w.heap.size)] 66)).alloc (.map #[] 0)) := ⟨hmo, fun q hq => absurd hq (Nat.not_lt_zero _), fun q _ => rfl⟩
  generalize ((w.alloc (.map #[] 0)).alloc (.cells #[.slice A n c, .map (some w.heap.size)] 66)).alloc (.map #[] 0) = w3 at *
  obtain ⟨bu, hbu⟩ : ∃ bu, bu = w.heap.size := ⟨_, rfl⟩
  rw [← hbu] at hbr hM3 hH3 ⊢
  have hreg : ∀ bu', bu' = bu → w.heap.size ≤ bu' := fun bu' e => by omega
  have HBU := Lib.hid hbu
  have HM3 := Lib.hid hM3
  have HH3 := Lib.hid hH3
  have HN3 := Lib.hid hn3
  have HBR := Lib.hid hbr
  have HREG := Lib.hid hreg
  clear hbu hM3 hH3 hn3 hbr hreg
  clear hmb hmo hmm
  go_loopw [18] (fun s wr => ∃ (i : Nat) (u : Stand → Option Int) (U : List Stand) (g : Int → Option Int), i ≤ n ∧ s = .int .i64 i ∧ New w wr ∧ MeI l bu u U [] wr ∧ HoldsI l (bu + 1 + 1) i g wr ∧ Blk wr (bu + 1) 66 #[.slice A n c, .map (some bu)]) (fun s _ => (n - intOf s).toNat)
  case atStart => exact ⟨0, _, _, _, Nat.zero_le _, rfl, HN3.out, HM3.out, HH3.out, HBR.out⟩
  case round =>
    obtain ⟨i, u, U, g, hi, rfl, hnr, hMr, hHr, hbr⟩ := hrel
    by_cases hlt : i < n
    · have hil : i < l.length := by have := HLN.out; omega
      obtain ⟨b, o, rfl, hb, hcs⟩ := ins_at (HLW.out wr hnr) (by omega)
      obtain ⟨c0, c1, c2, c3, c4⟩ := hcs i hil
      have hnb := HNB.out _ (List.getElem_mem hil)
      have hxg : l[i]? = some l[i] := List.getElem?_eq_getElem hil
      have hi256 : i ≤ 256 := by omega
      generalize l[i] = x at *
      obtain ⟨op, xa, xb, xc, imm⟩ := x
      simp only at c0 c1 c2 c3 c4 hnb
      have hal : New wr ((wr.alloc (.cells #[.int .i64 op, .int .i64 xa, .int .i64 xb, .int .i64 xc, .int .i64 imm] 25)).alloc (.cells #[.int .i64 i, .int .u64 0] 61)) := ((Kept.refl _ _).alloc _).alloc _
      have hb1 := (Blk.made wr 25 #[.int .i64 op, .int .i64 xa, .int .i64 xb, .int .i64 xc, .int .i64 imm]).alloc (.cells #[.int .i64 i, .int .u64 0] 61)
      have hb2 := Blk.made_at (wr.alloc (.cells #[.int .i64 op, .int .i64 xa, .int .i64 xb, .int .i64 xc, .int .i64 imm] 25)) 61 #[.int .i64 i, .int .u64 0] (wr.heap.size + 1) (size1 _ _)
      have HNB := Lib.hid hnb
      have HXG := Lib.hid hxg
      have HNR := Lib.hid hnr
      have HMR := Lib.hid hMr
      have HHR := Lib.hid hHr
      have HBR1 := Lib.hid hbr
      have HAL := Lib.hid hal
      have HB1 := Lib.hid hb1
      have HB2 := Lib.hid hb2
      have HCS := Lib.hid hcs
      clear hnb hxg hnr hMr hHr hbr hal hb1 hb2 hcs
      clear hb
      go_upto_region 7 with (fail)
      generalize (wr.alloc (.cells #[.int .i64 op, .int .i64 xa, .int .i64 xb, .int .i64 xc, .int .i64 imm] 25)).alloc (.cells #[.int .i64 i, .int .u64 0] 61) = w4 at *
      generalize wr.heap.size = bx at *
      have hn4 := HNR.out.trans HAL.out
      have hsmi : Small l (i, 0) := ⟨by show i ≤ _; omega, by show 0 < 256; decide⟩
      obtain ⟨cv, hlook0, -, -⟩ := (HMW.out _ hn4).look (T := 48) Try.underlying48 keyS Try.underlying3 (fun W => by kernel_rfl) (HOK.out _ hsmi)
      have hlook : (Instr.lookup 48 (.map (some bm)) (.agg #[.int .i64 i, .int .u64 0]) true).run Try.prog w4 = .ok (.tuple #[.int .i64 cv, .bool (f (i, 0)).isSome]) w4 := hlook0
      clear hlook0
      have y0 := HB1.out.cell 0
      have y4 := HB1.out.cell 4
      have z0 := HB2.out.cell 0
      have z1 := HB2.out.cell 1
      simp only [List.getElem?_toArray, List.getElem?_cons_zero, List.getElem?_cons_succ] at y0 y4 z0 z1
      by_cases hre : ValidP.Reach l (i, 0)
      · rw [(HF.out _).2 hre] at hlook
        by_cases ho : op = 29
        · subst ho
          have him := HNB.out.2 (.inl rfl)
          have pw := pow_u64 him.1 (by omega : imm < 8)
          obtain ⟨hq, hhq⟩ : ∃ hq, hq = 2 ^ imm.toNat := ⟨_, rfl⟩
          rw [← hhq] at pw
          have hnx : (i + 1, hq) ∈ nexts l (i, 0) := by
            unfold nexts
            simp only [HXG.out]
            rw [if_neg (by decide), if_neg (by decide), if_neg (by decide), if_pos trivial, List.mem_singleton, hhq]
            unfold lockB
            rw [Nat.zero_or]
          have hre2 : ValidP.Reach l (i + 1, hq) := .next hre (HFINE.out _ hre) hnx
          have hrec : ∀ W, New w4 W → Calls Try.prog 29 #[.agg #[.slice (some ⟨b, o, none⟩) n c, .map (some bu)], .agg #[.int .i64 ((i : Int) + 1), .int .u64 (hq : Int)]] W (Told l (i + 1, hq) bu U [] W) := fun W hW =>
            HLG.out bu (by rw [HBU.out]; exact Nat.le_refl _) (hn4.trans hW) ((HMR.out.new HAL.out).new hW) (by omega) (fun a ha => by cases ha) hre2
          have hhold : ∀ v, Answer l (i + 1, hq) v → Hold l i v := fun v hv => ⟨_, HXG.out, rfl, hre, by rw [hhq] at hv; exact hv⟩
          have hbd : ∀ v, Answer l (i + 1, hq) v → -1 ≤ v ∧ v ≤ 65792 := fun v hv => HAB.out _ v (HSMA.out _ hre2) hv
          have x0 := (HBR1.out.kept HAL.out id).cell 0
          have x1 := (HBR1.out.kept HAL.out id).cell 1
          simp only [List.getElem?_toArray, List.getElem?_cons_zero, List.getElem?_cons_succ] at x0 x1
          have him0 : 0 ≤ imm := him.1
          have him8 : imm ≤ 7 := by omega
          have sw : IntKind.i64.wrap ((i : Int) + 1) = (i : Int) + 1 := by rw [IntKind.wrap_i64]; omega
          have HN4 := Lib.hid hn4
          have HSMI := Lib.hid hsmi
          have HRE := Lib.hid hre
          have HHQ := Lib.hid hhq
          have HNX := Lib.hid hnx
          have HRE2 := Lib.hid hre2
          have HREC := Lib.hid hrec
          have HHOLD := Lib.hid hhold
          have HBD := Lib.hid hbd
          have HIM := Lib.hid him
          clear hsmi hre hhq hnx hre2 hrec hhold hbd him
          clear hn4
          go_upto_region 9 with (fail)
          have hup : ∀ W7 v, Kept (fun j => j = bu) w4 W7 → -1 ≤ v ∧ v ≤ 65792 → ∃ w8, (Instr.mapUpdate 41 (.map (some (bu + 1 + 1))) (.int .i64 (i : Int)) (.int .i64 v)).run Try.prog W7 = .ok () w8 ∧ MapF Try.prog 3 3 w8 (bu + 1 + 1) (i + 1) (fun y => if y = (i : Int) then some v else g y) ∧ Kept (fun j => j = bu + 1 + 1) W7 w8 := fun W7 v hk hv =>
            ((HHR.out.map.new HAL.out).kept hk (by omega)).update Try.underlying41 Try.underlying3 Try.underlying3 (by unfold maxLen; omega) (by simp [Lit.wf, IntKind.min, IntKind.max, IntKind.signed, IntKind.bits]; omega) (by simp [Lit.wf, IntKind.min, IntKind.max, IntKind.signed, IntKind.bits]; omega)
          have HUP := Lib.hid hup
          clear hup
          go_region_with (go_at_call 29; refine (HREC.out _ (by with_reducible first | exact Kept.refl _ _ | exact Kept.drew (Kept.refl _ _) | assumption)).mono ?_; rintro e w7 ⟨v, u2, U2, rfl, hans, hk7, hM7, -, -⟩; obtain ⟨w8, hup, hmp8, hk8⟩ := HUP.out w7 v (by first | exact hk7 | exact ((Kept.refl _ _).drew).trans hk7) (HBD.out v hans); have HANS := Lib.hid hans; have HK7 : Hid (Kept (fun j => j = bu) w4 w7) := Lib.hid (by first | exact hk7 | exact ((Kept.refl _ _).drew).trans hk7); have HM7 := Lib.hid hM7; have HMP8 := Lib.hid hmp8; have HK8 := Lib.hid hk8; clear hans hk7 hM7 hmp8 hk8)
          all_goals
            go_wp2_with fail
            go_roundw
            case rel =>
              have hge : w.heap.size ≤ bu := by rw [HBU.out]; exact Nat.le_refl _
              have hN7 : New w w7 := HN4.out.step HK7.out fun j hj e => by omega
              have hN8 : New w w8 := hN7.step HK8.out fun j hj e => by omega
              have hM8 : MeI l bu u2 U2 [] w8 := by
                obtain ⟨⟨nn, h1, h2⟩, h3, h4, h5, h6⟩ := HM7.out
                exact ⟨⟨nn, h1.kept HK8.out (by omega), h2⟩, h3, h4, h5, h6⟩
              exact ⟨i + 1, u2, U2, _, by omega, by go_num, hN8, hM8, HHR.out.put (HHOLD.out v HANS.out) HMP8.out, ((HBR1.out.kept HAL.out id).kept HK7.out (by omega)).kept HK8.out (by omega)⟩
            case measure => simp [intOf]; omega
        · have ho2 : (op == 29) = false := by simpa using ho
          have hskip : ∀ v, ¬ Hold l i v := fun v ⟨x, h1, h2, h3, h4⟩ => by
            rw [HXG.out] at h1
            injection h1 with h1
            rw [← h1] at h2
            exact ho h2
          have hH5 := (HHR.out.new HAL.out).skip hskip
          have HN4 := Lib.hid hn4
          have HSMI := Lib.hid hsmi
          have HSKIP := Lib.hid hskip
          have HH5 := Lib.hid hH5
          have HRE := Lib.hid hre
          have HO := Lib.hid ho
          clear hn4 hsmi hskip hH5 hre ho
          go_wp2_with fail
          go_roundw
          case rel => exact ⟨i + 1, u, U, g, by omega, by go_num, HN4.out, HMR.out.new HAL.out, HH5.out, HBR1.out.kept HAL.out id⟩
          case measure => simp [intOf]; omega
      · have hff : (f (i, 0)).isSome = false := by
          cases hq : (f (i, 0)).isSome with
          | false => rfl
          | true => exact absurd ((HF.out _).1 hq) hre
        rw [hff] at hlook
        have hskip : ∀ v, ¬ Hold l i v := fun v ⟨x, h1, h2, h3, h4⟩ => hre h3
        have hH5 := (HHR.out.new HAL.out).skip hskip
        have HN4 := Lib.hid hn4
        have HSMI := Lib.hid hsmi
        have HSKIP := Lib.hid hskip
        have HH5 := Lib.hid hH5
        have HRE := Lib.hid hre
        have HFF := Lib.hid hff
        clear hn4 hsmi hskip hH5 hre hff
        go_wp2_with fail
        go_roundw
        case rel => exact ⟨i + 1, u, U, g, by omega, by go_num, HN4.out, HMR.out.new HAL.out, HH5.out, HBR1.out.kept HAL.out id⟩
        case measure => simp [intOf]; omega
    · obtain rfl : i = n := by omega
      have HNR := Lib.hid hnr
      have HMR := Lib.hid hMr
      have HHR := Lib.hid hHr
      have HBR := Lib.hid hbr
      clear hnr hMr hHr hbr
      go_wp2_with fail
      go_ret
      exact ⟨HNR.out, bu + 1 + 1, g, rfl, by rw [← HLN.out]; exact HHR.out⟩
end Go.Proofs.Ytjhiaicpgajeoaa.Valid
