/- The walk of package valid's stands (layer 8): the search for all stands. -/
import Derived.Test.YtjhiaicpgajeoaaValidW
import Derived.Test.YtjhiaicpgajeoaaValidV
import Derived.WalkMore
namespace Go.Proofs.Ytjhiaicpgajeoaa.Valid
open Go.RowKit Go.Fb Go.BytesP Go.CodeP Go.ValidP
open Go.Proofs.Ytjhiaicpgajeoaa.Code (repIns)
set_option linter.unusedVariables false
def cellsS (s : Stand) : List Value := [.int .i64 s.1, .int .u64 s.2]
theorem tyStands : SliceTy Try.prog 62 61 2 16 := by
  obtain ⟨i, hi, hz, hs, hb⟩ := info_parts (P := Try.prog) (e := 61) (z := .agg #[.int .i64 0, .int .u64 0]) (size := 2) (bytes := 16) (by kernel_rfl)
  exact ⟨Try.underlying62, ⟨i, _, hi, hz, hs, hb, rfl⟩, by decide⟩
theorem cellsS_one (s : Stand) : ∀ u ∈ cellsS s, u.oneCell' = true := by
  intro u hu
  simp only [cellsS, List.mem_cons, List.not_mem_nil, or_false] at hu
  rcases hu with rfl | rfl <;> rfl
theorem ok_small {l : List Ins} (hl : l.length ≤ 256) {s : Stand} (h : Small l s) : OkS s := by
  unfold Small at h
  exact ⟨by omega, by omega⟩
/-- How the search stands in memory. -/
structure StI (l : List Ins) (w : World) (bm : Nat) (L T : List Stand) (bad : Int) (at_ : Nat) (r : Option Nat) (A : Option Addr) (m c : Nat) (W : World) : Prop where
  new : New w W
  map : ∃ f, MapS Try.prog 61 3 W bm L.length f ∧ ∀ s, (f s).isSome = decide (s ∈ L)
  row : Row W 2 r A m c (T.flatMap cellsS)
  len : m = T.length
  far : ∀ k, r = some k → bm < k
  base : w.heap.size ≤ bm
  nodL : L.Nodup
  small : ∀ s ∈ L, Small l s
  nodT : T.Nodup
  zero : bad = 0 → at_ = 0
theorem flat_last (T : List Stand) (s : Stand) : (T ++ [s]).flatMap cellsS = T.flatMap cellsS ++ cellsS s := by rw [List.flatMap_append]; simp
theorem flat_len (T : List Stand) : (T.flatMap cellsS).length = T.length * 2 := flatMap_len T fun _ _ => rfl
namespace StI
variable {l : List Ins} {w W W' : World} {bm : Nat} {L T : List Stand} {bad bad' : Int} {at_ at' : Nat} {r : Option Nat} {A : Option Addr} {m c k : Nat} {s t : Stand}
theorem pop (h : StI l w bm L (T ++ [s]) bad at_ r A (k + 1) c W) (hn : New W W') (hz : bad' = 0 → at' = 0) : StI l w bm L T bad' at' r A k c W' := by
  have hk : k = T.length := by have := h.len; rw [List.length_append, List.length_singleton] at this; omega
  refine ⟨h.new.trans hn, ?_, ?_, hk, h.far, h.base, h.nodL, h.small, (List.nodup_append.1 h.nodT).1, hz⟩
  · obtain ⟨f, h1, h2⟩ := h.map
    exact ⟨f, h1.new hn, h2⟩
  · have := (h.row.new (by decide) hn).head (k := k) (by omega)
    rw [flat_last, List.take_append_of_le_length (by rw [flat_len, hk]; exact Nat.le_refl _), List.take_of_length_le (by rw [flat_len, hk]; exact Nat.le_refl _)] at this
    exact this
theorem keep (h : StI l w bm L T bad at_ r A m c W) (hn : New W W') : StI l w bm L T bad at_ r A m c W' := by
  refine ⟨h.new.trans hn, ?_, h.row.new (by decide) hn, h.len, h.far, h.base, h.nodL, h.small, h.nodT, h.zero⟩
  obtain ⟨f, h1, h2⟩ := h.map
  exact ⟨f, h1.new hn, h2⟩
theorem push (h : StI l w bm L T bad at_ r A m c W) (ht : t ∉ L) (htT : t ∉ T) (hsm : Small l t) {f : Stand → Option Int} {v : Int} (hf : ∀ s, (f s).isSome = decide (s ∈ L)) (hmap : MapS Try.prog 61 3 W' bm (L.length + 1) (fun y => if y = t then some v else f y))
    {r' : Option Nat} {A' : Option Addr} {c' B : Nat} (hrow : Row W' 2 r' A' (m + 1) c' (T.flatMap cellsS ++ cellsS t)) (hr : ∀ k, r' = some k → r = some k ∨ B ≤ k) (hB : bm < B) (hn : New w W') : StI l w bm (L ++ [t]) (T ++ [t]) bad at_ r' A' (m + 1) c' W' := by
  refine ⟨hn, ⟨_, by rw [List.length_append, List.length_singleton]; exact hmap, fun s => ?_⟩, by rw [flat_last]; exact hrow, by rw [List.length_append, List.length_singleton, h.len], fun k hk => ?_, h.base, ?_, ?_, ?_, h.zero⟩
  · by_cases e : s = t
    · simp [e]
    · rw [if_neg e, hf]
      simp [e]
  · rcases hr k hk with e | e
    · exact h.far k e
    · omega
  · exact List.nodup_append.2 ⟨h.nodL, by simp, fun a ha b hb e => by rw [List.mem_singleton.1 hb] at e; exact ht (e ▸ ha)⟩
  · intro s hs
    rcases List.mem_append.1 hs with hs | hs
    · exact h.small s hs
    · rw [List.mem_singleton.1 hs]; exact hsm
  · exact List.nodup_append.2 ⟨h.nodT, by simp, fun a ha b hb e => by rw [List.mem_singleton.1 hb] at e; exact htT (e ▸ ha)⟩
end StI
theorem here_iff {L T : List Stand} {s : Stand} : ∀ x, x ∈ T ++ [s] → x = s ∨ x ∈ T := fun x hx => by
  rcases List.mem_append.1 hx with h | h
  · exact .inr h
  · exact .inl (List.mem_singleton.1 h)
set_option maxHeartbeats 1000000 in
theorem stands_any {A : Option Addr} {n c : Nat} {l : List Ins} {w : World} {locks : Int} (hl : SliceOf repIns w w.heap.size A n c l) (hk : locks ≤ 8) (hc : ∀ x ∈ l, check x l.length locks = 0) (hn : n ≤ 256) :
    Calls Try.prog 19 #[.slice A n c] w fun e w' => New w w' ∧ ∃ bm k f bad at_, e = .returned (.tuple #[.map (some bm), .int .i64 bad, .int .i64 (at_ : Nat)]) ∧ MapS Try.prog 61 3 w' bm k f ∧ k ≤ 65792 ∧ w.heap.size ≤ bm ∧ (∀ s, (f s).isSome = true ↔ ValidP.Reach l s) ∧ First l bad at_ ∧ (bad = 0 → at_ = 0) := by
  have hln := hl.len
  have hbd := hl.bound
  have HWR := Lib.hid (fun W (hW : New w W) p h hs => wrong_any (p := p) (h := h) (w := W) (hl.kept hW (Nat.le_refl _) (fun _ _ h => h) |>.more hW.size) hs hk hc hn)
  have HNX := Lib.hid (fun W (hW : New w W) p h hs => next_any (p := p) (h := h) (w := W) (hl.kept hW (Nat.le_refl _) (fun _ _ h => h) |>.more hW.size) hs hk hc hn)
  have hl256 : l.length ≤ 256 := by omega
  have HCNT := Lib.hid (fun L h1 h2 => small_count (L := L) hl256 h1 h2)
  have HOK := Lib.hid (fun s h => ok_small (s := s) hl256 h)
  have hmm := @run_makeMap Try.prog
  have hmap := MapS.made (P := Try.prog) (K := 61) (E := 3) w
  obtain ⟨w1, hup, hmap1, hk1⟩ := hmap.update (T := 48) Try.underlying48 keyS Try.underlying3 (by unfold maxLen; omega) (s := (0, 0)) (v := 0) (HOK.out _ ⟨Nat.zero_le _, by decide⟩) (by decide)
  have hup0 : (Instr.mapUpdate 48 (.map (some w.heap.size)) (.agg #[.int .i64 0, .int .u64 0]) (.int .i64 0)).run Try.prog (w.alloc (.map #[] 0)) = .ok () w1 := hup
  have hn1 : New w w1 := ((Kept.refl _ _).alloc _).step hk1 fun k hk e => by omega
  clear hup hmap
  have HL := Lib.hid hl
  have HC := Lib.hid hc
  have HLN := Lib.hid hln
  have HMAP1 := Lib.hid hmap1
  have HK1 := Lib.hid hk1
  have HN1 := Lib.hid hn1
  clear hl hc hln hmap1 hk1 hn1
  go_enter Try.func19, Try.ntmps19
  go_wp2_with fail
  go_step3
  go_wp2_with fail
  go_step3
  have hal : New w (w1.alloc (.cells #[.int .i64 0, .int .u64 0] 61)) := HN1.out.alloc _
  have hrow0 : Row (w1.alloc (.cells #[.int .i64 0, .int .u64 0] 61)) 2 (some w1.heap.size) (some ⟨w1.heap.size, 0, none⟩) 1 1 ([(0, 0)].flatMap cellsS) := Row.of_made w1 [.int .i64 0, .int .u64 0] rfl (by unfold maxLen; omega) (by omega)
  have hm0 := HMAP1.out.new ((Kept.refl _ _).alloc (.cells #[.int .i64 0, .int .u64 0] 61))
  obtain ⟨bm, hbm⟩ : ∃ bm, bm = w.heap.size := ⟨_, rfl⟩
  have hsz : w.heap.size < w1.heap.size := by have := HK1.out.size; rw [size_al] at this; omega
  rw [← hbm] at hm0 ⊢
  have hst0 : StI l w bm [(0, 0)] [(0, 0)] 0 0 (some w1.heap.size) (some ⟨w1.heap.size, 0, none⟩) 1 1 (w1.alloc (.cells #[.int .i64 0, .int .u64 0] 61)) :=
    ⟨hal, ⟨_, hm0, fun s => by by_cases e : s = (0, 0) <;> simp [e]⟩, hrow0, rfl, fun k e => by injection e with e; omega, by omega, by simp, fun s hs => by simp at hs; subst hs; exact ⟨Nat.zero_le _, by decide⟩, by simp, fun _ => rfl⟩
  generalize w1.alloc (.cells #[.int .i64 0, .int .u64 0] 61) = w2 at *
  have HST0 := Lib.hid hst0
  have HBM := Lib.hid hbm
  clear hst0 hbm
  clear hup0 hmm hal hrow0 hm0 hsz HK1 HN1 HMAP1
  go_wp2_with fail
  go_loopg [6, 7, 8] 131584 (fun g s6 s7 s8 wr => ∃ (L T : List Stand) (bad : Int) (at_ : Nat) (r : Option Nat) (A' : Option Addr) (m c' : Nat), s6 = .slice A' m c' ∧ s7 = .int .i64 bad ∧ s8 = .int .i64 (at_ : Nat) ∧ StI l w bm L T bad at_ r A' m c' wr ∧ Search l (· ∈ L) (· ∈ T) bad at_ ∧ 2 * (65792 - L.length) + m ≤ g)
  case atStart => exact ⟨_, _, 0, 0, _, _, _, _, rfl, rfl, rfl, HST0.out, by simpa using Search.start l, by simp⟩
  case round =>
    obtain ⟨L, T, bad, at_, r, A', m, c', rfl, rfl, rfl, hS, hSe, hg⟩ := hrel
    by_cases h0 : m = 0
    · subst h0
      have hrb := hS.row.bound
      have HS := Lib.hid hS
      have HSE := Lib.hid hSe
      clear hS hSe
      go_wp2_with fail
      rw [Exit.noGoto_ret]
      refine bodyPost_ret (results_tmp3 rfl _ _ _) rfl ?_
      have hT : T = [] := List.eq_nil_of_length_eq_zero HS.out.len.symm
      obtain ⟨h1, h2⟩ := HSE.out.all fun s hs => by rw [hT] at hs; cases hs
      obtain ⟨f, h3, h4⟩ := HS.out.map
      exact ⟨HS.out.new, bm, _, f, bad, at_, rfl, h3, HCNT.out L HS.out.nodL HS.out.small, by rw [HBM.out]; exact Nat.le_refl _, fun s => by rw [h4, decide_eq_true_eq]; exact h1 s, h2, HS.out.zero⟩
    · have hT : T ≠ [] := fun e => h0 (by rw [hS.len, e]; rfl)
      obtain ⟨T', ⟨p, q⟩, rfl⟩ : ∃ T' s, T = T' ++ [s] := ⟨T.dropLast, T.getLast hT, (List.dropLast_concat_getLast hT).symm⟩
      obtain ⟨k, hk⟩ : ∃ k, k = T'.length := ⟨_, rfl⟩
      obtain rfl : m = k + 1 := by rw [hS.len, hk]; simp
      have hrb := hS.row.bound
      obtain ⟨gb, o, rfl, rfl, hcl, -⟩ := hS.row.at_pos (by omega)
      have x0 := hcl (k * 2) (by omega)
      have x1 := hcl (k * 2 + 1) (by omega)
      rw [flat_last, List.getElem?_append_right (by rw [flat_len, ← hk]; omega), flat_len, ← hk] at x0 x1
      rw [show k * 2 - k * 2 = 0 by omega] at x0
      rw [show k * 2 + 1 - k * 2 = 1 by omega] at x1
      simp only [cellsS, List.getElem?_cons_zero, List.getElem?_cons_succ] at x0 x1
      rw [← Nat.add_assoc] at x1
      have hml := HCNT.out _ hS.nodT fun s hs => hS.small s (hSe.wait s hs)
      rw [List.length_append, List.length_singleton, ← hk] at hml
      have HS := Lib.hid hS
      have HSE := Lib.hid hSe
      have HG := Lib.hid hg
      have HK := Lib.hid hk
      clear hS hSe hg hk
      clear hcl hT
      have hsm := HS.out.small _ (HSE.out.wait (p, q) (List.mem_append_right _ (List.mem_singleton.2 rfl)))
      have hpl : p ≤ 256 := Nat.le_trans hsm.1 hl256
      go_wp2_with fail
      have hbs := Blk.made wr 61 #[.int .i64 p, .int .u64 q]
      have hal : New wr (wr.alloc (.cells #[.int .i64 p, .int .u64 q] 61)) := (Kept.refl _ _).alloc _
      generalize wr.alloc (.cells #[.int .i64 p, .int .u64 q] 61) = w3 at *
      obtain ⟨bs, hbsz⟩ : ∃ bs, bs = wr.heap.size := ⟨_, rfl⟩
      rw [← hbsz] at hbs ⊢
      refine (HWR.out w3 (HS.out.new.trans hal) p q hsm).mono ?_
      rintro e w4 ⟨rfl, hn4⟩
      have hbs4 := hbs.kept hn4 id
      have y0 := hbs4.cell 0
      have y1 := hbs4.cell 1
      simp only [List.getElem?_toArray, List.getElem?_cons_zero, List.getElem?_cons_succ] at y0 y1
      have hn34 := hal.trans hn4
      have hlt4 := hbs4.lt
      clear hbs
      by_cases hw0 : wrongS l (p, q) = 0
      · have hw0' : (wrongS l (p, q) != 0) = false := by simpa using hw0
        have hSt := HS.out.pop (bad' := bad) (at' := at_) hn34 HS.out.zero
        have hLk := HSE.out.pop (todo' := (· ∈ T')) (List.mem_append_right _ (List.mem_singleton.2 rfl)) (here_iff (L := L)) (fun x hx => List.mem_append_left _ hx) hw0
        have hnq := HNX.out w4 (HS.out.new.trans hn34) p q hsm
        have hgb := Nat.lt_of_lt_of_le (HS.out.row.lt (by decide) gb rfl) hn34.size
        have hbml := HS.out.far gb rfl
        have hsmn := fun t ht => nexts_small hk HC.out hsm (t := t) ht
        have HN4 := Lib.hid hn4
        have HAL := Lib.hid hal
        have HBS4 := Lib.hid hbs4
        have HSM := Lib.hid hsm
        have HW0 := Lib.hid hw0
        have HN34 := Lib.hid hn34
        have HBSZ := Lib.hid hbsz
        have HST := Lib.hid hSt
        have HLK := Lib.hid hLk
        have HNQ := Lib.hid hnq
        have HSMN := Lib.hid hsmn
        clear hn4 hal hbs4 hsm hw0 hn34 hbsz hSt hLk hnq hsmn
        go_wp2_with fail
        refine HNQ.out.mono ?_
        rintro e w5 ⟨hn5, A2, m2, c2, rfl, hsl, hfr⟩
        have hm2 := hsl.len
        have hb2 := hsl.bound
        have hst5 := HST.out.keep hn5
        have hlt5 : w4.heap.size ≤ w5.heap.size := hn5.size
        generalize hnl : nexts l (p, q) = NX at *
        have hm22 : m2 ≤ 2 := by
          rw [hm2, ← hnl]
          unfold nexts
          split
          · simp
          · repeat' split
            all_goals simp
        have HSL := Lib.hid hsl
        have HFR := Lib.hid hfr
        have HM2 := Lib.hid hm2
        have HST5 := Lib.hid hst5
        have HN5 := Lib.hid hn5
        have HNL := Lib.hid hnl
        clear hsl hfr hm2 hst5 hn5 hnl
        clear HST HNQ HSE HS HBS4 HN4 HAL HSM HW0 HN34 y0 y1 x0 x1
        go_wp2_with fail
        obtain ⟨G, hG⟩ : ∃ G, G = 2 * (65792 - L.length) + (k + 1) := ⟨_, rfl⟩
        go_loopg [6, 54] 2 (fun g2 s6 s54 wr2 => ∃ (i : Nat) (L1 T1 : List Stand) (r1 : Option Nat) (A1 : Option Addr) (m1 c1 : Nat), i ≤ m2 ∧ m2 - i ≤ g2 ∧ s54 = .int .i64 i ∧ s6 = .slice A1 m1 c1 ∧ StI l w bm L1 T1 bad at_ r1 A1 m1 c1 wr2 ∧ Looks l (· ∈ L1) (· ∈ T1) bad at_ (p, q) (NX.take i) ∧ Kept (fun j => j = bm ∨ j = gb) w5 wr2 ∧ (∀ j, r1 = some j → j = gb ∨ w5.heap.size ≤ j) ∧ m1 + 1 + 2 * (65792 - L1.length) ≤ G)
        case atStart => exact ⟨0, L, T', some gb, _, k, c', Nat.zero_le _, by omega, rfl, rfl, HST5.out, by simpa using HLK.out, Kept.refl _ _, fun j e => .inl (by injection e with e; exact e.symm), by rw [hG]; omega⟩
        case round =>
          obtain ⟨i, L1, T1, r1, A1, m1, c1, hi, hgi, rfl, rfl, hS1, hLk1, hk1, hr1, hm1⟩ := hrel
          have hb1 := hS1.row.bound
          by_cases hlt : i < m2
          · obtain ⟨b2, o2, rfl, -, hcs⟩ := stand_at HSL.out (by omega)
            have hil : i < NX.length := by rw [← HM2.out]; exact hlt
            obtain ⟨z0, z1⟩ := hcs i hil
            have hfb := HFR.out b2 o2 none rfl
            have hbl := (lt_of_cell z0).1
            have hne : ¬ (b2 = bm ∨ b2 = gb) := by omega
            have z0 := (hk1.cell (p := ⟨b2, o2 + i * 2, none⟩) hbl hne).trans z0
            have z1 := (hk1.cell (p := ⟨b2, o2 + i * 2 + 1, none⟩) hbl hne).trans z1
            have htn : NX[i] ∈ nexts l (p, q) := by rw [HNL.out]; exact List.getElem_mem hil
            have hts := HSMN.out _ (List.getElem_mem hil)
            have htk : NX.take (i + 1) = NX.take i ++ [NX[i]] := List.take_succ_eq_append_getElem hil
            generalize NX[i] = t at *
            obtain ⟨tp, tq⟩ := t
            obtain ⟨f, hmp, hf⟩ := hS1.map
            have hal : New wr (wr.alloc (.cells #[.int .i64 tp, .int .u64 tq] 61)) := (Kept.refl _ _).alloc _
            have hbt := Blk.made wr 61 #[.int .i64 tp, .int .u64 tq]
            have hS2 := hS1.keep hal
            have hmp2 := hmp.new hal
            have hbtm : wr.heap.size ≠ bm := fun e => by have := hmp.lt; omega
            have hkk := hk1.alloc (.cells #[.int .i64 tp, .int .u64 tq] 61)
            have HAL := Lib.hid hal
            have HBT := Lib.hid hbt
            have HS2 := Lib.hid hS2
            have HMP2 := Lib.hid hmp2
            have HBTM := Lib.hid hbtm
            have HLK1 := Lib.hid hLk1
            have HF := Lib.hid hf
            have HTN := Lib.hid htn
            have HTS := Lib.hid hts
            have HTK := Lib.hid htk
            have HR1 := Lib.hid hr1
            have HKK := Lib.hid hkk
            have HS1 := Lib.hid hS1
            have HMP := Lib.hid hmp
            clear hal hbt hS2 hmp2 hbtm hLk1 hf htn hts htk hr1 hkk hS1 hmp
            clear hcs hfb hbl hne hk1
            go_upto_region 14 with (fail)
            generalize wr.alloc (.cells #[.int .i64 tp, .int .u64 tq] 61) = w6 at *
            generalize wr.heap.size = bt at *
            have y0 := HBT.out.cell 0
            have y1 := HBT.out.cell 1
            simp only [List.getElem?_toArray, List.getElem?_cons_zero, List.getElem?_cons_succ] at y0 y1
            obtain ⟨cv, hlook, -, -⟩ := HMP2.out.look (T := 48) Try.underlying48 keyS Try.underlying3 (fun W => by kernel_rfl) (HOK.out _ HTS.out)
            rw [HF.out] at hlook
            by_cases hin : (tp, tq) ∈ L1
            · rw [decide_eq_true hin] at hlook
              have HIN := Lib.hid hin
              clear hin
              go_wp2_with fail
              go_roundg (m2 - (i + 1))
              case measure => omega
              case rel => exact ⟨i + 1, L1, T1, r1, A1, m1, c1, by omega, Nat.le_refl _, by go_num, rfl, HS2.out, by rw [HTK.out]; exact HLK1.out.skip HIN.out, HKK.out, HR1.out, hm1⟩
            · rw [decide_eq_false hin] at hlook
              have hL65 := HCNT.out _ HS2.out.nodL HS2.out.small
              obtain ⟨kk, hkl, hlen⟩ := HMP2.out.len Try.underlying48
              have hlen := hlen 3
              obtain ⟨w7, hup, hmp7, hk7⟩ := HMP2.out.update (T := 48) Try.underlying48 keyS Try.underlying3 (by unfold maxLen; omega) (s := (tp, tq)) (v := (kk : Int)) (HOK.out _ HTS.out) (by simp [Lit.wf, IntKind.min, IntKind.max, IntKind.signed, IntKind.bits]; omega)
              have y2 := (HBT.out.kept hk7 HBTM.out).cell 0
              have y3 := (HBT.out.kept hk7 HBTM.out).cell 1
              simp only [List.getElem?_toArray, List.getElem?_cons_zero, List.getElem?_cons_succ] at y2 y3
              have hrow7 := HS2.out.row.of_kept (by decide) hk7 fun j hj e => by have := HS2.out.far j hj; omega
              have hnT : (tp, tq) ∉ T1 := fun e => hin (HLK1.out.wait _ e)
              have hm65 := HCNT.out _ HS2.out.nodT fun s hs => HS2.out.small s (HLK1.out.wait s hs)
              have hmm1 := HS2.out.len
              rw [← hmm1] at hm65
              have HMP7 := Lib.hid hmp7
              have HK7 := Lib.hid hk7
              have HROW7 := Lib.hid hrow7
              have HNT := Lib.hid hnT
              have HIN := Lib.hid hin
              have HMM1 := Lib.hid hmm1
              clear hmp7 hk7 hrow7 hnT hin hmm1
              go_wp2_with (at_builtin; refine wpList_append_one (cs := [.int .i64 tp, .int .u64 tq]) tyStands rfl _ _ rfl rfl HROW7.out rfl rfl rfl (by simp [Value.oneCell']) (by unfold maxLen; omega) (by omega) ?_; intro r8 A8 c8 w8 hr8 hk8 hn8)
              go_roundg (m2 - (i + 1))
              case measure => omega
              case rel =>
                have hB : bm < w7.heap.size := HMP7.out.lt
                have hmp8 := HMP7.out.kept hk8 fun e => by have := HS2.out.far bm e; omega
                have hnew7 : New w w7 := HS2.out.new.step HK7.out fun j hj e => by have := HS2.out.base; omega
                have hnew8 : New w w8 := hnew7.step hk8 fun j hj e => by have := HS2.out.far j e; have := HS2.out.base; omega
                have hk58 : Kept (fun j => j = bm ∨ j = gb) w5 w8 := (HKK.out.trans (HK7.out.mono fun j _ e => .inl e)).step hk8 fun j hj e => by rcases HR1.out j e with e' | e'; exact .inr e'; omega
                have hS8 := HS2.out.push (v := (kk : Int)) HIN.out HNT.out HTS.out HF.out hmp8 hr8 hn8 hB hnew8
                have hL8 := HCNT.out _ hS8.nodL hS8.small
                rw [List.length_append, List.length_singleton] at hL8
                refine ⟨i + 1, _, _, r8, A8, m1 + 1, c8, by omega, Nat.le_refl _, by go_num, rfl, hS8, ?_, hk58, fun j hj => ?_, ?_⟩
                · rw [HTK.out]
                  exact HLK1.out.push HTN.out (fun x => by rw [List.mem_append, List.mem_singleton]) (fun x => by rw [List.mem_append, List.mem_singleton])
                · rcases hn8 j hj with e | e
                  · exact HR1.out j e
                  · have := hk58.size
                    have := HKK.out.size
                    have := HK7.out.size
                    omega
                · rw [List.length_append, List.length_singleton]
                  omega
          · obtain rfl : i = m2 := by omega
            have HS1 := Lib.hid hS1
            have HLK1 := Lib.hid hLk1
            have HK1 := Lib.hid hk1
            have HR1 := Lib.hid hr1
            clear hS1 hLk1 hk1 hr1
            go_wp2_with fail
            go_roundg (2 * (65792 - L1.length) + m1)
            case measure => have := HG.out; omega
            case rel =>
              refine ⟨L1, T1, bad, at_, r1, A1, m1, c1, rfl, rfl, rfl, HS1.out, ?_, Nat.le_refl _⟩
              have := HLK1.out
              rw [HM2.out, List.take_length, HNL.out.symm] at this
              exact this.close
      · have hw0' : (wrongS l (p, q) != 0) = true := by simpa using hw0
        have hW := fun h1 h2 => HSE.out.wrong (todo' := (· ∈ T')) (List.mem_append_right _ (List.mem_singleton.2 rfl)) h1 h2 hw0
        have hW := hW (here_iff (L := L)) (fun x hx => List.mem_append_left _ hx)
        have hSt := fun bad' at' hz => HS.out.pop (bad' := bad') (at' := at') hn34 hz
        have HN4 := Lib.hid hn4
        have HAL := Lib.hid hal
        have HBS4 := Lib.hid hbs4
        have HSM := Lib.hid hsm
        have HN34 := Lib.hid hn34
        have HBSZ := Lib.hid hbsz
        have HST := Lib.hid hSt
        clear hn4 hal hbs4 hsm hn34 hbsz hSt
        by_cases hb0 : bad = 0 ∨ p < at_
        · rw [if_pos hb0, if_pos hb0] at hW
          have HW := Lib.hid hW
          clear hW
          by_cases hb1 : bad = 0
          · subst hb1
            have HW0 := Lib.hid hw0
            clear hw0
            go_wp2_with fail
            go_quiet (fail)
            go_wp2_with fail
            go_roundg (2 * (65792 - L.length) + k)
            case measure => have := HG.out; omega
            case rel => exact ⟨L, T', _, p, some gb, _, k, c', rfl, rfl, rfl, (HST.out _ p fun e => absurd e HW0.out).keep (Kept.drewN (Kept.refl _ _) _), HW.out, Nat.le_refl _⟩
          · have hb2 : (bad == 0) = false := by simpa using hb1
            have hb3 : decide ((p : Int) < (at_ : Int)) = true := by simp; omega
            have hb4 : (p : Int) < (at_ : Int) := by omega
            have HW0 := Lib.hid hw0
            have HB1 := Lib.hid hb1
            clear hw0 hb1
            go_wp2_with fail
            go_quiet (fail)
            go_wp2_with fail
            go_roundg (2 * (65792 - L.length) + k)
            case measure => have := HG.out; omega
            case rel => exact ⟨L, T', _, p, some gb, _, k, c', rfl, rfl, rfl, (HST.out _ p fun e => absurd e HW0.out).keep (Kept.drewN (Kept.refl _ _) _), HW.out, Nat.le_refl _⟩
        · rw [if_neg hb0, if_neg hb0] at hW
          have hb1 : bad ≠ 0 := fun e => hb0 (.inl e)
          have hb2 : (bad == 0) = false := by simpa using hb1
          have hb3 : decide ((p : Int) < (at_ : Int)) = false := by simp; omega
          have hb4 : ¬ (p : Int) < (at_ : Int) := by omega
          have HW0 := Lib.hid hw0
          have HB1 := Lib.hid hb1
          have HW := Lib.hid hW
          clear hw0 hb1 hW
          go_wp2_with fail
          go_roundg (2 * (65792 - L.length) + k)
          case measure => have := HG.out; omega
          case rel => exact ⟨L, T', _, at_, some gb, _, k, c', rfl, rfl, rfl, HST.out _ at_ fun e => absurd e HB1.out, HW.out, Nat.le_refl _⟩
end Go.Proofs.Ytjhiaicpgajeoaa.Valid
