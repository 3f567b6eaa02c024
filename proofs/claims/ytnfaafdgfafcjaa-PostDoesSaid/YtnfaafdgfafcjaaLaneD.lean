/- The walks of package lane's Drop, twice (layer 9). -/
import Derived.Test.YtnfaafdgfafcjaaLaneC
import Derived.Test.YtnfaafdgfafcjaaMapI
namespace Go.Fb
open Go.RowKit Go.Maps
theorem MapF.look1 {P : Program} {K E T : TypeId} {w : World} {b n : Nat} {f : Int → Option Int} (h : MapF P K E w b n f) (hT : P.underlying T = some (.map K E)) (hK : P.underlying K = some (.int .i64)) (hE : P.underlying E = some (.int .i64)) (hz : ∀ W, (zeroValue E).run P W = .ok (.int .i64 0) W) {x : Int} (hx : (Lit.int .i64 x).wf = true) :
    (Instr.lookup T (.map (some b)) (.int .i64 x) false).run P w = .ok (.int .i64 ((f x).getD 0)) w := by
  obtain ⟨D, h1, h2, h3⟩ := h
  obtain ⟨c, hrun, hat, hwc⟩ := h1.lookup_int (int_keyed hK) hT hE (hz w) (MapF.key_of hK hx)
  obtain ⟨e1, e2⟩ := h3 x hx
  have : c = (f x).getD 0 := by
    cases hf : f x with
    | none =>
      rw [hf] at e1
      rw [atKey_of_not_has e1] at hat
      injection hat with hat
      injection hat with _ hat
      exact hat.symm
    | some v =>
      rw [e2 v hf] at hat
      injection hat with hat
      injection hat with _ hat
      exact hat.symm
  rw [hrun, this]
end Go.Fb
namespace Go.Proofs.Ytnfaafdgfafcjaa.Lane
open Go.RowKit Go.Fb
set_option linter.unusedVariables false
section
variable {w : World} {b : Nat} {F : Nat → Prop} {L : Lane}
theorem drop_any (h : At w b F L) (ht : 0 ≤ L.dropped ∧ L.dropped ≤ 65535) : Calls Try.prog 52 #[.pointer (some ⟨b, 0, none⟩)] w (Ends w b F { L with dropped := min (L.dropped + 1) 65535 } (.tuple #[])) := by
  have H0 := Lib.hid h
  obtain ⟨⟨rv, Av, cv, rw, Aw, cw, hp, h1, h2⟩, h3, h4⟩ := h
  obtain ⟨c0, c1, c2, c3, c4⟩ := hp.cells
  have f4 := hp.blk.free 4
  have hq := hp.put_dropped (min (L.dropped + 1) 65535)
  have hmore := fun W => more_any L.dropped W ht.1 ht.2
  have HQ := Lib.hid hq
  have HMORE := Lib.hid hmore
  have H1 := Lib.hid h1
  have H2 := Lib.hid h2
  have H3 := Lib.hid h3
  clear hq hmore h1 h2 h3
  clear hp ht h4
  go_enter Try.func52, Try.ntmps52
  go_wp2_with (refine (HMORE.out _).mono ?_; rintro e w' ⟨rfl, rfl⟩)
  go_end0
  have hk : Kept F w (w.setCell ⟨b, 4, none⟩ (.int .i64 (min (L.dropped + 1) 65535))) := (Kept.refl F w).setCell (.inr H3.out) _
  exact ⟨rfl, PartsT.ends H0.out HQ.out (fun k e => .inl (H1.out k e)) (fun k e => .inl (H2.out k e)) hk.size, hk⟩
end
/-- Does somebody wait twice? -/
def dupB (l : List (Int × Int)) : Bool := decide (¬ (l.map (·.1)).Nodup)
def Cnt (l : List (Int × Int)) (i : Nat) (f : Int → Option Int) : Prop := ∀ y, (f y).getD 0 = if y ∈ (l.take i).map (·.1) then 1 else 0
section
variable {l : List (Int × Int)} {i : Nat} {f : Int → Option Int}
theorem take_procs (hi : i < l.length) : (l.take (i + 1)).map (·.1) = (l.take i).map (·.1) ++ [l[i].1] := by rw [List.take_succ_eq_append_getElem hi, List.map_append]; rfl
theorem dup_hit (hi : i < l.length) (h : l[i].1 ∈ (l.take i).map (·.1)) : dupB l = true := by
  refine decide_eq_true fun hn => ?_
  have h1 : ((l.take (i + 1)).map (·.1)).Nodup := by rw [List.map_take]; exact hn.sublist (List.take_sublist _ _)
  rw [take_procs hi, List.nodup_append] at h1
  exact h1.2.2 _ h _ (by simp) rfl
theorem nodup_next (hi : i < l.length) (h : ¬ l[i].1 ∈ (l.take i).map (·.1)) (hn : ((l.take i).map (·.1)).Nodup) : ((l.take (i + 1)).map (·.1)).Nodup := by
  rw [take_procs hi, List.nodup_append]
  refine ⟨hn, by simp, fun a ha b hb e => h ?_⟩
  rw [List.mem_singleton] at hb
  rw [← hb, ← e]; exact ha
theorem dup_none (hi : i = l.length) (hn : ((l.take i).map (·.1)).Nodup) : dupB l = false := by
  subst hi
  rw [List.take_length] at hn
  exact decide_eq_false fun h => h hn
theorem Cnt.start : Cnt l 0 (fun _ => none) := fun y => by simp
theorem Cnt.next (h : Cnt l i f) (hi : i < l.length) : Cnt l (i + 1) (fun y => if y = l[i].1 then some 1 else f y) := fun y => by
  dsimp only
  rw [take_procs hi]
  by_cases e : y = l[i].1
  · rw [if_pos e, if_pos (by simp [e])]; rfl
  · rw [if_neg e, h y]
    simp only [List.mem_append, List.mem_singleton, e, or_false]
end
set_option maxHeartbeats 2000000 in
theorem twice_any {w : World} {B : Nat} {A : Option Addr} {n c : Nat} {l : List (Int × Int)} (h : SliceOf repW w B A n c l) (hB : B ≤ w.heap.size) (hwf : ∀ q ∈ l, (Lit.int .i64 q.1).wf = true) (hn : n ≤ 8000000000000) :
    Calls Try.prog 43 #[.slice A n c] w fun e w' => e = .returned (.bool (dupB l)) ∧ New w w' := by
  have hbd := h.bound
  have hln := h.len
  have HP := Lib.hid (fun W (hW : New w W) => (h.kept hW hB fun _ _ h => h))
  have hmm := @run_makeMap Try.prog
  have H := Lib.hid h
  have HLN := Lib.hid hln
  have HWF := Lib.hid hwf
  clear h hln hwf
  go_enter Try.func43, Try.ntmps43
  go_upto_region 2 with (fail)
  have hmap := MapF.made (P := Try.prog) (K := 3) (E := 3) w
  have hn0 : New w (w.alloc (.map #[] 0)) := (Kept.refl _ _).alloc _
  obtain ⟨bm, hbm⟩ : ∃ k, k = w.heap.size := ⟨_, rfl⟩
  rw [← hbm] at hmap ⊢
  generalize w.alloc (.map #[] 0) = w0 at *
  have HMAP := Lib.hid hmap
  have HN0 := Lib.hid hn0
  have HBM := Lib.hid hbm
  clear hmap hn0 hbm
  clear hmm
  go_wp2_with fail
  go_loopw [9] (fun s wr => ∃ (i : Nat) (f : Int → Option Int), i ≤ n ∧ s = .int .i64 i ∧ New w wr ∧ MapF Try.prog 3 3 wr bm i f ∧ Cnt l i f ∧ Hid (((l.take i).map (·.1)).Nodup)) (fun s _ => (n - intOf s).toNat)
  case atStart => exact ⟨0, _, Nat.zero_le _, rfl, HN0.out, HMAP.out, Cnt.start, Lib.hid (by simp)⟩
  case round =>
    obtain ⟨i, f, hi, rfl, hnr, hmp, hcn, hnd⟩ := hrel
    by_cases hlt : i < n
    · have hil : i < l.length := by have := HLN.out; omega
      obtain ⟨b, o, rfl, hb, hc⟩ := waits_at (HP.out wr hnr) (by omega)
      obtain ⟨c0, c1⟩ := hc i hil
      have hwfp := HWF.out _ (List.getElem_mem hil)
      have HHIT := Lib.hid (dup_hit (l := l) hil)
      have HNX := Lib.hid (fun h => nodup_next (l := l) hil h hnd.out)
      have HCN := Lib.hid (hcn.next hil)
      have hcv := hcn l[i].1
      generalize l[i].1 = p at *
      generalize l[i].2 = v at *
      have hal : New wr (wr.alloc (.cells #[.int .i64 p, .int .i64 v] 36)) := (Kept.refl _ _).alloc _
      have hbx := Blk.made wr 36 #[.int .i64 p, .int .i64 v]
      have hmp4 := hmp.new hal
      have hbw : wr.heap.size ≠ bm := fun e => by have := hmp.lt; omega
      have HNR := Lib.hid hnr
      have hn4 := hnr.trans hal
      have HAL := Lib.hid hal
      have HBX := Lib.hid hbx
      have HMP4 := Lib.hid hmp4
      have HBW := Lib.hid hbw
      have HN4 := Lib.hid hn4
      clear hal hbx hmp4 hbw hn4
      clear hc hil hnr hmp hcn hb
      go_upto_region 5 with (fail)
      generalize wr.alloc (.cells #[.int .i64 p, .int .i64 v] 36) = w4 at *
      generalize wr.heap.size = bx at *
      have hlook := HMP4.out.look1 (T := 92) Try.underlying92 Try.underlying3 Try.underlying3 (fun W => by kernel_rfl) hwfp
      have z0 := HBX.out.cell 0
      simp only [List.getElem?_toArray, List.getElem?_cons_zero] at z0
      by_cases hm : p ∈ (l.take i).map (·.1)
      · rw [if_pos hm] at hcv
        rw [hcv] at hlook
        have E := Lib.hid (HHIT.out hm)
        obtain ⟨w5, hup, hmp5, hk5⟩ := HMP4.out.update (T := 92) Try.underlying92 Try.underlying3 Try.underlying3 (by unfold maxLen; omega) hwfp (show (Lit.int .i64 2).wf = true by decide)
        have hlook5 := hmp5.look1 (T := 92) Try.underlying92 Try.underlying3 Try.underlying3 (fun W => by kernel_rfl) hwfp
        simp only [if_true, Option.getD_some] at hlook5
        have z5 := (HBX.out.kept hk5 HBW.out).cell 0
        simp only [List.getElem?_toArray, List.getElem?_cons_zero] at z5
        have hn5 : New w w5 := HN4.out.step hk5 fun k hk e => by have := HBM.out; omega
        have HMP5 := Lib.hid hmp5
        have HK5 := Lib.hid hk5
        have HN5 := Lib.hid hn5
        have HWFP := Lib.hid hwfp
        clear hmp5 hk5 hn5 hwfp
        clear hm hcv
        go_wp2_with fail
        go_ret
        exact ⟨by rw [E.out]; rfl, HN5.out⟩
      · rw [if_neg hm] at hcv
        rw [hcv] at hlook
        have HND := Lib.hid (HNX.out hm)
        obtain ⟨w5, hup, hmp5, hk5⟩ := HMP4.out.update (T := 92) Try.underlying92 Try.underlying3 Try.underlying3 (by unfold maxLen; omega) hwfp (show (Lit.int .i64 1).wf = true by decide)
        have hlook5 := hmp5.look1 (T := 92) Try.underlying92 Try.underlying3 Try.underlying3 (fun W => by kernel_rfl) hwfp
        simp only [if_true, Option.getD_some] at hlook5
        have z5 := (HBX.out.kept hk5 HBW.out).cell 0
        simp only [List.getElem?_toArray, List.getElem?_cons_zero] at z5
        have hn5 : New w w5 := HN4.out.step hk5 fun k hk e => by have := HBM.out; omega
        have HMP5 := Lib.hid hmp5
        have HK5 := Lib.hid hk5
        have HN5 := Lib.hid hn5
        have HWFP := Lib.hid hwfp
        clear hmp5 hk5 hn5 hwfp
        clear hm hcv
        go_wp2_with fail
        go_roundw
        case rel => exact ⟨i + 1, _, by omega, by go_num, HN5.out, HMP5.out, HCN.out, HND⟩
        case measure => simp [intOf]; omega
    · obtain rfl : i = n := by omega
      have E := Lib.hid (dup_none HLN.out hnd.out)
      have HNR := Lib.hid hnr
      clear hnr hmp hcn
      go_wp2_with fail
      go_ret
      exact ⟨by rw [E.out]; rfl, HNR.out⟩
end Go.Proofs.Ytnfaafdgfafcjaa.Lane
