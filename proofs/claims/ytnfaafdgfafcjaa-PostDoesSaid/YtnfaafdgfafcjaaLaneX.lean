/- The walks of package lane's place, Put, Wait (layer 9). -/
import Derived.Test.YtnfaafdgfafcjaaLaneW
namespace Go.Proofs.Ytnfaafdgfafcjaa.Lane
open Go.RowKit Go.Fb
set_option linter.unusedVariables false

/-- How one who waits lies. -/
def repW : Rep (Int × Int) where
  size := 2
  cells _ _ x cs := cs = cellsW x
  length h := by rw [h]; rfl
  stays _ h := h
  more _ h := h
theorem waits_read {w : World} {r : Option Nat} {A : Option Addr} {n c : Nat} {l : List (Int × Int)} (h : Row w 2 r A n c (l.flatMap cellsW)) (hl : l.length = n) : SliceOf repW w w.heap.size A n c l :=
  h.slice (R := repW) (by decide) hl fun x _ => rfl
theorem waits_at {w : World} {B : Nat} {A : Option Addr} {n c : Nat} {l : List (Int × Int)} (h : SliceOf repW w B A n c l) (hn : 0 < n) :
    ∃ b o, A = some ⟨b, o, none⟩ ∧ b < B ∧ ∀ i (h : i < l.length), w.cell? ⟨b, o + i * 2, none⟩ = some (.int .i64 l[i].1) ∧ w.cell? ⟨b, o + i * 2 + 1, none⟩ = some (.int .i64 l[i].2) := by
  obtain ⟨b, o, e, hb, hc⟩ := h.get hn
  refine ⟨b, o, e, hb, fun i hi => ?_⟩
  obtain ⟨es, g1, g2⟩ := hc i hi
  subst g2
  exact ⟨g1 0 (by decide), g1 1 (by decide)⟩
/-- Where somebody waits; below 0: nowhere. -/
def placeAt (p : Int) (l : List (Int × Int)) : Int := if l.findIdx (fun q => q.1 == p) < l.length then (l.findIdx (fun q => q.1 == p) : Nat) else -1
theorem place_hit {p : Int} {l : List (Int × Int)} {k : Nat} (hk : k < l.length) (h1 : ∀ j (hj : j < l.length), j < k → l[j].1 ≠ p) (h2 : l[k].1 = p) : placeAt p l = k := by
  have : l.findIdx (fun q => q.1 == p) = k := (List.findIdx_eq hk).2 ⟨by simpa using h2, fun j hj => by simpa using h1 j (by omega) hj⟩
  unfold placeAt; rw [this, if_pos hk]
theorem place_miss {p : Int} {l : List (Int × Int)} (h1 : ∀ j (hj : j < l.length), l[j].1 ≠ p) : placeAt p l = -1 := by
  have : l.findIdx (fun q => q.1 == p) = l.length := by
    refine List.findIdx_eq_length.2 fun x hx => ?_
    obtain ⟨j, hj, rfl⟩ := List.mem_iff_getElem.1 hx
    simpa using h1 j hj
  unfold placeAt; rw [this, if_neg (Nat.lt_irrefl _)]
theorem place1_any (a v p : Int) (pb : Nat) (w : World) (hp : w.cell? ⟨pb, 0, none⟩ = some (.int .i64 p)) (hlt : pb < w.heap.size) : Calls Try.prog 67 #[.agg #[.int .i64 a, .int .i64 v], .pointer (some ⟨pb, 0, none⟩)] w fun e w' => e = .returned (.bool (a == p)) ∧ New w w' := by
  have hc : (w.alloc (.cells #[.int .i64 a, .int .i64 v] 36)).cell? ⟨pb, 0, none⟩ = some (.int .i64 p) := (((Kept.refl (fun _ => False) w).alloc _).cell (p := ⟨pb, 0, none⟩) hlt id).trans hp
  clear hp
  go_enter Try.func67, Try.ntmps67
  go_wp2
  go_ret
  exact ⟨by simp [Array.getD], (Kept.refl _ _).alloc _⟩
set_option maxHeartbeats 1000000 in
theorem indexFunc_any (A : Option Addr) (n c : Nat) (l : List (Int × Int)) (p : Int) (pb : Nat) (w : World) (hl : SliceOf repW w w.heap.size A n c l) (hp : w.cell? ⟨pb, 0, none⟩ = some (.int .i64 p)) (hlt : pb < w.heap.size) :
    Calls Try.prog 66 #[.slice A n c, .func (.func 67) #[] #[.pointer (some ⟨pb, 0, none⟩)]] w fun e w' => e = .returned (.int .i64 (placeAt p l)) ∧ New w w' := by
  have hbd := hl.bound
  have hn := hl.len
  have hcall := fun a v W (hW : New w W) => (place1_any a v p pb W ((hW.cell (p := ⟨pb, 0, none⟩) hlt id).trans hp) (Nat.lt_of_lt_of_le hlt hW.size)).mono fun e w' h => (⟨h.1, hW.trans h.2⟩ : _ ∧ New w w')
  have HP := Lib.hid fun W (hW : New w W) => (hl.kept hW (Nat.le_refl _) fun _ _ h => h)
  have HL := Lib.hid hl
  have HN := Lib.hid hn
  have HCALL := Lib.hid hcall
  clear hl hn hcall
  clear hp hlt
  go_enter Try.func66, Try.ntmps66
  go_wp2_with fail
  go_loopw [8] (fun i wr => ∃ j : Nat, j ≤ n ∧ i = .int .i64 j ∧ Hid (∀ i (hi : i < l.length), i < j → l[i].1 ≠ p) ∧ New w wr) (fun i _ => (n - (intOf i).toNat))
  case atStart => exact ⟨0, Nat.zero_le _, rfl, Lib.hid fun i hi h => absurd h (Nat.not_lt_zero _), Kept.refl _ _⟩
  case round =>
    obtain ⟨j, hj, rfl, A0, hnr⟩ := hrel
    by_cases hlt : j < n
    · have hjl : j < l.length := by have := HN.out; omega
      obtain ⟨b, o, rfl, hb, hc⟩ := waits_at (HP.out wr hnr) (by omega)
      obtain ⟨c0, c1⟩ := hc j hjl
      have hC := Lib.hid (HCALL.out l[j].1 l[j].2 wr hnr)
      by_cases hq : l[j].1 = p
      · have E := Lib.hid (place_hit hjl A0.out hq)
        have HNR := Lib.hid hnr
        generalize l[j].1 = v1 at *
        generalize l[j].2 = v2 at *
        subst hq
        clear hc hjl hnr
        go_wp2_with (go_at_call 67; (with_reducible refine hC.out.mono ?_); rintro e w2 ⟨rfl, hw2⟩)
        all_goals (go_ret; exact ⟨by rw [E.out]; rfl, hw2⟩)
      · have A2 := Lib.hid (show ∀ i (hi : i < l.length), i < j + 1 → l[i].1 ≠ p from fun i hi h => by
          by_cases e : i = j
          · subst e; exact hq
          · exact A0.out i hi (by omega))
        have HNR := Lib.hid hnr
        generalize l[j].1 = v1 at *
        generalize l[j].2 = v2 at *
        have hq2 : (v1 == p) = false := by simpa using hq
        clear hc hjl hnr hq
        go_wp2_with (go_at_call 67; (with_reducible refine hC.out.mono ?_); rintro e w2 ⟨rfl, hw2⟩)
        go_roundw
        case rel => exact ⟨j + 1, by omega, by go_num, A2, hw2⟩
        case measure => simp [intOf]; omega
    · obtain rfl : j = n := by omega
      have E := Lib.hid (place_miss fun i hi => A0.out i hi (by have := HN.out; omega))
      have HNR := Lib.hid hnr
      clear hnr
      go_wp2_with fail
      go_ret
      exact ⟨by rw [E.out]; rfl, HNR.out⟩
section
variable {w : World} {b : Nat} {F : Nat → Prop} {L : Lane}
theorem place_any (h : At w b F L) (p : Int) : Calls Try.prog 63 #[.pointer (some ⟨b, 0, none⟩), .int .i64 p] w fun e w' => e = .returned (.int .i64 (placeAt p L.waits)) ∧ New w w' := by
  have hA := h.new ((Kept.refl (fun _ => False) w).alloc (.cells #[.int .i64 p] 3))
  obtain ⟨⟨rv, Av, cv, rw, Aw, cw, hp, h1, h2⟩, h3, h4⟩ := hA
  obtain ⟨c0, c1, c2, c3, c4⟩ := hp.cells
  have hif := indexFunc_any Aw L.waits.length cw L.waits p w.heap.size (w.alloc (.cells #[.int .i64 p] 3)) (waits_read hp.waits rfl) ((Blk.made w _ _).cell 0) (by rw [← size1]; exact Nat.lt_succ_self _)
  have hb := hp.waits.bound
  generalize L.waits.length = n at *
  have HIF := Lib.hid hif
  clear hif
  clear hp h1 h2 h3 h4 h
  go_enter Try.func63, Try.ntmps63
  go_wp2_with (refine HIF.out.mono ?_; rintro e w2 ⟨rfl, hw2⟩)
  go_ret
  exact ⟨rfl, ((Kept.refl _ _).alloc _).trans hw2⟩
end
end Go.Proofs.Ytnfaafdgfafcjaa.Lane
