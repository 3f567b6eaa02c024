/- The walks of package lane's Leave, of the reference's (layer 9). -/
import Derived.Test.YtnfaafdgfafcjaaLaneL
namespace Go.Proofs.Ytnfaafdgfafcjaa.Lane
open Go.RowKit Go.Fb
set_option linter.unusedVariables false
def leaveL (L : Lane) (p : Int) : Lane × Bool := if placeAt p L.waits < 0 then (L, false) else ({ L with waits := L.waits.eraseIdx (placeAt p L.waits).toNat }, true)
theorem place_lt {p : Int} {l : List (Int × Int)} (h : ¬ placeAt p l < 0) : ∃ k : Nat, placeAt p l = k ∧ k < l.length := by
  unfold placeAt at h ⊢
  by_cases e : l.findIdx (fun q => q.1 == p) < l.length
  · rw [if_pos e]; exact ⟨_, rfl, e⟩
  · rw [if_neg e] at h; exact absurd (by decide) h
section
variable {w : World} {b : Nat} {F : Nat → Prop} {L : Lane}
set_option maxHeartbeats 1000000 in
theorem leave_any (h : At w b F L) (p : Int) : Calls Try.prog 58 #[.pointer (some ⟨b, 0, none⟩), .int .i64 p] w (Ends w b F (leaveL L p).1 (.bool (leaveL L p).2)) := by
  have hpl := place_any h p
  by_cases h0 : placeAt p L.waits < 0
  · have E := Lib.hid (show leaveL L p = (L, false) from if_pos h0)
    generalize placeAt p L.waits = pl at *
    have H := Lib.hid h
    have HPL := Lib.hid hpl
    clear h hpl
    go_enter Try.func58, Try.ntmps58
    go_wp2_with fail
    refine HPL.out.mono ?_
    rintro e w2 ⟨rfl, hw2⟩
    have HW2 := Lib.hid hw2
    clear hw2
    go_wp2_with fail
    go_ret
    rw [E.out]
    exact ⟨rfl, H.out.still HW2.out, HW2.out.mono fun _ _ h => h.elim⟩
  · obtain ⟨k, hk, hkl⟩ := place_lt h0
    have E := Lib.hid (show leaveL L p = ({ L with waits := L.waits.eraseIdx k }, true) by unfold leaveL; rw [if_neg h0, hk, Int.toNat_natCast])
    rw [hk] at hpl
    have H0 := Lib.hid h
    obtain ⟨⟨rv, Av, cv, rw, Aw, cw, hp, h1, h2⟩, h3, h4⟩ := h
    have HP := Lib.hid (fun W (hW : New w W) => hp.kept hW id (fun _ _ h => h) (fun _ _ h => h))
    have hb := hp.waits.bound
    have hdel := fun W (hW : New w W) => delete_any (HP.out W hW).waits rfl k hkl
    obtain ⟨nw, hnw⟩ : ∃ n, n = L.waits.length := ⟨_, rfl⟩
    have HC := Lib.hid (fun W (hW : New w W) => (show W.cell? ⟨b, 2, none⟩ = some (.slice Aw nw cw) by rw [hnw]; exact (HP.out W hW).cells.2.2.1))
    rw [← hnw] at hb hkl
    simp only [← hnw] at hdel
    have HNW := Lib.hid hnw
    have HPL := Lib.hid hpl
    have HDEL := Lib.hid hdel
    have H1 := Lib.hid h1
    have H2 := Lib.hid h2
    have H3 := Lib.hid h3
    clear hnw hpl hdel h1 h2 h3
    clear hp h4 h0 hk
    go_enter Try.func58, Try.ntmps58
    go_wp2_with fail
    refine HPL.out.mono ?_
    rintro e w2 ⟨rfl, hw2⟩
    have x2 := HC.out w2 hw2
    have HW2 := Lib.hid hw2
    clear hw2
    go_wp2_with fail
    refine (HDEL.out w2 HW2.out).mono ?_
    rintro e w3 ⟨m, hm, rfl, hrow, hk3⟩
    have hb3 := (HP.out w2 HW2.out).blk.kept hk3 (HP.out w2 HW2.out).d2
    have y2 := hb3.cell 2
    have yf := hb3.free 2
    simp only [laneC, List.getElem?_toArray, List.getElem?_cons_zero, List.getElem?_cons_succ] at y2
    have HM := Lib.hid hm
    have HROW := Lib.hid hrow
    have HK3 := Lib.hid hk3
    clear hm hrow hk3
    clear hb3
    go_wp2_with fail
    go_ret
    have hp2 := (HP.out w2 HW2.out).put_waits (ws := L.waits.eraseIdx k) (r' := rw) (A' := Aw) (c' := cw) (w2 := w3) (by rw [← HM.out]; exact HROW.out) HK3.out (fun k e => .inl e)
    rw [← HM.out] at hp2
    have hkk : Kept F w (w3.setCell ⟨b, 2, none⟩ (.slice Aw m cw)) := Kept.setCell (p := ⟨b, 2, none⟩) ((HW2.out.mono fun _ _ h => h.elim).step HK3.out fun k hk h => H2.out k h) (.inr H3.out) _
    rw [E.out]
    exact ⟨rfl, PartsT.ends H0.out hp2 (fun k e => .inl (H1.out k e)) (fun k e => .inl (H2.out k e)) hkk.size, hkk⟩
set_option maxHeartbeats 2000000 in
theorem rleave_any (h : AtR w b F L) (p : Int) (hlw : L.waits.length ≤ 8000000000000) : Calls Try.prog 59 #[.pointer (some ⟨b, 0, none⟩), .int .i64 p] w (EndsR w b F (leaveL L p).1 (.bool (leaveL L p).2)) := by
  have hpl := rwaits_any h p
  by_cases h0 : placeAt p L.waits < 0
  · have E := Lib.hid (show leaveL L p = (L, false) from if_pos h0)
    generalize placeAt p L.waits = pl at *
    have H := Lib.hid h
    have HPL := Lib.hid hpl
    clear h hpl
    go_enter Try.func59, Try.ntmps59
    go_wp2_with fail
    refine HPL.out.mono ?_
    rintro e w2 ⟨rfl, rfl⟩
    go_wp2_with fail
    go_ret
    rw [E.out]
    exact still_endsR H.out (Kept.refl _ _) _
  · obtain ⟨k, hk, hkl⟩ := place_lt h0
    have E := Lib.hid (show leaveL L p = ({ L with waits := L.waits.eraseIdx k }, true) by unfold leaveL; rw [if_neg h0, hk, Int.toNat_natCast])
    rw [hk] at hpl
    have H0 := Lib.hid h
    obtain ⟨⟨rv, Av, cv, rw, Aw, cw, hp, h1, h2⟩, h3, h4⟩ := h
    have HP := Lib.hid (fun W (hW : New w W) => hp.kept hW id (fun _ _ h => h) (fun _ _ h => h))
    have hb := hp.waits.bound
    have hwr := waits_read hp.waits rfl
    obtain ⟨g, o, rfl, rfl, -, -⟩ := hp.waits.at_pos (by omega)
    obtain ⟨nw, hnw⟩ : ∃ n, n = L.waits.length := ⟨_, rfl⟩
    rw [← hnw] at hb hkl hlw hwr
    have hel : (Program.elem Try.prog 27) = 36 := by simp [Program.elem, Try.underlying27]
    have hue : (Program.underlying Try.prog 27) = some (.slice (Program.elem Try.prog 27)) := by rw [hel]; exact Try.underlying27
    have hsz : ∀ W, (sizeOf 36).run Try.prog W = .ok 2 W := fun W => by kernel_rfl
    have hsl1 : ∀ W, (Instr.slice 27 (.slice (some ⟨g, o, none⟩) nw cw) none (some (.int .i64 (k : Int))) none).run Try.prog W = .ok (.slice (some ⟨g, o, none⟩) k cw) W := fun W => by
      rw [run_slice_h (P := Try.prog) W 27 _ nw cw hue .i64 (k : Int) (by omega) (by omega), hel, hsz]
      by_cases e : cw = 0 <;> simp [Result.andThen, sliced, add_eq, e]
    obtain ⟨m, hm⟩ : ∃ m, m = nw - (k + 1) := ⟨_, rfl⟩
    obtain ⟨A1, hA1, hsl2⟩ : ∃ A1 : Option Addr, (A1 = some ⟨g, o + (k + 1) * 2, none⟩ ∨ m = 0) ∧ ∀ W, (Instr.slice 27 (.slice (some ⟨g, o, none⟩) nw cw) (some (.int .i64 ((k : Int) + 1))) none none).run Try.prog W = .ok (.slice A1 m (cw - (k + 1))) W := by
      refine ⟨if cw = k + 1 then some ⟨g, o, none⟩ else some ⟨g, o + (k + 1) * 2, none⟩, ?_, fun W => ?_⟩
      · by_cases e : cw = k + 1
        · exact .inr (by omega)
        · rw [if_neg e]; exact .inl rfl
      · have e1 : ((k : Int) + 1).toNat = k + 1 := by omega
        rw [run_slice_l (P := Try.prog) W 27 _ nw cw hue .i64 ((k : Int) + 1) (by omega) (by omega), hel, hsz, e1]
        by_cases e : cw = k + 1 <;> simp [Result.andThen, sliced, add_eq, e, ← hm]
    have HT1 := Lib.hid (fun W (hW : New w W) => waits_src ((hwr.take (k := k) (c' := cw) (by omega) (by omega) (by unfold maxLen; omega)).kept hW (Nat.le_refl _) fun _ _ h => h))
    have hd : SliceOf repW w w.heap.size A1 m (cw - (k + 1)) (L.waits.drop (k + 1)) := by
      rcases hA1 with rfl | e
      · have := hwr.drop (k := k + 1) (by omega)
        rw [← hm] at this
        exact this
      · exact ⟨by rw [List.length_drop]; omega, by omega, by unfold maxLen; omega, .inl e⟩
    have HT2 := Lib.hid (fun W (hW : New w W) => waits_src (hd.kept hW (Nat.le_refl _) fun _ _ h => h))
    have HC := Lib.hid (fun W (hW : New w W) => (show W.cell? ⟨b, 2, none⟩ = some (.slice (some ⟨g, o, none⟩) nw cw) ∧ W.frozen? ⟨b, 2, none⟩ = false from ⟨by rw [hnw]; exact (HP.out W hW).cells.2.2.1, (HP.out W hW).blk.free 2⟩))
    have HM := Lib.hid (show k + m = (L.waits.eraseIdx k).length by rw [List.length_eraseIdx, if_pos (by omega)]; omega)
    have b2 : k + m ≤ nw := by omega
    have k1 : New w (w.alloc (.cells #[] 36)) := (Kept.refl _ _).alloc _
    obtain ⟨x1, -⟩ := HC.out _ k1
    have hrow0 : Row (w.alloc (.cells #[] 36)) 2 none (some ⟨w.heap.size, 0, none⟩) 0 0 [] := ⟨rfl, .inl ⟨rfl, rfl, rfl⟩⟩
    have hsrc1 := HT1.out _ k1
    have HPP := Lib.hid hp
    have HPL := Lib.hid hpl
    have HNW := Lib.hid hnw
    have H1 := Lib.hid h1
    have H2 := Lib.hid h2
    have K1 := Lib.hid k1
    have HROW0 := Lib.hid hrow0
    have HSRC1 := Lib.hid hsrc1
    clear hpl hnw h1 h2 k1 hrow0 hsrc1
    clear h3 h4 h0 hk hm hel hue hsz hA1 hd hwr hp
    go_enter Try.func59, Try.ntmps59
    go_wp2_with fail
    refine HPL.out.mono ?_
    rintro e w2 ⟨rfl, rfl⟩
    go_upto_region 5 with (at_builtin; refine wpList_append_row tyWaits rfl (.tmp 12) (.tmp 19) rfl rfl HROW0.out rfl HSRC1.out (by unfold maxLen; omega) (by omega) ?_; intro r2 A2 c2 w2 hr2 hk2 hn2; rw [Nat.zero_add, List.nil_append] at hr2; have hm2 : New w w2 := K1.out.step hk2 (fun i hi e => by cases e); obtain ⟨y1, yf⟩ := HC.out w2 hm2; have hs2 := HT2.out w2 hm2; have HF2 : Hid (∀ k, r2 = some k → w.heap.size ≤ k) := Lib.hid (fun k e => by (rcases hn2 k e with h | h); (cases h); (rw [← size1] at h; omega)); have HR2 := Lib.hid hr2; have HM2 := Lib.hid hm2; have HS2 := Lib.hid hs2; clear hr2 hk2 hn2 hm2 hs2)
    go_wp2_with (at_builtin; refine wpList_append_row tyWaits rfl (.tmp 22) (.tmp 30) rfl rfl HR2.out rfl HS2.out (by unfold maxLen; omega) (by omega) ?_; intro r3 A3 c3 w3 hr3 hk3 hn3; have hm3 : New w w3 := HM2.out.step hk3 (fun i hi e => absurd (HF2.out i e) (Nat.not_le.2 hi)); obtain ⟨z1, zf⟩ := HC.out w3 hm3; have HF3 : Hid (∀ k, r3 = some k → w.heap.size ≤ k) := Lib.hid (fun k e => (hn3 k e).elim (fun h => HF2.out k h) (fun h => Nat.le_trans HM2.out.size h)); have HR3 := Lib.hid hr3; have HM3 := Lib.hid hm3; clear hr3 hk3 hn3 hm3)
    go_ret
    rw [E.out]
    exact AtT.new_waits H0.out HPP.out H1.out HM3.out (by first | exact HM.out | (rw [Nat.zero_add]; exact HM.out)) (by rw [List.eraseIdx_eq_take_drop_succ, List.flatMap_append]; have := HR3.out; simpa using this) HF3.out _
end
end Go.Proofs.Ytnfaafdgfafcjaa.Lane
