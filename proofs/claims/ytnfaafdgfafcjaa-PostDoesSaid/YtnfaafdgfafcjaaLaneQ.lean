/- The walks of package lane's Wait, End (layer 9). -/
import Derived.Test.YtnfaafdgfafcjaaLaneP
namespace Go.Proofs.Ytnfaafdgfafcjaa.Lane
open Go.RowKit Go.Fb
set_option linter.unusedVariables false
section
variable {w : World} {b : Nat} {F : Nat → Prop} {L : Lane}
def waitL (L : Lane) (p v : Int) : Lane × Int := if ¬ L.room ≤ (L.vals.length : Int) then (L, 20) else if 0 ≤ placeAt p L.waits then (L, 8) else ({ L with waits := L.waits ++ [(p, v)] }, 0)
set_option maxHeartbeats 1000000 in
theorem wait_any (h : At w b F L) (p v : Int) (hlen : L.waits.length ≤ 8000000000000) : Calls Try.prog 56 #[.pointer (some ⟨b, 0, none⟩), .int .i64 p, .int .i64 v] w (Ends w b F (waitL L p v).1 (.int .i64 (waitL L p v).2)) := by
  have hfull := full_any h
  by_cases hf : L.room ≤ (L.vals.length : Int)
  · rw [decide_eq_true hf] at hfull
    have hpl := fun q => place_any (h.drewN q) p
    by_cases hp0 : 0 ≤ placeAt p L.waits
    · have E := Lib.hid (show waitL L p v = (L, 8) by unfold waitL; rw [if_neg (by simpa using hf), if_pos hp0])
      generalize placeAt p L.waits = pl at *
      have H := Lib.hid h
      have HFULL := Lib.hid hfull
      have HPL := Lib.hid hpl
      clear h hfull hpl
      clear hf hlen
      go_enter Try.func56, Try.ntmps56
      go_wp2_with (first | (go_at_call 46; refine HFULL.out.mono ?_; rintro e w1 ⟨rfl, q, rfl⟩) | (go_at_call 63; refine (HPL.out q).mono ?_; rintro e w2 ⟨rfl, hw2⟩))
      go_ret
      rw [E.out]
      have hk : New w w2 := ((Kept.refl _ _).drewN q).trans hw2
      exact ⟨rfl, H.out.still hk, hk.mono fun _ _ h => h.elim⟩
    · have E := Lib.hid (show waitL L p v = ({ L with waits := L.waits ++ [(p, v)] }, 0) by unfold waitL; rw [if_neg (by simpa using hf), if_neg hp0])
      have hp1 : placeAt p L.waits < 0 := by omega
      generalize placeAt p L.waits = pl at *
      have H0 := Lib.hid h
      obtain ⟨⟨rv, Av, cv, rw, Aw, cw, hp, h1, h2⟩, h3, h4⟩ := h
      have HP := Lib.hid (fun W (hW : New w W) => hp.kept hW id (fun _ _ h => h) (fun _ _ h => h))
      have hb := hp.waits.bound
      obtain ⟨nw, hnw⟩ : ∃ n, n = L.waits.length := ⟨_, rfl⟩
      have HCE := Lib.hid (fun W (hW : New w W) => (show W.cell? ⟨b, 2, none⟩ = some (.slice Aw nw cw) by rw [hnw]; exact (hp.kept hW id (fun _ _ h => h) (fun _ _ h => h)).cells.2.2.1))
      rw [← hnw] at hb hlen
      have HNW := Lib.hid hnw
      have HFULL := Lib.hid hfull
      have H1 := Lib.hid h1
      have H2 := Lib.hid h2
      have H3 := Lib.hid h3
      have H4 := Lib.hid h4
      have HPL := Lib.hid hpl
      clear hfull h1 h2 h3 h4 hpl
      clear hf hp hnw hp0
      go_enter Try.func56, Try.ntmps56
      go_wp2_with (first | (go_at_call 46; refine HFULL.out.mono ?_; rintro e w1 ⟨rfl, q, rfl⟩) | (go_at_call 63; refine (HPL.out q).mono ?_; rintro e w3 ⟨rfl, hw3⟩; have hk3 := ((Kept.refl (fun _ => False) w).drewN q).trans hw3; have x0 := HCE.out w3 hk3; have hroww := (HP.out w3 hk3).waits; rw [← HNW.out] at hroww; have HROWW := Lib.hid hroww; have HK3 := Lib.hid hk3; clear hroww hk3 hw3) | (at_builtin; refine wpList_append_one (cs := [.int .i64 p, .int .i64 v]) tyWaits rfl (.tmp 20) (.tmp 24) rfl rfl HROWW.out rfl rfl rfl (by simp [Value.oneCell']) (by unfold maxLen; omega) (by omega) ?_; intro r2 A2 c2' w2 hr2 hk2 hn2; have hb2 := ((HP.out w3 HK3.out).blk.kept hk2 (HP.out w3 HK3.out).d2); have x1 := hb2.cell 2; have x2 := hb2.free 2; simp only [laneC, List.getElem?_toArray, List.getElem?_cons_zero, List.getElem?_cons_succ] at x1; have HR2 := Lib.hid hr2; have HK2 := Lib.hid hk2; have HN2 := Lib.hid hn2; clear hr2 hk2 hn2 hb2))
      go_ret
      have hp2 := (HP.out w3 HK3.out).put_waits (ws := L.waits ++ [(p, v)]) (r' := r2) (A' := A2) (c' := c2') (w2 := w2) (by have := HR2.out; rw [List.length_append, List.flatMap_append, ← HNW.out]; exact this) HK2.out HN2.out
      have e : (L.waits ++ [(p, v)]).length = nw + 1 := by rw [List.length_append, ← HNW.out]; rfl
      rw [e] at hp2
      have hkk : Kept F w (w2.setCell ⟨b, 2, none⟩ (.slice A2 (nw + 1) c2')) := ((HK3.out.mono fun _ _ h => h.elim).step HK2.out fun k hk h => H2.out k h).setCell (.inr H3.out) _
      rw [E.out]
      refine ⟨rfl, PartsT.ends H0.out hp2 (fun k hk => .inl (H1.out k hk)) (fun k hk => ?_) hkk.size, hkk⟩
      rcases HN2.out k hk with h | h
      · exact .inl (H2.out k h)
      · exact .inr (Nat.le_trans HK3.out.size h)
  · rw [decide_eq_false hf] at hfull
    have E := Lib.hid (show waitL L p v = (L, 20) from if_pos (by simpa using hf))
    have H := Lib.hid h
    have HFULL := Lib.hid hfull
    clear h hfull
    clear hf hlen
    go_enter Try.func56, Try.ntmps56
    go_wp2_with (refine HFULL.out.mono ?_; rintro e w1 ⟨rfl, q, rfl⟩)
    go_ret
    rw [E.out]
    exact ⟨rfl, H.out.still ((Kept.refl _ _).drewN q), ((Kept.refl _ _).drewN q)⟩
end
end Go.Proofs.Ytnfaafdgfafcjaa.Lane
