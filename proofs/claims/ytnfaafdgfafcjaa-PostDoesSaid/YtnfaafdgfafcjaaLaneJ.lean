/- The walks of the reference's More, Put, Drop, waits, Wait, End (layer 9). -/
import Derived.Test.YtnfaafdgfafcjaaLaneI
namespace Go.Proofs.Ytnfaafdgfafcjaa.Lane
open Go.RowKit Go.Fb
set_option linter.unusedVariables false
abbrev AtR := AtT 91
abbrev EndsR := EndsT 91
theorem rmore_any (n : Int) (w : World) (h0 : 0 ≤ n) (h1 : n ≤ 65535) : Calls Try.prog 62 #[.int .i64 n] w fun e w' => e = .returned (.int .i64 (min (n + 1) 65535)) ∧ w = w' := by
  by_cases h : 65535 ≤ n
  · obtain rfl : n = 65535 := by omega
    go_enter Try.func62, Try.ntmps62
    go_wp2
    go_ret
    exact ⟨by simp [Array.getD]; omega, rfl⟩
  · have E := Lib.hid (show min (n + 1) 65535 = n + 1 by omega)
    have h2 : n < 65535 := by omega
    clear h
    go_enter Try.func62, Try.ntmps62
    go_wp2
    go_ret
    exact ⟨by rw [E.out]; simp [Array.getD], rfl⟩
section
variable {w : World} {b : Nat} {F : Nat → Prop} {L : Lane}
theorem still_endsR {w' : World} (h : AtR w b F L) (hk : New w w') (v : Value) : EndsR w b F L v (.returned v) w' := ⟨rfl, h.still hk, hk.mono fun _ _ h => h.elim⟩
/-- New lists of one's own: the ends. -/
theorem AtT.new_vals {T : TypeId} {w2 : World} {rv : Option Nat} {Av : Option Addr} {cv : Nat} {rw : Option Nat} {Aw : Option Addr} {cw : Nat} (h : AtT T w b F L) (hp : PartsT T w b L rv Av cv rw Aw cw) (h2 : ∀ k, rw = some k → F k) (hk : New w w2) {r' : Option Nat} {A' : Option Addr} {c' : Nat} {vals' : List Int} {m : Nat} (hm : m = vals'.length) (hrow : Row w2 1 r' A' m c' (vals'.map (Value.int .i64))) (hr : ∀ k, r' = some k → w.heap.size ≤ k) (v : Value) :
    EndsT T w b F { L with vals := vals' } v (.returned v) (w2.setCell ⟨b, 1, none⟩ (.slice A' m c')) := by
  subst hm
  have hp2 := hp.put_vals hrow (hk.mono fun _ _ h => h.elim) (fun k e => .inr (hr k e))
  have hkk : Kept F w (w2.setCell ⟨b, 1, none⟩ (.slice A' vals'.length c')) := Kept.setCell (p := ⟨b, 1, none⟩) (hk.mono fun _ _ h => h.elim) (.inr h.fb) _
  exact ⟨rfl, PartsT.ends h hp2 (fun k e => .inr (hr k e)) (fun k e => .inl (h2 k e)) hkk.size, hkk⟩
theorem AtT.new_waits {T : TypeId} {w2 : World} {rv : Option Nat} {Av : Option Addr} {cv : Nat} {rw : Option Nat} {Aw : Option Addr} {cw : Nat} (h : AtT T w b F L) (hp : PartsT T w b L rv Av cv rw Aw cw) (h2 : ∀ k, rv = some k → F k) (hk : New w w2) {r' : Option Nat} {A' : Option Addr} {c' : Nat} {ws : List (Int × Int)} {m : Nat} (hm : m = ws.length) (hrow : Row w2 2 r' A' m c' (ws.flatMap cellsW)) (hr : ∀ k, r' = some k → w.heap.size ≤ k) (v : Value) :
    EndsT T w b F { L with waits := ws } v (.returned v) (w2.setCell ⟨b, 2, none⟩ (.slice A' m c')) := by
  subst hm
  have hp2 := hp.put_waits hrow (hk.mono fun _ _ h => h.elim) (fun k e => .inr (hr k e))
  have hkk : Kept F w (w2.setCell ⟨b, 2, none⟩ (.slice A' ws.length c')) := Kept.setCell (p := ⟨b, 2, none⟩) (hk.mono fun _ _ h => h.elim) (.inr h.fb) _
  exact ⟨rfl, PartsT.ends h hp2 (fun k e => .inl (h2 k e)) (fun k e => .inr (hr k e)) hkk.size, hkk⟩
set_option maxHeartbeats 1000000 in
theorem rput_any (h : AtR w b F L) (v : Int) (hlen : L.vals.length ≤ 1048576) : Calls Try.prog 51 #[.pointer (some ⟨b, 0, none⟩), .int .i64 v] w (EndsR w b F (putL L v).1 (.int .i64 (putL L v).2)) := by
  have H0 := Lib.hid h
  obtain ⟨⟨rv, Av, cv, rw, Aw, cw, hp, h1, h2⟩, h3, h4⟩ := h
  have HP := Lib.hid (fun W (hW : New w W) => hp.kept hW id (fun _ _ h => h) (fun _ _ h => h))
  obtain ⟨c0, c1, c2, c3, c4⟩ := hp.cells
  have hb := hp.vals.bound
  by_cases hf : L.room ≤ (L.vals.length : Int)
  · have E := Lib.hid (show putL L v = (L, 19) from if_pos hf)
    obtain ⟨nv, hnv⟩ : ∃ n, n = L.vals.length := ⟨_, rfl⟩
    rw [← hnv] at c1 hb hlen hf
    have HNV := Lib.hid hnv
    clear hnv
    clear hp h1 h2 h3 h4
    go_enter Try.func51, Try.ntmps51
    go_wp2_with fail
    go_quiet (fail)
    go_wp2_with fail
    go_ret
    rw [E.out]
    exact still_endsR H0.out ((Kept.refl _ _).drewN _) _
  · have E := Lib.hid (show putL L v = ({ L with vals := L.vals ++ [v] }, 0) from if_neg hf)
    have hf' : (L.vals.length : Int) < L.room := by omega
    obtain ⟨nv, hnv⟩ : ∃ n, n = L.vals.length := ⟨_, rfl⟩
    have HSR := Lib.hid (fun W (hW : New w W) => vals_src ((vals_read hp.vals rfl).kept hW (Nat.le_refl _) fun _ _ h => h))
    rw [← hnv] at c1 hb hlen hf' HSR
    have HC1 := Lib.hid (fun W (hW : New w W) => (show W.cell? ⟨b, 1, none⟩ = some (.slice Av nv cv) ∧ W.frozen? ⟨b, 1, none⟩ = false from ⟨by rw [hnv]; exact (HP.out W hW).cells.2.1, (HP.out W hW).blk.free 1⟩))
    have HNV := Lib.hid hnv
    have H1 := Lib.hid h1
    have H2 := Lib.hid h2
    have HPP := Lib.hid hp
    clear hnv h1 h2 hp
    clear h3 h4 hf
    go_enter Try.func51, Try.ntmps51
    go_wp2_with fail
    go_quiet (fail)
    go_upto_region 3 with (fail)
    have hn1 : New w (w.drewN nq) := (Kept.refl _ _).drewN nq
    generalize w.drewN nq = w1 at *
    have k1 : New w1 (w1.alloc (.cells #[] 2)) := (Kept.refl _ _).alloc _
    obtain ⟨x1, -⟩ := HC1.out _ (hn1.trans k1)
    have hrow0 : Row (w1.alloc (.cells #[] 2)) 1 none (some ⟨w1.heap.size, 0, none⟩) 0 0 [] := ⟨rfl, .inl ⟨rfl, rfl, rfl⟩⟩
    have hsrc := HSR.out _ (hn1.trans k1)
    have K1 := Lib.hid k1
    have HROW0 := Lib.hid hrow0
    have HSRC := Lib.hid hsrc
    have HN1 := Lib.hid hn1
    clear k1 hrow0 hsrc hn1
    clear c0 c1 c2 c3 c4
    go_wp2_with (first | (at_builtin; refine wpList_append_row tyVals rfl (.tmp 17) (.tmp 22) rfl rfl HROW0.out rfl HSRC.out (by unfold maxLen; omega) (by omega) ?_; intro r2 A2 c2 w2 hr2 hk2 hn2; rw [Nat.zero_add, List.nil_append] at hr2; have hm2 : New w w2 := (HN1.out.trans K1.out).step hk2 (fun i hi e => by cases e); have HF2 : Hid (∀ k, r2 = some k → w.heap.size ≤ k) := Lib.hid (fun k e => by (rcases hn2 k e with h | h); (cases h); (rw [← size1] at h; have := HN1.out.size; omega)); have HR2 := Lib.hid hr2; have HM2 := Lib.hid hm2; clear hr2 hk2 hn2 hm2) | (at_builtin; refine wpList_append_one (cs := [.int .i64 v]) tyVals rfl (.tmp 23) (.tmp 25) rfl rfl HR2.out rfl rfl rfl (by simp [Value.oneCell']) (by unfold maxLen; omega) (by omega) ?_; intro r3 A3 c3 w3 hr3 hk3 hn3; have hm3 : New w w3 := HM2.out.step hk3 (fun i hi e => absurd (HF2.out i e) (Nat.not_le.2 hi)); obtain ⟨y1, yf⟩ := HC1.out w3 hm3; have HF3 : Hid (∀ k, r3 = some k → w.heap.size ≤ k) := Lib.hid (fun k e => (hn3 k e).elim (fun h => HF2.out k h) (fun h => Nat.le_trans HM2.out.size h)); have HR3 := Lib.hid hr3; have HM3 := Lib.hid hm3; clear hr3 hk3 hn3 hm3))
    go_ret
    rw [E.out]
    exact AtT.new_vals H0.out HPP.out H2.out HM3.out (by rw [List.length_append, ← HNV.out]; simp) (by rw [List.map_append]; have := HR3.out; simpa using this) HF3.out _
theorem rdrop_any (h : AtR w b F L) (ht : 0 ≤ L.dropped ∧ L.dropped ≤ 65535) : Calls Try.prog 53 #[.pointer (some ⟨b, 0, none⟩)] w (EndsR w b F { L with dropped := min (L.dropped + 1) 65535 } (.tuple #[])) := by
  have H0 := Lib.hid h
  obtain ⟨⟨rv, Av, cv, rw, Aw, cw, hp, h1, h2⟩, h3, h4⟩ := h
  obtain ⟨c0, c1, c2, c3, c4⟩ := hp.cells
  have f4 := hp.blk.free 4
  have hq := hp.put_dropped (min (L.dropped + 1) 65535)
  have hmore := fun W => rmore_any L.dropped W ht.1 ht.2
  have HQ := Lib.hid hq
  have HMORE := Lib.hid hmore
  have H1 := Lib.hid h1
  have H2 := Lib.hid h2
  have H3 := Lib.hid h3
  clear hq hmore h1 h2 h3
  clear hp ht h4
  go_enter Try.func53, Try.ntmps53
  go_wp2_with (refine (HMORE.out _).mono ?_; rintro e w' ⟨rfl, rfl⟩)
  go_end0
  have hk : Kept F w (w.setCell ⟨b, 4, none⟩ (.int .i64 (min (L.dropped + 1) 65535))) := (Kept.refl F w).setCell (.inr H3.out) _
  exact ⟨rfl, PartsT.ends H0.out HQ.out (fun k e => .inl (H1.out k e)) (fun k e => .inl (H2.out k e)) hk.size, hk⟩
theorem rend_any (h : AtR w b F L) : Calls Try.prog 61 #[.pointer (some ⟨b, 0, none⟩)] w fun e w' => ∃ r A c F', e = .returned (.slice A L.waits.length c) ∧ Row w' 2 r A L.waits.length c (L.waits.flatMap cellsW) ∧ AtR w' b F' { L with waits := [] } ∧
    (∀ k, F' k → F k) ∧ (∀ k, r = some k → F k ∧ ¬ F' k) ∧ Kept F w w' := by
  obtain ⟨⟨rv, Av, cv, rw, Aw, cw, hp, h1, h2⟩, h3, h4⟩ := h
  obtain ⟨c0, c1, c2, c3, c4⟩ := hp.cells
  have hb := hp.waits.bound
  have f2 := hp.blk.free 2
  have hq := (PartsT.put_waits (w2 := w) (rw := rw) (r' := none) (A' := none) (c' := 0) (ws := []) hp (Row.nil _ _) (Kept.refl _ _) (by simp))
  have hrow := hp.waits.of_kept (by decide) (Kept.set1 w b 2 (.slice none 0 0)) (fun k h e => by subst e; exact hp.d2 h)
  have hlt := hp.vals.lt (by decide)
  have hbl := hp.b_lt
  have hd1 := hp.d1
  have hd3 := hp.d3
  have hd2 := hp.d2
  obtain ⟨nw, hnw⟩ : ∃ n, n = L.waits.length := ⟨_, rfl⟩
  rw [← hnw] at c2 hb hrow ⊢
  have HQ := Lib.hid hq
  have HROW := Lib.hid hrow
  have H1 := Lib.hid h1
  have H2 := Lib.hid h2
  have H3 := Lib.hid h3
  have H4 := Lib.hid h4
  have HLT := Lib.hid hlt
  have HD1 := Lib.hid hd1
  have HD2 := Lib.hid hd2
  have HD3 := Lib.hid hd3
  have HNW := Lib.hid hnw
  have HBL := Lib.hid hbl
  clear hq hrow h1 h2 h3 h4 hlt hd1 hd2 hd3 hnw hbl
  clear hp
  go_enter Try.func61, Try.ntmps61
  go_wp2_with fail
  go_ret
  refine ⟨rw, Aw, cw, fun k => k = b ∨ rv = some k, by simp [Array.getD], HROW.out, ⟨⟨rv, Av, cv, none, none, 0, HQ.out, fun k hk => .inr hk, by simp⟩, .inl rfl, ?_⟩, ?_, ?_, (Kept.refl F w).setCell (.inr H3.out) _⟩
  · rintro k (rfl | hk)
    · rw [← size_set]; exact HBL.out
    · rw [← size_set]; exact HLT.out k hk
  · rintro k (rfl | hk)
    · exact H3.out
    · exact H1.out k hk
  · intro k hk
    refine ⟨H2.out k hk, ?_⟩
    rintro (rfl | h)
    · exact HD2.out hk
    · exact HD3.out k h hk
set_option maxHeartbeats 1000000 in
theorem rwaits_any (h : AtR w b F L) (p : Int) : Calls Try.prog 64 #[.pointer (some ⟨b, 0, none⟩), .int .i64 p] w fun e w' => e = .returned (.int .i64 (placeAt p L.waits)) ∧ w = w' := by
  obtain ⟨⟨rv, Av, cv, rw, Aw, cw, hp, h1, h2⟩, h3, h4⟩ := h
  obtain ⟨c0, c1, c2, c3, c4⟩ := hp.cells
  have hb := hp.waits.bound
  have hw := waits_read hp.waits rfl
  have HIT := Lib.hid (fun k hk h1 h2 => place_hit (p := p) (l := L.waits) (k := k) hk h1 h2)
  have MISS := Lib.hid (fun h => place_miss (p := p) (l := L.waits) h)
  obtain ⟨n, hn⟩ : ∃ n, n = L.waits.length := ⟨_, rfl⟩
  rw [← hn] at c2 hb hw
  have HN := Lib.hid hn
  have HW := Lib.hid hw
  clear hn hw
  clear hp h1 h2 h3 h4
  go_enter Try.func64, Try.ntmps64
  go_wp2_with fail
  go_loopw [5] (fun i wr => ∃ j : Nat, j ≤ n ∧ i = .int .i64 j ∧ wr = w ∧ Hid (∀ i (hi : i < L.waits.length), i < j → L.waits[i].1 ≠ p)) (fun i _ => (n - (intOf i).toNat))
  case atStart => exact ⟨0, Nat.zero_le _, rfl, rfl, Lib.hid fun i hi h => absurd h (Nat.not_lt_zero _)⟩
  case round =>
    obtain ⟨j, hj, rfl, rfl, A0⟩ := hrel
    by_cases hlt : j < n
    · have hjl : j < L.waits.length := by rw [← HN.out]; exact hlt
      obtain ⟨g, o, rfl, -, hc⟩ := waits_at HW.out (by omega)
      obtain ⟨x0, x1⟩ := hc j hjl
      have HE := Lib.hid (fun h => HIT.out j hjl A0.out h)
      have HN1 := Lib.hid (fun (hq : L.waits[j].1 ≠ p) i (hi : i < L.waits.length) (h : i < j + 1) => show L.waits[i].1 ≠ p by
        by_cases e : i = j
        · subst e; exact hq
        · exact A0.out i hi (by omega))
      generalize L.waits[j].1 = q at *
      clear hc x1
      by_cases he : q = p
      · have E := Lib.hid (HE.out he)
        subst he
        go_wp2_with fail
        go_ret
        exact ⟨by rw [E.out]; rfl, by trivial⟩
      · have H2 := Lib.hid (HN1.out he)
        have he' : (q == p) = false := by simpa using he
        clear he
        go_wp2_with fail
        go_roundw
        case rel => exact ⟨j + 1, by omega, by go_num, trivial, H2⟩
        case measure => simp [intOf]; omega
    · obtain rfl : j = n := by omega
      have E := Lib.hid (MISS.out (fun i hi => A0.out i hi (by rw [HN.out]; exact hi)))
      go_wp2_with fail
      go_ret
      exact ⟨by rw [E.out]; rfl, by trivial⟩
end
end Go.Proofs.Ytnfaafdgfafcjaa.Lane
