/- The walks of the reference's Wait, Take (layer 9). -/
import Derived.Test.YtnfaafdgfafcjaaLaneJ
namespace Go.Proofs.Ytnfaafdgfafcjaa.Lane
open Go.RowKit Go.Fb
set_option linter.unusedVariables false
section
variable {w : World} {b : Nat} {F : Nat → Prop} {L : Lane}
set_option maxHeartbeats 1000000 in
theorem rwait_any (h : AtR w b F L) (p v : Int) (hlen : L.waits.length ≤ 8000000000000) : Calls Try.prog 57 #[.pointer (some ⟨b, 0, none⟩), .int .i64 p, .int .i64 v] w (EndsR w b F (waitL L p v).1 (.int .i64 (waitL L p v).2)) := by
  have H0 := Lib.hid h
  have hpl := fun q => rwaits_any (h.drewN q) p
  obtain ⟨⟨rv, Av, cv, rw, Aw, cw, hp, h1, h2⟩, h3, h4⟩ := h
  have HP := Lib.hid (fun W (hW : New w W) => hp.kept hW id (fun _ _ h => h) (fun _ _ h => h))
  obtain ⟨c0, c1, c2, c3, c4⟩ := hp.cells
  have hb := hp.vals.bound
  have hb2 := hp.waits.bound
  by_cases hf : L.room ≤ (L.vals.length : Int)
  · by_cases hp0 : 0 ≤ placeAt p L.waits
    · have E := Lib.hid (show waitL L p v = (L, 8) by unfold waitL; rw [if_neg (by simpa using hf), if_pos hp0])
      obtain ⟨nv, hnv⟩ : ∃ n, n = L.vals.length := ⟨_, rfl⟩
      rw [← hnv] at c1 hb hf
      generalize placeAt p L.waits = pl at *
      have HNV := Lib.hid hnv
      have HPL := Lib.hid hpl
      clear hnv hpl
      clear hp h1 h2 h3 h4
      go_enter Try.func57, Try.ntmps57
      go_wp2_with fail
      go_quiet (fail)
      go_wp2_with fail
      refine (HPL.out _).mono ?_
      rintro e w2 ⟨rfl, rfl⟩
      go_wp2_with fail
      go_ret
      rw [E.out]
      exact still_endsR H0.out ((Kept.refl _ _).drewN _) _
    · have E := Lib.hid (show waitL L p v = ({ L with waits := L.waits ++ [(p, v)] }, 0) by unfold waitL; rw [if_neg (by simpa using hf), if_neg hp0])
      have hp1 : placeAt p L.waits < 0 := by omega
      generalize placeAt p L.waits = pl at *
      obtain ⟨nv, hnv⟩ : ∃ n, n = L.vals.length := ⟨_, rfl⟩
      obtain ⟨nw, hnw⟩ : ∃ n, n = L.waits.length := ⟨_, rfl⟩
      have HSR := Lib.hid (fun W (hW : New w W) => waits_src ((waits_read hp.waits rfl).kept hW (Nat.le_refl _) fun _ _ h => h))
      rw [← hnv] at c1 hb hf
      rw [← hnw] at c2 hb2 hlen HSR
      have HC1 := Lib.hid (fun W (hW : New w W) => (show W.cell? ⟨b, 2, none⟩ = some (.slice Aw nw cw) ∧ W.frozen? ⟨b, 2, none⟩ = false from ⟨by rw [hnw]; exact (HP.out W hW).cells.2.2.1, (HP.out W hW).blk.free 2⟩))
      have HNV := Lib.hid hnv
      have HNW := Lib.hid hnw
      have HPL := Lib.hid hpl
      have H1 := Lib.hid h1
      have H2 := Lib.hid h2
      have HPP := Lib.hid hp
      clear hnv hnw hpl h1 h2 hp
      clear h3 h4 hp0
      go_enter Try.func57, Try.ntmps57
      go_wp2_with fail
      go_quiet (fail)
      go_wp2_with fail
      refine (HPL.out _).mono ?_
      rintro e w2 ⟨rfl, rfl⟩
      go_upto_region 5 with (fail)
      have hn1 : New w (w.drewN nq) := (Kept.refl _ _).drewN nq
      generalize w.drewN nq = w1 at *
      have k1 : New w1 (w1.alloc (.cells #[] 36)) := (Kept.refl _ _).alloc _
      obtain ⟨x1, -⟩ := HC1.out _ (hn1.trans k1)
      have hrow0 : Row (w1.alloc (.cells #[] 36)) 2 none (some ⟨w1.heap.size, 0, none⟩) 0 0 [] := ⟨rfl, .inl ⟨rfl, rfl, rfl⟩⟩
      have hsrc := HSR.out _ (hn1.trans k1)
      have K1 := Lib.hid k1
      have HROW0 := Lib.hid hrow0
      have HSRC := Lib.hid hsrc
      have HN1 := Lib.hid hn1
      clear k1 hrow0 hsrc hn1
      clear c0 c1 c2 c3 c4
      go_wp2_with (first | (at_builtin; refine wpList_append_row tyWaits rfl (.tmp 23) (.tmp 28) rfl rfl HROW0.out rfl HSRC.out (by unfold maxLen; omega) (by omega) ?_; intro r2 A2 c2 w2 hr2 hk2 hn2; rw [Nat.zero_add, List.nil_append] at hr2; have hm2 : New w w2 := (HN1.out.trans K1.out).step hk2 (fun i hi e => by cases e); have HF2 : Hid (∀ k, r2 = some k → w.heap.size ≤ k) := Lib.hid (fun k e => by (rcases hn2 k e with h | h); (cases h); (rw [← size1] at h; have := HN1.out.size; omega)); have HR2 := Lib.hid hr2; have HM2 := Lib.hid hm2; clear hr2 hk2 hn2 hm2) | (at_builtin; refine wpList_append_one (cs := [.int .i64 p, .int .i64 v]) tyWaits rfl (.tmp 29) (.tmp 33) rfl rfl HR2.out rfl rfl rfl (by simp [Value.oneCell']) (by unfold maxLen; omega) (by omega) ?_; intro r3 A3 c3 w3 hr3 hk3 hn3; have hm3 : New w w3 := HM2.out.step hk3 (fun i hi e => absurd (HF2.out i e) (Nat.not_le.2 hi)); obtain ⟨y1, yf⟩ := HC1.out w3 hm3; have HF3 : Hid (∀ k, r3 = some k → w.heap.size ≤ k) := Lib.hid (fun k e => (hn3 k e).elim (fun h => HF2.out k h) (fun h => Nat.le_trans HM2.out.size h)); have HR3 := Lib.hid hr3; have HM3 := Lib.hid hm3; clear hr3 hk3 hn3 hm3))
      go_ret
      rw [E.out]
      exact AtT.new_waits H0.out HPP.out H1.out HM3.out (by rw [List.length_append, ← HNW.out]; simp) (by rw [List.flatMap_append]; have := HR3.out; simpa [cellsW] using this) HF3.out _
  · have E := Lib.hid (show waitL L p v = (L, 20) from if_pos (by simpa using hf))
    have hf' : (L.vals.length : Int) < L.room := by omega
    obtain ⟨nv, hnv⟩ : ∃ n, n = L.vals.length := ⟨_, rfl⟩
    rw [← hnv] at c1 hb hf'
    have HNV := Lib.hid hnv
    have HPL := Lib.hid hpl
    clear hnv hpl
    clear hp h1 h2 h3 h4 hf
    go_enter Try.func57, Try.ntmps57
    go_wp2_with fail
    go_quiet (fail)
    go_wp2_with fail
    go_ret
    rw [E.out]
    exact still_endsR H0.out ((Kept.refl _ _).drewN _) _
/-- What is behind the first. -/
theorem tail_of {α : Type} {R : Rep α} {w : World} {B g o n c : Nat} {x : α} {l : List α} {A1 : Option Addr} (h : SliceOf R w B (some ⟨g, o, none⟩) (n + 1) c (x :: l)) (hA : A1 = some ⟨g, o + R.size, none⟩ ∨ n = 0) : SliceOf R w B A1 n (c - 1) l := by
  have hb := h.bound
  rcases hA with rfl | rfl
  · have := h.drop (k := 1) (by omega)
    rw [Nat.one_mul, Nat.add_sub_cancel] at this
    exact this
  · have hl := h.len
    have e : l = [] := List.eq_nil_of_length_eq_zero (by simpa using hl)
    subst e
    exact ⟨rfl, Nat.zero_le _, by have := h.2.2.1; omega, .inl rfl⟩
theorem rtake_none (h : AtR w b F L) (hv : L.vals = []) : Calls Try.prog 54 #[.pointer (some ⟨b, 0, none⟩)] w (EndsR w b F L (tookV 0 (0, 0) false 21)) := by
  have k0 : New w (w.alloc (.cells #[.int .i64 0, .int .i64 0] 36)) := (Kept.refl _ _).alloc _
  have hA := h.still k0
  have hA2 := h.new k0
  have hb3 : Blk (w.alloc (.cells #[.int .i64 0, .int .i64 0] 36)) w.heap.size 36 #[.int .i64 0, .int .i64 0] := Blk.made _ _ _
  obtain ⟨⟨rv, Av, cv, rw, Aw, cw, hp, h1, h2⟩, h3, h4⟩ := hA2
  obtain ⟨c0, c1, c2, c3, c4⟩ := hp.cells
  rw [hv] at c1
  have hb := hp.vals.bound
  have HA := Lib.hid hA
  clear hA
  clear hp h1 h2 h3 h4 h hv hb
  go_enter Try.func54, Try.ntmps54
  go_wp2_with fail
  refine bodyPost_ret (v := tookV 0 (0, 0) false 21) (by simp [results, Try.results54, go_sem, tookV]) rfl ⟨rfl, HA.out, (Kept.refl _ _).alloc _⟩
/-- The end of the reference's Take: the result is laid into its cells. -/
theorem rtake_fin {w W3 : World} {b : Nat} {F : Nat → Prop} {L L' : Lane} (h : AtR w b F L) {rv : Option Nat} {Av : Option Addr} {cv : Nat} {rw : Option Nat} {Aw : Option Addr} {cw : Nat} (hp : PartsT 91 W3 b L' rv Av cv rw Aw cw)
    (hv : ∀ k, rv = some k → (F k ∨ w.heap.size ≤ k) ∧ k ≠ w.heap.size) (hw : ∀ k, rw = some k → (F k ∨ w.heap.size ≤ k) ∧ k ≠ w.heap.size) (hk : Kept F w W3) {T : TypeId} {c0 c1 : Value} (ht : Blk W3 w.heap.size T #[c0, c1]) (a0 a1 : Value) :
    AtR ((W3.setCell ⟨w.heap.size, 0, none⟩ a0).setCell ⟨w.heap.size, 1, none⟩ a1) b (grow F w ((W3.setCell ⟨w.heap.size, 0, none⟩ a0).setCell ⟨w.heap.size, 1, none⟩ a1)) L' ∧ Kept F w ((W3.setCell ⟨w.heap.size, 0, none⟩ a0).setCell ⟨w.heap.size, 1, none⟩ a1) ∧
      ((W3.setCell ⟨w.heap.size, 0, none⟩ a0).setCell ⟨w.heap.size, 1, none⟩ a1).cell? ⟨w.heap.size, 0, none⟩ = some a0 ∧ ((W3.setCell ⟨w.heap.size, 0, none⟩ a0).setCell ⟨w.heap.size, 1, none⟩ a1).cell? ⟨w.heap.size, 1, none⟩ = some a1 := by
  have hb := h.lt b h.fb
  have hk1 : Kept (fun k => k = w.heap.size) W3 ((W3.setCell ⟨w.heap.size, 0, none⟩ a0).setCell ⟨w.heap.size, 1, none⟩ a1) := kept_at (kept_at (Kept.refl _ W3) 0 a0) 1 a1
  have hkk : Kept F w ((W3.setCell ⟨w.heap.size, 0, none⟩ a0).setCell ⟨w.heap.size, 1, none⟩ a1) := hk.step hk1 fun k hk e => by omega
  have hp' := hp.kept hk1 (by omega) (fun k hk => (hv k hk).2) (fun k hk => (hw k hk).2)
  have hb2 := (ht.set (i := 0) a0).set (i := 1) a1
  exact ⟨PartsT.ends h hp' (fun k hk => (hv k hk).1) (fun k hk => (hw k hk).1) hkk.size, hkk, hb2.cell 0, hb2.cell 1⟩
theorem rtake_fin2 {w W3 : World} {b : Nat} {F : Nat → Prop} {L L' : Lane} (h : AtR w b F L) {rv : Option Nat} {Av : Option Addr} {cv : Nat} {rw : Option Nat} {Aw : Option Addr} {cw : Nat} (hp : PartsT 91 W3 b L' rv Av cv rw Aw cw)
    (hv : ∀ k, rv = some k → (F k ∨ w.heap.size ≤ k) ∧ k ≠ w.heap.size) (hw : ∀ k, rw = some k → (F k ∨ w.heap.size ≤ k) ∧ k ≠ w.heap.size) (hk : Kept F w W3) {T : TypeId} {c0 c1 : Value} (ht : Blk W3 w.heap.size T #[c0, c1]) (a0 a1 : Value) :
    AtR ((W3.setCell ⟨w.heap.size, 0, none⟩ a0).setCell ⟨w.heap.size, 1, none⟩ a1).drew b (grow F w ((W3.setCell ⟨w.heap.size, 0, none⟩ a0).setCell ⟨w.heap.size, 1, none⟩ a1).drew) L' ∧ Kept F w ((W3.setCell ⟨w.heap.size, 0, none⟩ a0).setCell ⟨w.heap.size, 1, none⟩ a1).drew ∧
      ((W3.setCell ⟨w.heap.size, 0, none⟩ a0).setCell ⟨w.heap.size, 1, none⟩ a1).drew.cell? ⟨w.heap.size, 0, none⟩ = some a0 ∧ ((W3.setCell ⟨w.heap.size, 0, none⟩ a0).setCell ⟨w.heap.size, 1, none⟩ a1).drew.cell? ⟨w.heap.size, 1, none⟩ = some a1 := by
  obtain ⟨h1, h2, h3, h4⟩ := rtake_fin h hp hv hw hk ht a0 a1
  exact ⟨h1.new ((Kept.refl _ _).drew), h2.drew, h3, h4⟩
set_option maxHeartbeats 4000000 in
theorem rtake_some (h : AtR w b F L) (v : Int) (rest : List Int) (hv : L.vals = v :: rest) (hlen : L.vals.length ≤ 1048576) (hlw : L.waits.length ≤ 8000000000000) (ht : 0 ≤ L.taken ∧ L.taken ≤ 65535) : Calls Try.prog 54 #[.pointer (some ⟨b, 0, none⟩)] w (EndsR w b F (takeL L).1 (takeL L).2) := by
  have hn0 : New w (w.alloc (.cells #[.int .i64 0, .int .i64 0] 36)) := (Kept.refl _ _).alloc _
  have hb3 : Blk (w.alloc (.cells #[.int .i64 0, .int .i64 0] 36)) w.heap.size 36 #[.int .i64 0, .int .i64 0] := Blk.made _ _ _
  obtain ⟨⟨rv, Av, cv, rw, Aw, cw, hp, h1, h2⟩, h3, h4⟩ := h.new hn0
  have hbl := h.lt b h.fb
  have H := Lib.hid h
  obtain ⟨c0, c1, c2, c3, c4⟩ := hp.cells
  have hvals := hp.vals
  rw [hv, List.length_cons] at c1 hvals hlen
  have hbd := hvals.bound
  obtain ⟨g, o, rfl, rfl, hce, -⟩ := hvals.at_pos (by omega)
  have x0 : (w.alloc (.cells #[.int .i64 0, .int .i64 0] 36)).cell? ⟨g, o, none⟩ = some (.int .i64 v) := by have := hce 0 (by omega); simpa using this
  obtain ⟨n, hn⟩ : ∃ n, n = rest.length := ⟨_, rfl⟩
  rw [← hn] at c1 hvals hbd hlen
  have HN := Lib.hid hn
  obtain ⟨A1, hA1, hsl⟩ := run_from1 (P := Try.prog) 26 2 1 Try.underlying26 (fun W => by kernel_rfl) g o n cv hbd.1
  have hsl0 : SliceOf repV (w.alloc (.cells #[.int .i64 0, .int .i64 0] 36)) (w.alloc (.cells #[.int .i64 0, .int .i64 0] 36)).heap.size A1 n (cv - 1) rest := tail_of (vals_read hvals (by simp [hn])) hA1
  have HV := Lib.hid hv
  have HP := Lib.hid hp
  have HN0 := Lib.hid hn0
  have HB3 := Lib.hid hb3
  have HA1 := Lib.hid hA1
  have HSL0 := Lib.hid hsl0
  have H1 := Lib.hid h1
  have H2 := Lib.hid h2
  have H3 := Lib.hid h3
  clear hp hn0 hb3 hA1 hsl0 h1 h2 h3
  have HMORE := Lib.hid (fun W => rmore_any L.taken W ht.1 ht.2)
  clear hce hn hvals h4 hv h
  go_enter Try.func54, Try.ntmps54
  go_upto_region 4 with (fail)
  generalize w.alloc (.cells #[.int .i64 0, .int .i64 0] 36) = W0 at *
  have k1 : New W0 (W0.alloc (.cells #[] 2)) := (Kept.refl _ _).alloc _
  have HC1 := Lib.hid (fun W (hW : New W0 W) => (show W.cell? ⟨b, 1, none⟩ = some (.slice (some ⟨g, o, none⟩) (n + 1) cv) ∧ W.frozen? ⟨b, 1, none⟩ = false from ⟨(hW.cell (p := ⟨b, 1, none⟩) HP.out.blk.lt id).trans c1, (HP.out.blk.kept hW id).free 1⟩))
  obtain ⟨x1, -⟩ := HC1.out _ k1
  have hrow0 : Row (W0.alloc (.cells #[] 2)) 1 none (some ⟨W0.heap.size, 0, none⟩) 0 0 [] := ⟨rfl, .inl ⟨rfl, rfl, rfl⟩⟩
  have hsrc := vals_src (HSL0.out.kept k1 (Nat.le_refl _) fun _ _ h => h)
  have K1 := Lib.hid k1
  have HROW0 := Lib.hid hrow0
  have HSRC := Lib.hid hsrc
  clear k1 hrow0 hsrc
  clear c0 c2 c3 c4 x0
  go_upto_region 5 with (at_builtin; refine wpList_append_row tyVals rfl (.tmp 24) (.tmp 30) rfl rfl HROW0.out rfl HSRC.out (by unfold maxLen; omega) (by omega) ?_; intro r2 A2 c2 w2 hr2 hk2 hn2; rw [Nat.zero_add, List.nil_append] at hr2; have hm2 : New W0 w2 := K1.out.step hk2 (fun i hi e => by cases e); obtain ⟨y1, yf⟩ := HC1.out w2 hm2; have HF2 : Hid (∀ k, r2 = some k → W0.heap.size ≤ k) := Lib.hid (fun k e => by (rcases hn2 k e with h | h); (cases h); (rw [← size1] at h; omega)); have HR2 := Lib.hid hr2; have HM2 := Lib.hid hm2; clear hr2 hk2 hn2 hm2)
  have hp3 := HP.out.put_vals (w2 := w2) (r' := r2) (A' := A2) (c' := c2) (vals' := rest) (by rw [← HN.out]; exact HR2.out) (HM2.out.mono fun _ _ h => h.elim) (fun k e => .inr (HF2.out k e))
  have hbw : b ≠ w.heap.size := by omega
  have ht3 := (HB3.out.kept HM2.out id).other (p := ⟨b, 1, none⟩) hbw.symm (.slice A2 n c2)
  have hn3 : Kept F w (w2.setCell ⟨b, 1, none⟩ (.slice A2 n c2)) := Kept.setCell (p := ⟨b, 1, none⟩) ((HN0.out.trans HM2.out).mono fun _ _ h => h.elim) (.inr H3.out) _
  rw [← HN.out] at hp3
  generalize w2.setCell ⟨b, 1, none⟩ (.slice A2 n c2) = w3 at *
  have c3 := hp3.blk.cell 3
  have cf := hp3.blk.free 3
  simp [laneC] at c3
  have hp4 := hp3.put_taken (min (L.taken + 1) 65535)
  have ht4 := ht3.other (p := ⟨b, 3, none⟩) hbw.symm (.int .i64 (min (L.taken + 1) 65535))
  have hn4 : Kept F w (w3.setCell ⟨b, 3, none⟩ (.int .i64 (min (L.taken + 1) 65535))) := hn3.setCell (p := ⟨b, 3, none⟩) (.inr H3.out) _
  have HZ := Lib.hid (show w.heap.size < W0.heap.size from HB3.out.lt)
  have HZ2 := Lib.hid HM2.out.size
  have HP4 := Lib.hid hp4
  have HT4 := Lib.hid ht4
  have HN4 := Lib.hid hn4
  clear hp4 ht4 hn4
  clear hp3 ht3 hn3 y1 yf x1 c1 hsl HR2 HM2
  go_upto_region 6 with (refine (HMORE.out _).mono ?_; rintro e w' ⟨rfl, rfl⟩)
  generalize w3.setCell ⟨b, 3, none⟩ (.int .i64 (min (L.taken + 1) 65535)) = w4 at *
  have HFV : Hid (∀ k, r2 = some k → (F k ∨ w.heap.size ≤ k) ∧ k ≠ w.heap.size) := Lib.hid fun k e => by have := HF2.out k e; have := HZ.out; exact ⟨.inr (by omega), by omega⟩
  have HFW : Hid (∀ k, rw = some k → (F k ∨ w.heap.size ≤ k) ∧ k ≠ w.heap.size) := Lib.hid fun k e => by have h := H2.out k e; have := H.out.lt k h; exact ⟨.inl h, by omega⟩
  clear c3 cf HC1 HMORE HF2
  have c2 := HP4.out.blk.cell 2
  have t0 := HT4.out.cell 0
  have t1 := HT4.out.cell 1
  have tf := HT4.out.free
  simp [laneC] at c2 t0 t1
  cases hw : L.waits with
  | nil =>
    have E := Lib.hid (show takeL L = ({ L with vals := rest, taken := min (L.taken + 1) 65535 }, tookV v (0, 0) false 0) by unfold takeL; rw [HV.out, hw])
    rw [hw] at c2
    have HW := Lib.hid hw
    clear hw
    go_wp2_with fail
    obtain ⟨e1, e2, e3, e4⟩ := rtake_fin H.out HP4.out HFV.out HFW.out HN4.out HT4.out (.int .i64 0) (.int .i64 0)
    rw [E.out]
    refine bodyPost_ret (v := tookV v (0, 0) false 0) (by simp [results, Try.results54, go_sem, tookV, e3, e4]) rfl ⟨rfl, e1, e2⟩
  | cons q ws =>
    have E := Lib.hid (show takeL L = ({ L with vals := rest ++ [q.2], waits := ws, taken := min (L.taken + 1) 65535 }, tookV v q true 0) by unfold takeL; rw [HV.out, hw])
    have hwts := HP4.out.waits
    rw [show ({ L with vals := rest, taken := min (L.taken + 1) 65535 } : Lane).waits = L.waits from rfl, hw, List.length_cons] at hwts
    rw [hw, List.length_cons] at c2 hlw
    have hbw' := hwts.bound
    obtain ⟨gw, ow, rfl, rfl, hcw, -⟩ := hwts.at_pos (by omega)
    obtain ⟨m, hm⟩ : ∃ m, m = ws.length := ⟨_, rfl⟩
    rw [← hm] at c2 hwts hbw' hlw
    have q0 : w4.cell? ⟨gw, ow, none⟩ = some (.int .i64 q.1) := by have := hcw 0 (by omega); simpa [cellsW] using this
    have q1 : w4.cell? ⟨gw, ow + 1, none⟩ = some (.int .i64 q.2) := by have := hcw 1 (by omega); simpa [cellsW] using this
    obtain ⟨A3, hA3, hsl3⟩ := run_from1 (P := Try.prog) 27 36 2 Try.underlying27 (fun W => by kernel_rfl) gw ow m cw hbw'.1
    have hslw : SliceOf repW w4 w4.heap.size A3 m (cw - 1) ws := tail_of (waits_read hwts (by simp [hm])) hA3
    have k5 : New w4 (w4.alloc (.cells #[.int .i64 q.1, .int .i64 q.2] 36)) := (Kept.refl _ _).alloc _
    have hb5 : Blk (w4.alloc (.cells #[.int .i64 q.1, .int .i64 q.2] 36)) w4.heap.size 36 #[.int .i64 q.1, .int .i64 q.2] := Blk.made _ _ _
    have HBI := Lib.hid (show w.heap.size < w4.heap.size from HT4.out.lt)
    have HSLW := Lib.hid hslw
    have K5 := Lib.hid k5
    have HB5 := Lib.hid hb5
    have HW := Lib.hid hw
    have HM := Lib.hid hm
    have HA3 := Lib.hid hA3
    clear hslw k5 hb5 hw hm hA3
    clear hcw hwts t0 t1 tf
    go_upto_region 9 with (fail)
    generalize w4.alloc (.cells #[.int .i64 q.1, .int .i64 q.2] 36) = w5 at *
    obtain ⟨bi, hbi⟩ : ∃ bi, bi = w4.heap.size := ⟨_, rfl⟩
    rw [← hbi] at HB5 HBI HSLW ⊢
    have HBIE := Lib.hid hbi
    clear hbi q0 q1
    have hp5 := HP4.out.kept K5.out id (fun _ _ h => h) (fun _ _ h => h)
    have hn5 := HN4.out.step K5.out (fun _ _ h => h.elim)
    have ht5 := HT4.out.kept K5.out id
    have k6 : New w5 (w5.alloc (.cells #[] 36)) := (Kept.refl _ _).alloc _
    have HC2 := Lib.hid (fun W (hW : New w5 W) => (show W.cell? ⟨b, 2, none⟩ = some (.slice (some ⟨gw, ow, none⟩) (m + 1) cw) ∧ W.frozen? ⟨b, 2, none⟩ = false from ⟨((K5.out.trans hW).cell (p := ⟨b, 2, none⟩) HP4.out.blk.lt id).trans c2, (hp5.blk.kept hW id).free 2⟩))
    obtain ⟨x2, -⟩ := HC2.out _ k6
    have hrow1 : Row (w5.alloc (.cells #[] 36)) 2 none (some ⟨w5.heap.size, 0, none⟩) 0 0 [] := ⟨rfl, .inl ⟨rfl, rfl, rfl⟩⟩
    have hsrc1 := waits_src (HSLW.out.kept (K5.out.trans k6) (by rw [HBIE.out]; exact Nat.le_refl _) fun _ _ h => h)
    have K6 := Lib.hid k6
    have HROW1 := Lib.hid hrow1
    have HSRC1 := Lib.hid hsrc1
    have HP5 := Lib.hid hp5
    have HN5 := Lib.hid hn5
    have HT5 := Lib.hid ht5
    clear k6 hrow1 hsrc1 hp5 hn5 ht5
    clear c2
    go_upto_region 10 with (at_builtin; refine wpList_append_row tyWaits rfl (.tmp 62) (.tmp 68) rfl rfl HROW1.out rfl HSRC1.out (by unfold maxLen; omega) (by omega) ?_; intro r6 A6 c6 w6 hr6 hk6 hn6; rw [Nat.zero_add, List.nil_append] at hr6; have hm6 : New w5 w6 := K6.out.step hk6 (fun i hi e => by cases e); obtain ⟨y1, yf⟩ := HC2.out w6 hm6; have HF6 : Hid (∀ k, r6 = some k → w5.heap.size ≤ k) := Lib.hid (fun k e => by (rcases hn6 k e with h | h); (cases h); (rw [← size1] at h; omega)); have HR6 := Lib.hid hr6; have HM6 := Lib.hid hm6; clear hr6 hk6 hn6 hm6)
    have hp7 := HP5.out.put_waits (w2 := w6) (r' := r6) (A' := A6) (c' := c6) (ws := ws) (by rw [← HM.out]; exact HR6.out) (HM6.out.mono fun _ _ h => h.elim) (fun k e => .inr (HF6.out k e))
    rw [← HM.out] at hp7
    have hbw : b ≠ w.heap.size := fun e => by have := H.out.lt b H.out.fb; omega
    have hbi : b ≠ bi := fun e => by have := HP4.out.blk.lt; have := HBIE.out; omega
    have ht7 := (HT5.out.kept HM6.out id).other (p := ⟨b, 2, none⟩) hbw.symm (.slice A6 m c6)
    have hi7 := (HB5.out.kept HM6.out id).other (p := ⟨b, 2, none⟩) hbi.symm (.slice A6 m c6)
    have hn7 : Kept F w (w6.setCell ⟨b, 2, none⟩ (.slice A6 m c6)) := Kept.setCell (p := ⟨b, 2, none⟩) (HN5.out.step HM6.out (fun _ _ h => h.elim)) (.inr H3.out) _
    generalize w6.setCell ⟨b, 2, none⟩ (.slice A6 m c6) = w7 at *
    have v1 := hp7.blk.cell 1
    have vf := hp7.blk.free
    simp only [laneC, List.getElem?_toArray, List.getElem?_cons_zero, List.getElem?_cons_succ] at v1
    rw [← HN.out] at v1
    have z1 := hi7.cell 1
    simp only [List.getElem?_toArray, List.getElem?_cons_zero, List.getElem?_cons_succ] at z1
    have hrv := hp7.vals
    have hrv : Row w7 1 r2 A2 n c2 (rest.map (Value.int .i64)) := by rw [HN.out]; exact hrv
    have v3 : (w7.alloc (.cells #[.int .i64 q.2] 2)).cell? ⟨b, 1, none⟩ = some (.slice A2 n c2) := (((Kept.refl (fun _ => False) w7).alloc _).cell (p := ⟨b, 1, none⟩) (lt_of_cell v1).1 id).trans v1
    have HFR6 : Hid (∀ k, r6 = some k → (F k ∨ w.heap.size ≤ k) ∧ k ≠ w.heap.size) := Lib.hid fun k e => by have := HF6.out k e; have := HBI.out; have := HB5.out.lt; exact ⟨.inr (by omega), by omega⟩
    have HNB := Lib.hid hbw
    have HNI := Lib.hid hbi
    have HBMAX := Lib.hid hlen
    have HV2R := Lib.hid (fun k (e : r2 = some k) => show k < w7.heap.size from hrv.lt (by decide) k e)
    have HP7 := Lib.hid hp7
    have HT7 := Lib.hid ht7
    have HI7 := Lib.hid hi7
    have HN7 := Lib.hid hn7
    have HRV := Lib.hid hrv
    clear hp7 ht7 hi7 hn7 hrv
    have HI2 : Hid (∀ k, r2 = some k → k ≠ bi) := Lib.hid fun k e e' => by have := HP4.out.vals.lt (by decide) k e; have := HBIE.out; omega
    clear hlen hlw x2 y1 yf HR6 HM6 hbw hbi HC2
    go_region_law (refine step_append_one (W := w7.drew) (T := 2) (fr := (0, 0)) (cs := [.int .i64 q.2]) tyVals rfl (.tmp 78) (.tmp 81) rfl rfl (Row.drewN HRV.out 1) rfl rfl rfl rfl (by simp [Value.oneCell']) (by have := HBMAX.out; unfold maxLen; omega) (by have := HBMAX.out; omega) ?_; intro r8 A8 c8 w8 hr8 hk8 hn8; have hb2 := HP7.out.blk.kept ((Kept.refl _ _).drew.trans hk8) HP7.out.d1; have x1 := hb2.cell 1; have x2 := hb2.free; simp only [laneC, List.getElem?_toArray, List.getElem?_cons_zero, List.getElem?_cons_succ] at x1; have HR8 := Lib.hid hr8; have HK8 := Lib.hid hk8; have HN8 := Lib.hid hn8; clear hr8 hk8 hn8 hb2)
    all_goals
      have hkw : Kept (fun k => r2 = some k) w7 w8 := ((Kept.refl _ _).drew).trans HK8.out
      have hp9 := HP7.out.put_vals (vals' := rest ++ [q.2]) (r' := r8) (A' := A8) (c' := c8) (w2 := w8) (by have := HR8.out; rw [List.length_append, List.map_append, ← HN.out]; exact this) hkw HN8.out
      have el : (rest ++ [q.2]).length = n + 1 := by rw [List.length_append, ← HN.out]; rfl
      rw [el] at hp9
      have hn9 : Kept F w (w8.setCell ⟨b, 1, none⟩ (.slice A8 (n + 1) c8)) := Kept.setCell (p := ⟨b, 1, none⟩) (HN7.out.step hkw fun k hk e => by
        rcases (HFV.out k e).1 with h | h
        · exact h
        · omega) (.inr H3.out) _
      have ht9 : Blk (w8.setCell ⟨b, 1, none⟩ (.slice A8 (n + 1) c8)) w.heap.size 36 #[.int .i64 0, .int .i64 0] := (HT7.out.kept hkw (fun e => (HFV.out _ e).2 rfl)).other (p := ⟨b, 1, none⟩) HNB.out.symm _
      have hi9 : Blk (w8.setCell ⟨b, 1, none⟩ (.slice A8 (n + 1) c8)) bi 36 #[.int .i64 q.1, .int .i64 q.2] := (HI7.out.kept hkw (fun e => HI2.out _ e rfl)).other (p := ⟨b, 1, none⟩) HNI.out.symm _
      have hv9 : ∀ k, r8 = some k → (F k ∨ w.heap.size ≤ k) ∧ k ≠ w.heap.size := by
        intro k hk
        have hlt := (HT7.out).lt
        have := HN7.out.size
        rcases HN8.out k hk with e | e
        · exact HFV.out k e
        · have e' : w7.heap.size ≤ k := e
          exact ⟨.inr (by omega), by omega⟩
      generalize hW9 : w8.setCell ⟨b, 1, none⟩ (.slice A8 (n + 1) c8) = w9 at *
      have t0 := ht9.cell 0
      have t1 := ht9.cell 1
      have tf := ht9.free
      have i0 := hi9.cell 0
      have i1 := hi9.cell 1
      simp only [List.getElem?_toArray, List.getElem?_cons_zero, List.getElem?_cons_succ] at t0 t1 i0 i1
      have HP9 := Lib.hid hp9
      have HN9 := Lib.hid hn9
      have HT9 := Lib.hid ht9
      have HV9 := Lib.hid hv9
      have HI9 := Lib.hid hi9
      clear hp9 hn9 ht9 hv9 hi9
      clear hW9 hkw x1 x2 v1 v3 vf z1 el
      go_upto_region 11 with (fail)
      go_region
      obtain ⟨e1, e2, e3, e4⟩ := rtake_fin2 H.out HP9.out HV9.out HFR6.out HN9.out HT9.out (.int .i64 q.1) (.int .i64 q.2)
      have E1 := Lib.hid e1
      have E2 := Lib.hid e2
      clear e1 e2
      go_wp2_with fail
      refine bodyPost_ret (v := tookV v q true 0) (by simp [results, Try.results54, go_sem, tookV, e3, e4]) rfl (by rw [E.out]; exact ⟨rfl, E1.out, E2.out⟩)
theorem rtake_any (h : AtR w b F L) (hlen : L.vals.length ≤ 1048576) (hlw : L.waits.length ≤ 8000000000000) (ht : 0 ≤ L.taken ∧ L.taken ≤ 65535) : Calls Try.prog 54 #[.pointer (some ⟨b, 0, none⟩)] w (EndsR w b F (takeL L).1 (takeL L).2) := by
  cases hv : L.vals with
  | nil =>
    have e : takeL L = (L, tookV 0 (0, 0) false 21) := by unfold takeL; rw [hv]
    rw [e]; exact rtake_none h hv
  | cons v rest => exact rtake_some h v rest hv hlen hlw ht
end
end Go.Proofs.Ytnfaafdgfafcjaa.Lane
