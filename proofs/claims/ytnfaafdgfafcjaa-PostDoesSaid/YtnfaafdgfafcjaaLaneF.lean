/- The walks of the reference's Copy, May (layer 9). -/
import Derived.Test.YtnfaafdgfafcjaaLaneE
namespace Go.Proofs.Ytnfaafdgfafcjaa.Lane
open Go.RowKit Go.Fb
set_option linter.unusedVariables false
section
variable {w : World} {B : Nat} {Av : Option Addr} {cv : Nat} {Aw : Option Addr} {cw : Nat} {L : Lane}
set_option maxHeartbeats 2000000 in
theorem copy_any (hv : SliceOf repV w B Av L.vals.length cv L.vals) (hw : SliceOf repW w B Aw L.waits.length cw L.waits) (hB : B ≤ w.heap.size) (hlv : L.vals.length ≤ 8000000000000) (hlw : L.waits.length ≤ 8000000000000) :
    Calls Try.prog 10 #[stC L Av cv Aw cw] w fun e w' => ∃ rv Av cv rw Aw cw, e = .returned (stC L Av cv Aw cw) ∧ Told w.heap.size w' rv Av cv rw Aw cw L ∧ New w w' := by
  have hbv := hv.bound
  have hbw := hw.bound
  have HSV := Lib.hid (fun W (hW : New w W) => vals_src (hv.kept hW hB fun _ _ h => h))
  have HSW := Lib.hid (fun W (hW : New w W) => waits_src (hw.kept hW hB fun _ _ h => h))
  have hn1 : New w (((w.alloc (.cells #[.slice Av L.vals.length cv, .slice Aw L.waits.length cw, .int .i64 L.taken, .int .i64 L.dropped] 29)).alloc (.cells #[.slice none 0 0, .slice none 0 0, .int .i64 0, .int .i64 0] 29)).alloc (.cells #[.slice none 0 0, .slice none 0 0, .int .i64 L.taken, .int .i64 L.dropped] 29)) := (((Kept.refl _ _).alloc _).alloc _).alloc _
  have hb0 := (((Blk.made w 29 #[.slice Av L.vals.length cv, .slice Aw L.waits.length cw, .int .i64 L.taken, .int .i64 L.dropped]).alloc (.cells #[.slice none 0 0, .slice none 0 0, .int .i64 0, .int .i64 0] 29)).alloc (.cells #[.slice none 0 0, .slice none 0 0, .int .i64 L.taken, .int .i64 L.dropped] 29))
  have hb1 := (Blk.made_at (w.alloc (.cells #[.slice Av L.vals.length cv, .slice Aw L.waits.length cw, .int .i64 L.taken, .int .i64 L.dropped] 29)) 29 #[.slice none 0 0, .slice none 0 0, .int .i64 0, .int .i64 0] (w.heap.size + 1) (size1 _ _)).alloc (.cells #[.slice none 0 0, .slice none 0 0, .int .i64 L.taken, .int .i64 L.dropped] 29)
  have hb2 := Blk.made_at ((w.alloc (.cells #[.slice Av L.vals.length cv, .slice Aw L.waits.length cw, .int .i64 L.taken, .int .i64 L.dropped] 29)).alloc (.cells #[.slice none 0 0, .slice none 0 0, .int .i64 0, .int .i64 0] 29)) 29 #[.slice none 0 0, .slice none 0 0, .int .i64 L.taken, .int .i64 L.dropped] (w.heap.size + 1 + 1) (by rw [size1 w (.cells #[.slice Av L.vals.length cv, .slice Aw L.waits.length cw, .int .i64 L.taken, .int .i64 L.dropped] 29), size1])
  unfold stC
  obtain ⟨nv, hnv⟩ : ∃ n, n = L.vals.length := ⟨_, rfl⟩
  obtain ⟨nw, hnw⟩ : ∃ n, n = L.waits.length := ⟨_, rfl⟩
  rw [← hnv] at hn1 hb0 hb1 hb2 hbv hlv HSV ⊢
  rw [← hnw] at hn1 hb0 hb1 hb2 hbw hlw HSW ⊢
  have HNV := Lib.hid hnv
  have HNW := Lib.hid hnw
  have HN1 := Lib.hid hn1
  have HB0 := Lib.hid hb0
  have HB1 := Lib.hid hb1
  have HB2 := Lib.hid hb2
  clear hnv hnw hn1 hb0 hb1 hb2
  clear hv hw
  go_enter Try.func10, Try.ntmps10
  go_upto_region 2 with (fail)
  generalize ((w.alloc (.cells #[.slice Av nv cv, .slice Aw nw cw, .int .i64 L.taken, .int .i64 L.dropped] 29)).alloc (.cells #[.slice none 0 0, .slice none 0 0, .int .i64 0, .int .i64 0] 29)).alloc (.cells #[.slice none 0 0, .slice none 0 0, .int .i64 L.taken, .int .i64 L.dropped] 29) = w1 at *
  obtain ⟨b, hb⟩ : ∃ b, b = w.heap.size := ⟨_, rfl⟩
  rw [← hb] at HB0 HB1 HB2
  have e0 : w.heap.size = b := hb.symm
  have HBE := Lib.hid e0
  rw [e0]
  clear hb e0
  have k1 : New w1 (w1.alloc (.cells #[] 2)) := (Kept.refl _ _).alloc _
  have z0 := (HB0.out.kept k1 id).cell 0
  simp only [List.getElem?_toArray, List.getElem?_cons_zero] at z0
  have hrow0 : Row (w1.alloc (.cells #[] 2)) 1 none (some ⟨w1.heap.size, 0, none⟩) 0 0 [] := ⟨rfl, .inl ⟨rfl, rfl, rfl⟩⟩
  have hsrc := HSV.out _ (HN1.out.trans k1)
  have K1 := Lib.hid k1
  have HROW0 := Lib.hid hrow0
  have HSRC := Lib.hid hsrc
  clear k1 hrow0 hsrc
  go_upto_region 3 with (at_builtin; refine wpList_append_row tyVals rfl (.tmp 9) (.tmp 11) rfl rfl HROW0.out rfl HSRC.out (by unfold maxLen; omega) (by omega) ?_; intro r2 A2 c2 w2 hr2 hk2 hn2; rw [Nat.zero_add, List.nil_append] at hr2; have hm2 : New w1 w2 := K1.out.step hk2 (fun i hi e => by cases e); have y0 := (HB2.out.kept hm2 id).cell 0; have yf := (HB2.out.kept hm2 id).free; simp only [List.getElem?_toArray, List.getElem?_cons_zero] at y0; have HR2 := Lib.hid hr2; have HM2 := Lib.hid hm2; have HN2 := Lib.hid hn2; clear hr2 hk2 hn2 hm2)
  have hb3 := (HB2.out.kept HM2.out id).set (i := 0) (.slice A2 nv c2)
  have hk3 := kept_at (Kept.refl (fun k => k = b + 1 + 1) w2) 0 (.slice A2 nv c2)
  generalize w2.setCell ⟨b + 1 + 1, 0, none⟩ (.slice A2 nv c2) = w3 at *
  have hn3 : New w w3 := (HN1.out.trans HM2.out).step hk3 fun k hk e => by have := HBE.out; omega
  have hr3 := HR2.out.of_kept (by decide) hk3 (fun k e e' => by
    have := HB2.out.lt
    rcases HN2.out k e with h | h
    · cases h
    · rw [← size1] at h; omega)
  have hf3 : ∀ k, r2 = some k → b + 1 + 1 < k := fun k e => by
    have := HB2.out.lt
    rcases HN2.out k e with h | h
    · cases h
    · rw [← size1] at h; omega
  have ha3 := (HB0.out.kept HM2.out id).kept hk3 (show ¬ b = b + 1 + 1 by omega)
  have hc3 := (HB1.out.kept HM2.out id).kept hk3 (show ¬ b + 1 = b + 1 + 1 by omega)
  have k4 : New w3 (w3.alloc (.cells #[] 36)) := (Kept.refl _ _).alloc _
  have z1 := (ha3.kept k4 id).cell 1
  simp only [List.getElem?_toArray, List.getElem?_cons_zero, List.getElem?_cons_succ] at z1
  have hrow1 : Row (w3.alloc (.cells #[] 36)) 2 none (some ⟨w3.heap.size, 0, none⟩) 0 0 [] := ⟨rfl, .inl ⟨rfl, rfl, rfl⟩⟩
  have hsrc1 := HSW.out _ (hn3.trans k4)
  have K4 := Lib.hid k4
  have HROW1 := Lib.hid hrow1
  have HSRC1 := Lib.hid hsrc1
  have HB3 := Lib.hid hb3
  have HN3 := Lib.hid hn3
  have HR3 := Lib.hid hr3
  have HF3 := Lib.hid hf3
  have HA3 := Lib.hid ha3
  have HC3 := Lib.hid hc3
  clear k4 hrow1 hsrc1 hb3 hn3 hr3 hf3 ha3 hc3
  clear hk3 z0 y0 yf HR2 HM2 HN2
  go_upto_region 4 with (at_builtin; refine wpList_append_row tyWaits rfl (.tmp 14) (.tmp 16) rfl rfl HROW1.out rfl HSRC1.out (by unfold maxLen; omega) (by omega) ?_; intro r4 A4 c4 w4 hr4 hk4 hn4; rw [Nat.zero_add, List.nil_append] at hr4; have hm4 : New w3 w4 := K4.out.step hk4 (fun i hi e => by cases e); have y1 := (HB3.out.kept hm4 id).cell 1; have yf := (HB3.out.kept hm4 id).free; simp at y1; have HR4 := Lib.hid hr4; have HM4 := Lib.hid hm4; have HN4 := Lib.hid hn4; clear hr4 hk4 hn4 hm4)
  have hb5 := (HB3.out.kept HM4.out id).set (i := 1) (.slice A4 nw c4)
  have hk5 := kept_at (Kept.refl (fun k => k = b + 1 + 1) w4) 1 (.slice A4 nw c4)
  generalize w4.setCell ⟨b + 1 + 1, 1, none⟩ (.slice A4 nw c4) = w5 at *
  have hk35 : Kept (fun k => k = b + 1 + 1) w3 w5 := (HM4.out.mono fun _ _ h => h.elim).trans hk5
  have hn5 : New w w5 := HN3.out.step hk35 fun k hk e => by have := HBE.out; omega
  have l3 := HR3.out.lt (by decide)
  have hr5 := HR3.out.of_kept (by decide) hk35 (fun k e e' => by have := HF3.out k e; omega)
  have hf4 : ∀ k, r4 = some k → w3.heap.size ≤ k := fun k e => by
    rcases HN4.out k e with h | h
    · cases h
    · rw [← size1] at h; omega
  have hs3 := HB3.out.lt
  have hr6 := HR4.out.of_kept (by decide) hk5 (fun k e e' => by have := hf4 k e; omega)
  have hc5 := HC3.out.kept hk35 (show ¬ b + 1 = b + 1 + 1 by omega)
  have z0 := hb5.cell 0
  have z1 := hb5.cell 1
  have z2 := hb5.cell 2
  have z3 := hb5.cell 3
  have u0 := hc5.cell 0
  have u1 := hc5.cell 1
  have u2 := hc5.cell 2
  have u3 := hc5.cell 3
  have uf := hc5.free
  simp at z0 z1 z2 z3 u0 u1 u2 u3
  have HL3 : Hid (∀ k, r2 = some k → k < w3.heap.size) := Lib.hid l3
  have HN5 := Lib.hid hn5
  have HR5 := Lib.hid hr5
  have HR6 := Lib.hid hr6
  have HF4 := Lib.hid hf4
  have HC5 := Lib.hid hc5
  have HS3 := Lib.hid hs3
  clear hn5 hr5 hr6 hf4 hc5 hs3
  clear hk35 hk5 hb5 l3 y1 yf HR3 HR4
  go_wp2_with fail
  have hb7 := (((HC5.out.set (i := 0) (.slice A2 nv c2)).set (i := 1) (.slice A4 nw c4)).set (i := 2) (.int .i64 L.taken)).set (i := 3) (.int .i64 L.dropped)
  have hk7 := kept4 (B := b + 1) (Kept.refl (fun _ => False) w5) (.slice A2 nv c2) (.slice A4 nw c4) (.int .i64 L.taken) (.int .i64 L.dropped)
  generalize (((w5.setCell ⟨b + 1, 0, none⟩ (.slice A2 nv c2)).setCell ⟨b + 1, 1, none⟩ (.slice A4 nw c4)).setCell ⟨b + 1, 2, none⟩ (.int .i64 L.taken)).setCell ⟨b + 1, 3, none⟩ (.int .i64 L.dropped) = w7 at *
  have t0 := hb7.cell 0
  have t1 := hb7.cell 1
  have t2 := hb7.cell 2
  have t3 := hb7.cell 3
  simp at t0 t1 t2 t3
  have hs3 := HS3.out
  have hbe := HBE.out
  have ht : Told w.heap.size w7 r2 A2 c2 r4 A4 c4 L := by
    refine ⟨?_, ?_, fun k e => by have := HF3.out k e; omega, fun k e => by have := HF4.out k e; omega, fun k e e' => ?_⟩
    · rw [← HNV.out]; exact HR5.out.of_kept (by decide) hk7 (fun k e e' => by have := HF3.out k e; omega)
    · rw [← HNW.out]; exact HR6.out.of_kept (by decide) hk7 (fun k e e' => by have := HF4.out k e; omega)
    · have h1 := HL3.out k e
      have h2 := HF4.out k e'
      omega
  have hnn : New w w7 := HN5.out.step hk7 fun k hk e => by omega
  refine bodyPost_ret (v := stC L A2 c2 A4 c4) (by simp [results, Try.results10, go_sem, stC, t0, t1, t2, t3, HNV.out, HNW.out]) rfl ?_
  exact ⟨r2, A2, c2, r4, A4, c4, by simp [stC, HNV.out, HNW.out], ht, hnn⟩
end
end Go.Proofs.Ytnfaafdgfafcjaa.Lane
