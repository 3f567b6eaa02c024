/- The walk of firebreaklaw09's stands (layer 9). -/
import Derived.Test.YtnmocdgngkjflaaLaneV
namespace Go.Proofs.Ytnmocdgngkjflaa.Lane
open Go.RowKit Go.Fb
set_option linter.unusedVariables false
theorem Told.kept {B : Nat} {w w' : World} {rv : Option Nat} {Av : Option Addr} {cv : Nat} {rw : Option Nat} {Aw : Option Addr} {cw : Nat} {L : Lane} {G : Nat → Prop} (h : Told B w rv Av cv rw Aw cw L) (hk : Kept G w w') (h1 : ∀ k, rv = some k → ¬ G k) (h2 : ∀ k, rw = some k → ¬ G k) : Told B w' rv Av cv rw Aw cw L :=
  ⟨h.vals.of_kept (by decide) hk h1, h.waits.of_kept (by decide) hk h2, h.fv, h.fw, h.d⟩
theorem Told.new {B : Nat} {w w' : World} {rv : Option Nat} {Av : Option Addr} {cv : Nat} {rw : Option Nat} {Aw : Option Addr} {cw : Nat} {L : Lane} (h : Told B w rv Av cv rw Aw cw L) (hk : New w w') : Told B w' rv Av cv rw Aw cw L := h.kept hk (fun _ _ h => h) (fun _ _ h => h)
section
variable {w wr : World} {b c : Nat} {F G : Nat → Prop} {L : Lane}
set_option maxRecDepth 100000 in
set_option maxHeartbeats 4000000 in
theorem stands_any (hF : At wr b F L) (hG : AtR wr c G L) (hlv : L.vals.length ≤ 1048576) (hlw : L.waits.length ≤ 8000000000000) : Calls Try.prog 20 #[.pointer (some ⟨b, 0, none⟩), .pointer (some ⟨c, 0, none⟩)] wr fun e w' => e = .returned (.bool true) ∧ New wr w' := by
  have HST := Lib.hid (fun W (hW : New wr W) => state_any (hF.new hW) (by omega) hlw)
  have HLEN := Lib.hid (fun W (hW : New wr W) => (len_any (hF.new hW)).mono fun e w' (h : _ ∧ W = w') => (⟨h.1, h.2.symm⟩ : _ ∧ w' = W))
  have hcl := hG.lt c hG.fb
  obtain ⟨⟨rv, Av, cv, rw, Aw, cw, hp, -, -⟩, -, -⟩ := hG
  have HGP := Lib.hid (fun W (hW : New wr W) => hp.kept hW id (fun _ _ h => h) (fun _ _ h => h))
  have HSM := Lib.hid (fun W (hW : New wr W) B r1 A1 c1 q1 D1 d1 (ht : Told B W r1 A1 c1 q1 D1 d1 L) => same_any (w := W) (B := W.heap.size) (L := L) (Bv := Av) (dv := cv) (Bw := Aw) (dw := cw) (vals_read ht.vals rfl) (waits_read ht.waits rfl) (vals_read (HGP.out W hW).vals rfl) (waits_read (HGP.out W hW).waits rfl) (Nat.le_refl _))
  have HSP := Lib.hid (fun W B r1 A1 c1 q1 D1 d1 (ht : Told B W r1 A1 c1 q1 D1 d1 L) => spoil_any ht (by omega) hlw)
  have HY := Lib.hid (fun W (hW : New wr W) => (show W.cell? ⟨c, 1, none⟩ = some (.slice Av L.vals.length cv) ∧ W.cell? ⟨c, 2, none⟩ = some (.slice Aw L.waits.length cw) ∧ W.cell? ⟨c, 3, none⟩ = some (.int .i64 L.taken) ∧ W.cell? ⟨c, 4, none⟩ = some (.int .i64 L.dropped) from (HGP.out W hW).cells.2))
  have hbv := hp.vals.bound
  unfold stC at HST HSM HSP
  generalize hnv : L.vals.length = nv at *
  generalize hnw : L.waits.length = nw at *
  have HNV := Lib.hid hnv
  have HNW := Lib.hid hnw
  have HCL := Lib.hid hcl
  clear hnv hnw hcl
  clear hp hF
  go_enter Try.func20, Try.ntmps20
  go_wp2_with fail
  refine (HST.out wr (Kept.refl _ _)).mono ?_
  rintro e w1 ⟨r1, A1, c1, q1, D1, d1, rfl, ht1, hn1⟩
  have k1 : New w1 (w1.alloc (.cells #[.slice A1 nv c1, .slice D1 nw d1, .int .i64 L.taken, .int .i64 L.dropped] 40)) := (Kept.refl _ _).alloc _
  have hb2 := Blk.made w1 40 #[.slice A1 nv c1, .slice D1 nw d1, .int .i64 L.taken, .int .i64 L.dropped]
  have ht2 := ht1.new k1
  have hn2 := hn1.trans k1
  have l1 := ht1.vals.lt (by decide)
  have l2 := ht1.waits.lt (by decide)
  have HT2 := Lib.hid ht2
  have HN2 := Lib.hid hn2
  have HB2 := Lib.hid hb2
  have L1 := Lib.hid l1
  have L2 := Lib.hid l2
  clear ht2 hn2 hb2 l1 l2
  clear ht1 hn1 k1
  go_upto_region 2 with (fail)
  generalize w1.alloc (.cells #[.slice A1 nv c1, .slice D1 nw d1, .int .i64 L.taken, .int .i64 L.dropped] 40) = w2 at *
  go_wp2_with fail
  refine (HST.out w2 HN2.out).mono ?_
  rintro e w3 ⟨r3, A3, c3, q3, D3, d3, rfl, ht3, hn3⟩
  have k3 : New w3 (w3.alloc (.cells #[.slice A3 nv c3, .slice D3 nw d3, .int .i64 L.taken, .int .i64 L.dropped] 40)) := (Kept.refl _ _).alloc _
  have hb4 := Blk.made w3 40 #[.slice A3 nv c3, .slice D3 nw d3, .int .i64 L.taken, .int .i64 L.dropped]
  have ht4 := ht3.new k3
  have hn4 := hn3.trans k3
  have hz3 := hn3.size
  have HT4 := Lib.hid ht4
  have HN4 := Lib.hid hn4
  have HB4 := Lib.hid hb4
  have HZ3 := Lib.hid hz3
  clear ht4 hn4 hb4 hz3
  clear ht3 hn3 k3
  go_upto_region 3 with (fail)
  generalize w3.alloc (.cells #[.slice A3 nv c3, .slice D3 nw d3, .int .i64 L.taken, .int .i64 L.dropped] 40) = w4 at *
  generalize hx1 : w1.heap.size = x1 at *
  generalize hx3 : w3.heap.size = x3 at *
  have HX1 := Lib.hid hx1
  have HX3 := Lib.hid hx3
  clear hx1 hx3
  have hb24 := HB2.out.kept HN4.out id
  have hn24 := HN2.out.trans HN4.out
  have HT24 := Lib.hid (HT2.out.new HN4.out)
  have HZ := Lib.hid (fun W (hW : New w4 W) => (show (W.cell? ⟨x1, 0, none⟩ = some (.slice A1 nv c1) ∧ W.cell? ⟨x1, 1, none⟩ = some (.slice D1 nw d1) ∧ W.cell? ⟨x1, 2, none⟩ = some (.int .i64 L.taken) ∧ W.cell? ⟨x1, 3, none⟩ = some (.int .i64 L.dropped)) ∧ W.cell? ⟨c, 1, none⟩ = some (.slice Av nv cv) ∧ W.cell? ⟨c, 2, none⟩ = some (.slice Aw nw cw) ∧ W.cell? ⟨c, 3, none⟩ = some (.int .i64 L.taken) ∧ W.cell? ⟨c, 4, none⟩ = some (.int .i64 L.dropped) from
    ⟨⟨(hb24.kept hW id).cell 0, (hb24.kept hW id).cell 1, (hb24.kept hW id).cell 2, (hb24.kept hW id).cell 3⟩, HY.out W (hn24.trans hW)⟩))
  have HS4 := Lib.hid (fun W (hW : New w4 W) => (HSM.out W (hn24.trans hW) _ r1 A1 c1 q1 D1 d1 (HT24.out.new hW)).mono fun e w' (h : _ ∧ New W w') => (⟨h.1, hW.trans h.2⟩ : _ ∧ New w4 w'))
  have HB24 := Lib.hid hb24
  have HN24 := Lib.hid hn24
  clear hb24 hn24
  obtain ⟨⟨z0, z1, z2, z3⟩, y1, y2, y3, y4⟩ := HZ.out w4 (Kept.refl _ _)
  go_region_held3 (fun W => (W.cell? ⟨x1, 0, none⟩ = some (.slice A1 nv c1) ∧ W.cell? ⟨x1, 1, none⟩ = some (.slice D1 nw d1) ∧ W.cell? ⟨x1, 2, none⟩ = some (.int .i64 L.taken) ∧ W.cell? ⟨x1, 3, none⟩ = some (.int .i64 L.dropped)) ∧ W.cell? ⟨c, 1, none⟩ = some (.slice Av nv cv) ∧ W.cell? ⟨c, 2, none⟩ = some (.slice Aw nw cw) ∧ W.cell? ⟨c, 3, none⟩ = some (.int .i64 L.taken) ∧ W.cell? ⟨c, 4, none⟩ = some (.int .i64 L.dropped)) (first | ((with_reducible refine HZ.out _ ?_); with_reducible assumption) | (with_reducible exact HZ.out _ (Kept.refl _ _).drew)) (first | (go_at_call 16; refine (HS4.out _ (by first | assumption | exact (Kept.refl _ _).drew)).mono ?_; rintro e w5 ⟨rfl, hw5⟩))
  obtain ⟨⟨z0, z1, z2, z3⟩, -⟩ := HZ.out w5 hw5
  have ht5 := HT24.out.new hw5
  have HM5 := Lib.hid hw5
  have hsp := HSP.out w5 _ r1 A1 c1 q1 D1 d1 ht5
  have HT5 := Lib.hid ht5
  have HSP1 := Lib.hid hsp
  clear ht5 hsp
  clear hw5 y1 y2 y3 y4
  go_wp2_with fail
  refine HSP1.out.mono ?_
  rintro e w6 ⟨rfl, hk6⟩
  have hfa : ∀ k, (r1 = some k ∨ q1 = some k) → wr.heap.size ≤ k ∧ k < x1 := fun k e => by
    rcases e with e | e
    · exact ⟨HT5.out.fv k e, L1.out k e⟩
    · exact ⟨HT5.out.fw k e, L2.out k e⟩
  have hx12 : x1 < w2.heap.size := HB2.out.lt
  have hx23 : w2.heap.size ≤ x3 := HZ3.out
  have hn6 : New wr w6 := (HN24.out.trans HM5.out).step hk6 fun k hk e => by have := (hfa k e).1; omega
  have hb6 := (HB4.out.kept HM5.out id).kept hk6 (fun e => by have := (hfa _ e).2; omega)
  have ht6 := (HT4.out.new HM5.out).kept hk6 (fun k e e' => by have := HT4.out.fv k e; have := (hfa _ e').2; omega) (fun k e e' => by have := HT4.out.fw k e; have := (hfa _ e').2; omega)
  have HU := Lib.hid (fun W (hW : New w6 W) => (show (W.cell? ⟨x3, 0, none⟩ = some (.slice A3 nv c3) ∧ W.cell? ⟨x3, 1, none⟩ = some (.slice D3 nw d3) ∧ W.cell? ⟨x3, 2, none⟩ = some (.int .i64 L.taken) ∧ W.cell? ⟨x3, 3, none⟩ = some (.int .i64 L.dropped)) ∧ W.cell? ⟨c, 1, none⟩ = some (.slice Av nv cv) ∧ W.cell? ⟨c, 2, none⟩ = some (.slice Aw nw cw) ∧ W.cell? ⟨c, 3, none⟩ = some (.int .i64 L.taken) ∧ W.cell? ⟨c, 4, none⟩ = some (.int .i64 L.dropped) from
    ⟨⟨(hb6.kept hW id).cell 0, (hb6.kept hW id).cell 1, (hb6.kept hW id).cell 2, (hb6.kept hW id).cell 3⟩, HY.out W (hn6.trans hW)⟩))
  have HS6 := Lib.hid (fun W (hW : New w6 W) => (HSM.out W (hn6.trans hW) _ r3 A3 c3 q3 D3 d3 (ht6.new hW)).mono fun e w' (h : _ ∧ New W w') => (⟨h.1, hW.trans h.2⟩ : _ ∧ New w6 w'))
  have HWS : Hid (wr.heap.size ≤ w2.heap.size) := Lib.hid HN2.out.size
  have HB6 := Lib.hid hb6
  have HN6 := Lib.hid hn6
  have HT6 := Lib.hid ht6
  clear hb6 hn6 ht6
  clear z0 z1 z2 z3 hk6 hfa hx12 hx23
  obtain ⟨⟨z0, z1, z2, z3⟩, y1, y2, y3, y4⟩ := HU.out w6 (Kept.refl _ _)
  go_upto_region 5 with (fail)
  go_region_held3 (fun W => (W.cell? ⟨x3, 0, none⟩ = some (.slice A3 nv c3) ∧ W.cell? ⟨x3, 1, none⟩ = some (.slice D3 nw d3) ∧ W.cell? ⟨x3, 2, none⟩ = some (.int .i64 L.taken) ∧ W.cell? ⟨x3, 3, none⟩ = some (.int .i64 L.dropped)) ∧ W.cell? ⟨c, 1, none⟩ = some (.slice Av nv cv) ∧ W.cell? ⟨c, 2, none⟩ = some (.slice Aw nw cw) ∧ W.cell? ⟨c, 3, none⟩ = some (.int .i64 L.taken) ∧ W.cell? ⟨c, 4, none⟩ = some (.int .i64 L.dropped)) (first | ((with_reducible refine HU.out _ ?_); with_reducible assumption) | (with_reducible exact HU.out _ (Kept.refl _ _).drew)) (first | (go_at_call 16; refine (HS6.out _ (by first | assumption | exact (Kept.refl _ _).drew)).mono ?_; rintro e w7 ⟨rfl, hw7⟩))
  obtain ⟨⟨z0, z1, z2, z3⟩, -⟩ := HU.out w7 hw7
  have ht7 := HT6.out.new hw7
  have HM7 := Lib.hid hw7
  have hsp := HSP.out w7 _ r3 A3 c3 q3 D3 d3 ht7
  have HT7 := Lib.hid ht7
  have HSP3 := Lib.hid hsp
  clear ht7 hsp
  clear hw7 y1 y2 y3 y4
  go_wp2_with fail
  refine HSP3.out.mono ?_
  rintro e w8 ⟨rfl, hk8⟩
  have hn8 : New wr w8 := (HN6.out.trans HM7.out).step hk8 fun k hk e => by
    have := HWS.out
    rcases e with e | e
    · have := HT7.out.fv k e; omega
    · have := HT7.out.fw k e; omega
  obtain ⟨y1, y2, y3, y4⟩ := HY.out w8 hn8
  have hlq := fun q => HLEN.out (w8.drewN q) (hn8.drewN q)
  have HN8 := Lib.hid hn8
  have HLQ := Lib.hid hlq
  clear hn8 hlq
  clear z0 z1 z2 z3 hk8
  go_upto_region 7 with (fail)
  go_quiet (exact Calls.quiet_of_same (HLQ.out _))
  go_wp2_with fail
  go_ret
  exact ⟨by simp [Array.getD], HN8.out.drewN _⟩
end
end Go.Proofs.Ytnmocdgngkjflaa.Lane
