/- The walks of the reference's Lay, Same (layer 9). -/
import Derived.Test.YtnfaafdgfafcjaaLaneG
namespace Go.Proofs.Ytnfaafdgfafcjaa.Lane
open Go.RowKit Go.Fb
set_option linter.unusedVariables false
section
variable {w : World} {B : Nat} {Av : Option Addr} {cv : Nat} {Aw : Option Addr} {cw : Nat} {L : Lane}
set_option maxHeartbeats 2000000 in
theorem rlay_any (room : Int) (hv : SliceOf repV w B Av L.vals.length cv L.vals) (hw : SliceOf repW w B Aw L.waits.length cw L.waits) (hB : B ≤ w.heap.size) (hlv : L.vals.length ≤ 8000000000000) (hlw : L.waits.length ≤ 8000000000000) :
    Calls Try.prog 26 #[.int .i64 room, stC L Av cv Aw cw] w (LayPost 91 w room L) := by
  have hn1 : New w (w.alloc (.cells #[.slice Av L.vals.length cv, .slice Aw L.waits.length cw, .int .i64 L.taken, .int .i64 L.dropped] 29)) := (Kept.refl _ _).alloc _
  have hb1 := Blk.made w 29 #[.slice Av L.vals.length cv, .slice Aw L.waits.length cw, .int .i64 L.taken, .int .i64 L.dropped]
  have HMY := Lib.hid (fun W (hW : New w W) => may_any (w := W) room (hv.kept hW hB fun _ _ h => h) (hw.kept hW hB fun _ _ h => h) (Nat.le_trans hB hW.size))
  have HCO := Lib.hid (fun W (hW : New w W) => copy_any (w := W) (hv.kept hW hB fun _ _ h => h) (hw.kept hW hB fun _ _ h => h) (Nat.le_trans hB hW.size) hlv hlw)
  have HARG := Lib.hid (layErr_arg (room := room) (L := L))
  have HFORM := Lib.hid (layErr_form (room := room) (L := L))
  have HOK := Lib.hid (layErr_ok (room := room) (L := L))
  have hmd : MayL room L ∨ ¬ MayL room L := Decidable.em _
  have HMT := Lib.hid (fun (h : MayL room L) => decide_eq_true h)
  have HMF := Lib.hid (fun (h : ¬ MayL room L) => decide_eq_false h)
  generalize decide (MayL room L) = res at *
  unfold stC at HMY HCO ⊢
  generalize hnv : L.vals.length = nv at *
  generalize hnw : L.waits.length = nw at *
  have HNV := Lib.hid hnv
  have HNW := Lib.hid hnw
  have HN1 := Lib.hid hn1
  have HB1 := Lib.hid hb1
  clear hnv hnw hn1 hb1
  clear hv hw
  go_enter Try.func26, Try.ntmps26
  go_upto_region 1 with (fail)
  generalize w.alloc (.cells #[.slice Av nv cv, .slice Aw nw cw, .int .i64 L.taken, .int .i64 L.dropped] 29) = w1 at *
  have HX := Lib.hid (fun W (hk : New w1 W) => (show W.cell? ⟨w.heap.size, 0, none⟩ = some (.slice Av nv cv) ∧ W.cell? ⟨w.heap.size, 1, none⟩ = some (.slice Aw nw cw) ∧ W.cell? ⟨w.heap.size, 2, none⟩ = some (.int .i64 L.taken) ∧ W.cell? ⟨w.heap.size, 3, none⟩ = some (.int .i64 L.dropped) from ⟨(HB1.out.kept hk id).cell 0, (HB1.out.kept hk id).cell 1, (HB1.out.kept hk id).cell 2, (HB1.out.kept hk id).cell 3⟩))
  obtain ⟨z0, z1, z2, z3⟩ := HX.out w1 (Kept.refl _ _)
  by_cases g1 : room < 1
  · have E := Lib.hid (HARG.out (fun h => by omega))
    clear hmd
    go_wp2_with fail
    go_ret2
    exact LayPost.bad HN1.out E.out (by decide) rfl
  · by_cases g2 : 64 < room
    · have E := Lib.hid (HARG.out (fun h => by omega))
      have g1' : 1 ≤ room := by omega
      clear hmd
      go_wp2_with fail
      go_ret2
      exact LayPost.bad HN1.out E.out (by decide) rfl
    · have g1' : 1 ≤ room := by omega
      have g2' : room ≤ 64 := by omega
      clear g1 g2
      rcases hmd with hm | hm
      · have E := Lib.hid (HOK.out ⟨g1', g2'⟩ hm)
        obtain rfl := HMT.out hm
        clear hm
        go_wp2_with fail
        refine (HMY.out _ HN1.out).mono ?_
        rintro e w2 ⟨rfl, hm2⟩
        obtain ⟨z0, z1, z2, z3⟩ := HX.out w2 hm2
        have HM2 := Lib.hid hm2
        clear hm2
        go_wp2_with fail
        refine (HCO.out _ (HN1.out.trans HM2.out)).mono ?_
        rintro e w3 ⟨r3, A3, c3, r4, A4, c4, rfl, ht, hm3⟩
        have HT := Lib.hid ht
        have HM3 := Lib.hid hm3
        clear ht hm3
        go_wp2_with fail
        go_ret2
        have hn3 := HN1.out.trans (HM2.out.trans HM3.out)
        have ht3 := HT.out
        have hs2 : w.heap.size ≤ w2.heap.size := (HN1.out.trans HM2.out).size
        have kk : New w3 (w3.alloc (.cells #[.int .i64 room, .slice A3 nv c3, .slice A4 nw c4, .int .i64 L.taken, .int .i64 L.dropped] 91)) := (Kept.refl _ _).alloc _
        have l3 := ht3.vals.lt (by decide)
        have l4 := ht3.waits.lt (by decide)
        have hs4 := size1 w3 (.cells #[.int .i64 room, .slice A3 nv c3, .slice A4 nw c4, .int .i64 L.taken, .int .i64 L.dropped] 91)
        refine ⟨hn3.trans kk, .inl ⟨E.out, w3.heap.size, fun k => k = w3.heap.size ∨ r3 = some k ∨ r4 = some k, rfl, ⟨⟨r3, A3, c3, r4, A4, c4, ⟨?_, ht3.vals.new (by decide) kk, ht3.waits.new (by decide) kk, fun e => by have := l3 _ e; omega, fun e => by have := l4 _ e; omega, ht3.d⟩, fun k e => .inr (.inl e), fun k e => .inr (.inr e)⟩, .inl rfl, ?_⟩, ?_⟩⟩
        · have := Blk.made w3 91 #[.int .i64 room, .slice A3 nv c3, .slice A4 nw c4, .int .i64 L.taken, .int .i64 L.dropped]
          simpa [laneC, HNV.out, HNW.out] using this
        · rintro k (rfl | e | e)
          · omega
          · have := l3 k e; omega
          · have := l4 k e; omega
        · have := hn3.size
          rintro k (rfl | e | e)
          · exact this
          · have := ht3.fv k e; omega
          · have := ht3.fw k e; omega
      · have E := Lib.hid (HFORM.out ⟨g1', g2'⟩ hm)
        obtain rfl := HMF.out hm
        clear hm
        go_wp2_with fail
        refine (HMY.out _ HN1.out).mono ?_
        rintro e w2 ⟨rfl, hm2⟩
        have HM2 := Lib.hid hm2
        clear hm2
        go_wp2_with fail
        go_ret2
        exact LayPost.bad (HN1.out.trans HM2.out) E.out (by decide) rfl
end
end Go.Proofs.Ytnfaafdgfafcjaa.Lane
