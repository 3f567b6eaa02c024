/- The walk of the law's stands (layer 12). -/
import Derived.Test.YtjjlemkmdldljaaLocksP
namespace Go.Proofs.Ytjjlemkmdldljaa.Locks
open Go.RowKit Go.Fb
set_option linter.unusedVariables false
theorem ints_same {w : World} {r1 r2 : Option Nat} {A1 A2 : Option Addr} {n1 n2 c1 c2 : Nat} {a b : List Int} (h1 : Row w 1 r1 A1 n1 c1 (a.map (Value.int .i64))) (h2 : Row w 1 r2 A2 n2 c2 (b.map (Value.int .i64))) (e : a = b) :
    Calls Try.prog 28 #[.slice A1 n1 c1, .slice A2 n2 c2] w fun e w' => e = .returned (.bool true) ∧ New w w' := by
  subst e
  refine (ints_any h1 h2).mono ?_
  rintro e w' ⟨rfl, q, rfl⟩
  exact ⟨by rw [decide_eq_true rfl], Kept.drewN (Kept.refl _ _) q⟩
section
variable {B : Nat} {w w' : World} {b n no nq : Nat} {F : Nat → Prop} {ro : Option Nat} {Ao : Option Addr} {co : Nat} {rq : Option Nat} {Aq : Option Addr} {cq : Nat} {os : List Int} {Y : List Lk} {L : List (Int × List Int)}
theorem RAt.owners (h : RAt w b F L) : ∃ r A c, w.cell? ⟨b, 0, none⟩ = some (.slice A L.length c) ∧ L.length ≤ c ∧ c ≤ 9223372036854775807 ∧ Row w 1 r A L.length c ((L.map (·.1)).map (Value.int .i64)) ∧ (∀ k, r = some k → F k) := by
  obtain ⟨⟨ro, Ao, co, rq, Aq, cq, Y, hp, hY⟩, h4⟩ := h
  obtain ⟨y0, y1, -, -, b1, b2, b3, b4⟩ := hp.cells
  exact ⟨ro, Ao, co, y0, b1, b2, hp.told.ow, hp.f1⟩
theorem Told.queue_at (ht : Told B w no n ro Ao co rq Aq cq os Y) (hY : Y.map (·.q) = L.map (·.2)) (hl : n = L.length) (j : Nat) (hj : j < n) : ∃ (hjL : j < L.length) (hjY : j < Y.length), Y[j].q = L[j].2 := by
  have hy : Y.length = L.length := by have := congrArg List.length hY; simpa using this
  have hjL : j < L.length := by omega
  have hjY : j < Y.length := by omega
  refine ⟨hjL, hjY, ?_⟩
  have := congrArg (fun l => l[j]?) hY
  simp only [List.getElem?_map, List.getElem?_eq_getElem hjL, List.getElem?_eq_getElem hjY, Option.map_some, Option.some.injEq] at this
  exact this
/-- What stands, with the queues from i on untouched. -/
structure Left (w wr : World) (n i : Nat) (ro : Option Nat) (Ao : Option Addr) (co : Nat) (rq : Option Nat) (Aq : Option Addr) (cq : Nat) (Y : List Lk) : Prop where
  ow : ∃ xs, Row wr 1 ro Ao n co xs
  qu : ∃ hs, Row wr 1 rq Aq n cq hs ∧ ∀ j, i ≤ j → hs[j]? = (Y.map slC)[j]?
  el : ∀ j (hj : j < Y.length), i ≤ j → Row wr 1 Y[j].r Y[j].A Y[j].q.length Y[j].c (Y[j].q.map (Value.int .i64))
theorem Left.start (ht : Told B w n n ro Ao co rq Aq cq os Y) : Left w w n 0 ro Ao co rq Aq cq Y :=
  ⟨⟨_, ht.ow⟩, ⟨_, ht.qu, fun _ _ => rfl⟩, fun j hj _ => ht.el _ (List.getElem_mem hj)⟩
theorem Left.here {i : Nat} (h : Left w w' n i ro Ao co rq Aq cq Y) (hY : Y.length = n) (hi : i < n) : ∃ g o, ∃ (hj : i < Y.length), rq = some g ∧ Aq = some ⟨g, o, none⟩ ∧ w'.cell? ⟨g, o + i, none⟩ = some (.slice Y[i].A Y[i].q.length Y[i].c) ∧ w'.frozen? ⟨g, o + i, none⟩ = false := by
  obtain ⟨hs, hr, he⟩ := h.qu
  have hle := hr.le
  obtain ⟨g, o, e1, e2, h5, h6⟩ := hr.at_pos (by omega)
  have hj : i < Y.length := by omega
  refine ⟨g, o, hj, e1, e2, ?_, (h6 i (by omega)).2⟩
  rw [h5 i (by omega), he i (Nat.le_refl _), List.getElem?_map, List.getElem?_eq_getElem hj]
  rfl
end
/-- A step of stands' second loop: one queue is written over and its place in the queues' own list. -/
theorem Left.step {w wr W : World} {n i : Nat} {ro : Option Nat} {Ao : Option Addr} {co : Nat} {rq : Option Nat} {Aq : Option Addr} {cq : Nat} {Y : List Lk} (h : Left w wr n i ro Ao co rq Aq cq Y) (hY : Y.length = n) (hi : i < n) {g o : Nat} (hr : rq = some g) (hA : Aq = some ⟨g, o, none⟩) (hj : i < Y.length)
    (hk : Kept (fun k => Y[i].r = some k) wr W) (d1 : ∀ k, ro = some k → rq ≠ some k) (d2 : ∀ y ∈ Y, ∀ k, y.r = some k → ro ≠ some k ∧ rq ≠ some k) (d3 : ∀ i j (hi : i < Y.length) (hj : j < Y.length), i ≠ j → ∀ k, Y[i].r = some k → Y[j].r ≠ some k) (v : Value) :
    Left w (W.setCell ⟨g, o + i, none⟩ v) n (i + 1) ro Ao co rq Aq cq Y := by
  have hset := Kept.set1 W g (o + i) v
  obtain ⟨xs, hx⟩ := h.ow
  obtain ⟨hs, hq, he⟩ := h.qu
  have hm := List.getElem_mem hj
  refine ⟨⟨xs, (hx.of_kept (by decide) hk fun k e e' => (d2 _ hm k e').1 e).of_kept (by decide) hset fun k e e' => by subst e'; exact d1 k e hr⟩, ⟨hs.set i v, (hq.of_kept (by decide) hk fun k e e' => (d2 _ hm k e').2 e).set hA (j := i) (by omega) v, fun j hj' => ?_⟩, fun j hj' hij => ?_⟩
  · rw [List.getElem?_set_ne (by omega)]; exact he j (by omega)
  · exact ((h.el j hj' (by omega)).of_kept (by decide) hk fun k e e' => d3 i j hj hj' (by omega) k e' e).of_kept (by decide) hset fun k e e' => by subst e'; exact (d2 _ (List.getElem_mem hj') k e).2 hr
theorem row_here1 {w : World} {r : Option Nat} {A : Option Addr} {n c : Nat} {xs : List Value} (h : Row w 1 r A n c xs) (j : Nat) (hj : j < n) : ∃ g o v, r = some g ∧ A = some ⟨g, o, none⟩ ∧ w.cell? ⟨g, o + j, none⟩ = some v ∧ w.frozen? ⟨g, o + j, none⟩ = false := by
  have hle := h.le
  have hl := h.length
  obtain ⟨g, o, e1, e2, h5, h6⟩ := h.at_pos (by omega)
  exact ⟨g, o, xs[j]'(by omega), e1, e2, by rw [h5 j (by omega), List.getElem?_eq_getElem (by omega)], (h6 j (by omega)).2⟩
/-- What a comparison of one queue meets. -/
theorem cmp_at {B n d : Nat} {ro : Option Nat} {Ao : Option Addr} {co : Nat} {rq : Option Nat} {Aq : Option Addr} {cq : Nat} {os : List Int} {Y : List Lk} {L : List (Int × List Int)} {P : World → Prop} (HT : ∀ W, P W → Told B W n n ro Ao co rq Aq cq os Y) (hY : Y.map (·.q) = L.map (·.2)) (hl : n = L.length)
    (HX : ∀ j (hj : j < n), ∃ g2 o2 cq rr Aq c, ∃ (hjL : j < L.length), (∀ W, P W → W.cell? ⟨d, 1, none⟩ = some (.slice (some ⟨g2, o2, none⟩) n cq) ∧ W.cell? ⟨g2, o2 + j, none⟩ = some (.slice Aq L[j].2.length c) ∧ Row W 1 rr Aq L[j].2.length c (L[j].2.map (Value.int .i64))) ∧ n ≤ cq ∧ cq ≤ 9223372036854775807) {w0 : World} (h0 : P w0) (j : Nat) (hj : j < n) :
    ∃ g o Aj mj cj g2 o2 cx Bj mx cx', Aq = some ⟨g, o, none⟩ ∧ (∀ W, P W → W.cell? ⟨g, o + j, none⟩ = some (.slice Aj mj cj) ∧ W.cell? ⟨d, 1, none⟩ = some (.slice (some ⟨g2, o2, none⟩) n cx) ∧ W.cell? ⟨g2, o2 + j, none⟩ = some (.slice Bj mx cx') ∧
      Calls Try.prog 28 #[.slice Aj mj cj, .slice Bj mx cx'] W fun e w' => e = .returned (.bool true) ∧ New W w') ∧ mj ≤ cj ∧ cj ≤ 9223372036854775807 ∧ mx ≤ cx' ∧ cx' ≤ 9223372036854775807 ∧ n ≤ cx ∧ cx ≤ 9223372036854775807 := by
  obtain ⟨g2, o2, cx, rr, Bj, cx', hjL, hxw, b1, b2⟩ := HX j hj
  obtain ⟨_, hjY, hqe⟩ := (HT w0 h0).queue_at hY hl j hj
  obtain ⟨g, o, -, hA, -, -⟩ := qu_at (HT w0 h0).qu j hj hjY
  have hb := ((HT w0 h0).el _ (List.getElem_mem hjY)).bound
  have hbx := (hxw w0 h0).2.2.bound
  refine ⟨g, o, Y[j].A, Y[j].q.length, Y[j].c, g2, o2, cx, Bj, _, cx', hA, fun W hW => ?_, hb.1, hb.2, hbx.1, hbx.2, b1, b2⟩
  obtain ⟨g', o', -, hA', hc, -⟩ := qu_at (HT W hW).qu j hj hjY
  rw [hA] at hA'
  injection hA' with e
  injection e with e1 e2
  subst e1; subst e2
  exact ⟨hc, (hxw W hW).1, (hxw W hW).2.1, ints_same ((HT W hW).el _ (List.getElem_mem hjY)) (hxw W hW).2.2 hqe⟩
set_option maxHeartbeats 8000000 in
set_option maxRecDepth 100000 in
theorem stands_any {w : World} {b d : Nat} {F G : Nat → Prop} {L : List (Int × List Int)} (h : At w b F L) (hx : RAt w d G L) (hL : L.length ≤ 1048576) (hQ : ∀ x ∈ L, x.2.length ≤ 1048576) :
    Calls Try.prog 21 #[.pointer (some ⟨b, 0, none⟩), .pointer (some ⟨d, 0, none⟩)] w fun e w' => e = .returned (.bool true) ∧ New w w' := by
  have hs1 := state_any h hL hQ
  have HH := Lib.hid (fun W (hW : New w W) => state_any (h.new hW) hL hQ)
  have HX := Lib.hid (fun W (hW : New w W) => hx.new hW)
  obtain ⟨rx, Ax, cx, y0, bx1, bx2, hox, hrx⟩ := hx.owners
  have HX0 := Lib.hid (fun W (hW : New w W) => (hW.cell (p := ⟨d, 0, none⟩) (lt_of_cell y0).1 id).trans y0)
  have HXO := Lib.hid (fun W (hW : New w W) => hox.new (by decide) hW)
  obtain ⟨n, hn⟩ : ∃ n, n = L.length := ⟨_, rfl⟩
  have hQX : Hid (∀ j (hj : j < n), ∃ g2 o2 cq rr Aq c, ∃ (hjL : j < L.length), (∀ W, New w W → W.cell? ⟨d, 1, none⟩ = some (.slice (some ⟨g2, o2, none⟩) n cq) ∧ W.cell? ⟨g2, o2 + j, none⟩ = some (.slice Aq L[j].2.length c) ∧ Row W 1 rr Aq L[j].2.length c (L[j].2.map (Value.int .i64))) ∧ n ≤ cq ∧ cq ≤ 9223372036854775807) := Lib.hid fun j hj => by
    obtain ⟨g2, o2, cq, rr, Aq, c, y1, b1, b2, x2, x2f, hrow, -⟩ := hx.queue_here j (by omega)
    rw [← hn] at y1 b1
    exact ⟨g2, o2, cq, rr, Aq, c, by omega, fun W hW => ⟨(hW.cell (p := ⟨d, 1, none⟩) (lt_of_cell y1).1 id).trans y1, (hW.cell (p := ⟨g2, o2 + j, none⟩) (lt_of_cell x2).1 id).trans x2, hrow.new (by decide) hW⟩, b1, b2⟩
  have hd1 : ∃ A c, w.cell? ⟨d, 1, none⟩ = some (.slice A L.length c) ∧ L.length ≤ c ∧ c ≤ 9223372036854775807 := by
    obtain ⟨⟨ro, Ao, co, rq, Aq, cq, Y, hp, hY⟩, h4⟩ := hx
    obtain ⟨y0, y1, -, -, b1, b2, b3, b4⟩ := hp.cells
    exact ⟨_, _, y1, b3, b4⟩
  obtain ⟨Ax1, cx1, yx1, bx3, bx4⟩ := hd1
  have HX1 := Lib.hid (fun W (hW : New w W) => (hW.cell (p := ⟨d, 1, none⟩) (lt_of_cell yx1).1 id).trans yx1)
  rw [← hn] at hs1 HH HX0 HXO HX1 bx1 bx3 hL
  have HQX := hQX
  clear hQX
  have HS1 := Lib.hid hs1
  have HN := Lib.hid hn
  clear hs1 hn
  clear y0 yx1 hox hrx h hx
  go_enter Try.func21, Try.ntmps21
  go_wp2_with fail
  refine HS1.out.mono ?_
  rintro e w1 ⟨ro1, Ao1, co1, rq1, Aq1, cq1, Y1, rfl, ht1, hy1, hk1⟩
  have hs2 := HH.out w1 hk1
  have hb1 := ht1.ow.bound
  have hb2 := ht1.qu.bound
  have HS2 := Lib.hid hs2
  have HT1 := Lib.hid ht1
  have HY1 := Lib.hid hy1
  have HK1 := Lib.hid hk1
  clear hs2 ht1 hy1 hk1
  go_wp2_with fail
  refine HS2.out.mono ?_
  rintro e w2 ⟨ro2, Ao2, co2, rq2, Aq2, cq2, Y2, rfl, ht2, hy2, hk2⟩
  have hb3 := ht2.ow.bound
  have hb4 := ht2.qu.bound
  have hk02 := HK1.out.trans hk2
  have ht12 := HT1.out.new hk2
  have y0 := HX0.out w2 hk02
  have hi1 := ints_same ht12.ow (HXO.out w2 hk02) rfl
  have HT2 := Lib.hid ht2
  have HY2 := Lib.hid hy2
  have HK2 := Lib.hid hk2
  have HK02 := Lib.hid hk02
  have HT12 := Lib.hid ht12
  have HI1 := Lib.hid hi1
  clear ht2 hy2 hk2 hk02 ht12 hi1
  go_wp2_with fail
  refine HI1.out.mono ?_
  rintro e w3 ⟨rfl, hk3⟩
  have y0 := HX0.out w3 (HK02.out.trans hk3)
  have hi2 := ints_same (HT2.out.ow.new (by decide) hk3) (HXO.out w3 (HK02.out.trans hk3)) rfl
  have HK3 := Lib.hid hk3
  have HI2 := Lib.hid hi2
  clear hk3 hi2
  go_wp2_with fail
  refine HI2.out.mono ?_
  rintro e w4 ⟨rfl, hk4⟩
  have y1 := HX1.out w4 (HK02.out.trans (HK3.out.trans hk4))
  have hk24 := HK3.out.trans hk4
  have HK4 := Lib.hid hk4
  have HK24 := Lib.hid hk24
  clear hk4 hk24
  go_wp2_with fail
  have hY1l : Y1.length = n := by have := congrArg List.length HY1.out; have := HN.out; simp at *; omega
  have hY2l : Y2.length = n := by have := congrArg List.length HY2.out; have := HN.out; simp at *; omega
  have HY1L := Lib.hid hY1l
  have HY2L := Lib.hid hY2l
  clear hY1l hY2l
  clear y0 y1
  -- the first comparison
  go_loopw [9] (fun i wr => ∃ j : Nat, j ≤ n ∧ i = .int .i64 j ∧ New w2 wr) (fun i _ => (n - intOf i).toNat)
  case atStart => exact ⟨0, Nat.zero_le _, rfl, HK24.out⟩
  case round =>
    obtain ⟨j, hj, rfl, hnr⟩ := hrel
    by_cases hlt : j < n
    · obtain ⟨g, o, Aj, mj, cj, g2, o2, cx2, Bj, mx, cx3, rfl, hc, bb1, bb2, bb3, bb4, bb5, bb6⟩ := cmp_at (P := fun W => New w2 W) (fun W hW => HT12.out.new hW) HY1.out HN.out (fun j hj => by
        obtain ⟨g2, o2, cq, rr, Aq, c, hjL, hxw, b1, b2⟩ := HQX.out j hj
        exact ⟨g2, o2, cq, rr, Aq, c, hjL, fun W hW => hxw W (HK02.out.trans hW), b1, b2⟩) hnr j hlt
      obtain ⟨x0, x1, x2, -⟩ := hc wr hnr
      have e2 : (0 : Int) ≤ (j : Int) := by omega
      have e3 : (j : Int) < (n : Int) := by omega
      have HNR := Lib.hid hnr
      have HC := Lib.hid hc
      clear hnr hc
      go_upto_region 8 with (fail)
      go_region_held3 (fun W => W.cell? ⟨g, o + j, none⟩ = some (.slice Aj mj cj) ∧ W.cell? ⟨d, 1, none⟩ = some (.slice (some ⟨g2, o2, none⟩) n cx2) ∧ W.cell? ⟨g2, o2 + j, none⟩ = some (.slice Bj mx cx3)) (first | (refine ⟨?_, ?_, ?_⟩ <;> assumption) | go_keep)
        ((go_at_call 28; refine ((HC.out _ (by first | exact HNR.out.drew | exact HNR.out)).2.2.2).mono ?_; rintro e w5 ⟨rfl, hk5⟩; have hn5 : New w2 w5 := (by first | exact HNR.out.drew.trans hk5 | exact HNR.out.trans hk5); obtain ⟨z0, z1, z2, -⟩ := HC.out w5 hn5; have HN5 := Lib.hid hn5; clear hk5 hn5))
      go_wp2_with fail
      go_roundw
      case rel => exact ⟨j + 1, by omega, by go_num, HN5.out⟩
      case measure => simp [intOf]; omega
    · obtain rfl : j = n := by omega
      have hl0 := Left.start (HT12.out.new hnr)
      have hkk : Kept (fun k => w.heap.size ≤ k ∧ k < w1.heap.size) w2 wr := hnr.mono fun _ _ h => h.elim
      have hl0' : Left w2 wr j 0 ro1 Ao1 co1 rq1 Aq1 cq1 Y1 := ⟨hl0.ow, hl0.qu, hl0.el⟩
      have HD := Lib.hid HT1.out
      have hsz1 := HK1.out.size
      have hsz2 := HK2.out.size
      have HRO := Lib.hid (fun k (e : ro1 = some k) => And.intro (HT1.out.fo k e) (HT1.out.ow.lt (by decide) k e))
      have HRQ := Lib.hid (fun k (e : rq1 = some k) => And.intro (HT1.out.fq k e) (HT1.out.qu.lt (by decide) k e))
      have HRY := Lib.hid (fun i (hi : i < Y1.length) k (e : Y1[i].r = some k) => And.intro (HT1.out.fe _ (List.getElem_mem hi) k e) ((HT1.out.el _ (List.getElem_mem hi)).lt (by decide) k e))
      have HQL := Lib.hid (fun i (hi : i < Y1.length) => show Y1[i].q.length ≤ 1048576 from by
        obtain ⟨hjL, _, hqe⟩ := HT1.out.queue_at HY1.out HN.out i (by have := HY1L.out; omega)
        rw [hqe]; exact hQ _ (List.getElem_mem hjL))
      generalize hnj : j = n' at *
      have HL0' := Lib.hid hl0'
      have HKK := Lib.hid hkk
      have HSZ1 := Lib.hid hsz1
      have HSZ2 := Lib.hid hsz2
      have HNJ := Lib.hid hnj
      clear hl0' hkk hsz1 hsz2 hnj
      clear hnr hl0
      go_wp2_with fail
      go_loopw [10] (fun i wr => ∃ j : Nat, j ≤ n' ∧ i = .int .i64 j ∧ Kept (fun k => w.heap.size ≤ k ∧ k < w1.heap.size) w2 wr ∧ Left w2 wr n' j ro1 Ao1 co1 rq1 Aq1 cq1 Y1) (fun i _ => (n' - intOf i).toNat)
      case atStart => exact ⟨0, Nat.zero_le _, rfl, HKK.out, HL0'.out⟩
      case round =>
        obtain ⟨i, hi, rfl, hkr, hleft⟩ := hrel
        by_cases hlt : i < n'
        · obtain ⟨g, o, hiY, hrq, rfl, x0, xf⟩ := hleft.here HY1L.out hlt
          have hrow := hleft.el i hiY (Nat.le_refl _)
          have hql := HQL.out i hiY
          have hry := HRY.out i hiY
          have HST := Lib.hid (fun W (hk : Kept (fun k => Y1[i].r = some k) wr W) v => hleft.step HY1L.out hlt hrq rfl hiY hk HD.out.d1 HD.out.d2 HD.out.d3 v)
          have hgy : ∀ k, Y1[i].r = some k → k ≠ g := fun k e h => (HD.out.d2 _ (List.getElem_mem hiY) k e).2 (by rw [hrq, h])
          generalize Y1[i].A = yA at *
          generalize Y1[i].c = yc at *
          generalize Y1[i].r = yr at *
          generalize Y1[i].q = yq at *
          obtain ⟨m, hm⟩ : ∃ m, m = yq.length := ⟨_, rfl⟩
          rw [← hm] at x0 hrow hql
          have hbm := hrow.bound
          have HC := Lib.hid (fun W (hk : Kept (fun k => yr = some k) wr W) => And.intro ((hk.cell (p := ⟨g, o + i, none⟩) (lt_of_cell x0).1 (fun e => hgy g e rfl)).trans x0) ((hk.frozen (p := ⟨g, o + i, none⟩) (lt_of_cell x0).1 (fun e => hgy g e rfl)).trans xf))
          have e2 : (0 : Int) ≤ (i : Int) := by omega
          have e3 : (i : Int) < (n' : Int) := by omega
          have HKR := Lib.hid hkr
          have HLEFT := Lib.hid hleft
          have HROW := Lib.hid hrow
          have HRY' := Lib.hid hry
          have HGY := Lib.hid hgy
          have HM := Lib.hid hm
          have HRQ' := Lib.hid hrq
          clear hkr hleft hrow hry hgy hm hrq
          clear x0 xf
          go_wp2_with fail
          generalize hwr : wr = wi at *
          go_loopw [11] (fun kk wr' => ∃ k : Nat, k ≤ m ∧ kk = .int .i64 k ∧ Kept (fun k => yr = some k) wi wr' ∧ ∃ xs, Row wr' 1 yr yA m yc xs) (fun kk _ => (m - intOf kk).toNat)
          case atStart => exact ⟨0, Nat.zero_le _, rfl, Kept.refl _ _, _, HROW.out⟩
          case round =>
            obtain ⟨k, hk, rfl, hkw, xs, hrx⟩ := hrel
            obtain ⟨x0, xf⟩ := HC.out _ hkw
            by_cases hlk : k < m
            · obtain ⟨gy, oy, v0, hyr, rfl, z0, zf⟩ := row_here1 hrx k hlk
              have f2 : (0 : Int) ≤ (k : Int) := by omega
              have f3 : (k : Int) < (m : Int) := by omega
              have HKW := Lib.hid hkw
              have HRX := Lib.hid hrx
              have HYR := Lib.hid hyr
              clear hkw hrx hyr
              go_wp2_with fail
              go_roundw
              case rel => exact ⟨k + 1, by omega, by go_num, HKW.out.setCell (.inr HYR.out) _, _, HRX.out.set rfl (j := k) (by omega) _⟩
              case measure => simp [intOf]; omega
            · obtain rfl : k = m := by omega
              have HKW := Lib.hid hkw
              have HRX := Lib.hid hrx
              clear hkw hrx
              go_wp2_with fail
              go_loopw [12, 13] (fun s kk wr' => ∃ (k2 : Nat) (r : Option Nat) (A : Option Addr) (c : Nat) (xs : List Value), k2 ≤ 9 ∧ kk = .int .i64 k2 ∧ s = .slice A (k + k2) c ∧ Row wr' 1 r A (k + k2) c xs ∧ (∀ j, r = some j → yr = some j ∨ wi.heap.size ≤ j) ∧ Kept (fun k => yr = some k) wi wr') (fun _ kk _ => (9 - intOf kk).toNat)
              case atStart => exact ⟨0, yr, yA, yc, xs, by omega, rfl, rfl, HRX.out, fun j e => .inl e, HKW.out⟩
              case round =>
                obtain ⟨k2, r, A, c, xs2, hk2', rfl, rfl, hr2, hf2, hkw2⟩ := hrel
                have hb2' := hr2.bound
                by_cases hl9 : k2 < 9
                · have HR2 := Lib.hid hr2
                  have HF2 := Lib.hid hf2
                  have HKW2 := Lib.hid hkw2
                  clear hr2 hf2 hkw2
                  go_wp2_with (at_builtin; refine wpList_append_one (cs := [.int .i64 (-8)]) tyInts rfl (.tmp 111) (.tmp 112) rfl rfl HR2.out rfl rfl rfl (by simp [Value.oneCell']) (by unfold maxLen; omega) (by omega) ?_; intro r3 A3 c3 w3 hr3 hk3 hn3; have HR3 := Lib.hid hr3; have HK3' := Lib.hid hk3; have HN3 := Lib.hid hn3; clear hr3 hk3 hn3)
                  go_roundw
                  case rel =>
                    refine ⟨k2 + 1, r3, A3, c3, _, by omega, by go_num, rfl, HR3.out, fun j e => ?_, HKW2.out.step HK3'.out fun j hj e => ?_⟩
                    · rcases HN3.out j e with h | h
                      · exact HF2.out j h
                      · exact .inr (Nat.le_trans HKW2.out.size h)
                    · rcases HF2.out j e with h | h
                      · exact h
                      · omega
                  case measure => simp [intOf]; omega
                · have hkk2 : ¬ ((k2 : Int) < 9) := by omega
                  obtain ⟨x0, xf⟩ := HC.out _ hkw2
                  have HR2 := Lib.hid hr2
                  have HF2 := Lib.hid hf2
                  have HKW2 := Lib.hid hkw2
                  clear hr2 hf2 hkw2
                  generalize hw7 : wr = w7 at *
                  have hal : New w7 (w7.alloc (.cells #[.int .i64 (-9)] 3)) := (Kept.refl _ _).alloc _
                  have x0' := (hal.cell (p := ⟨g, o + i, none⟩) (lt_of_cell x0).1 id).trans x0
                  have xf' := (hal.frozen (p := ⟨g, o + i, none⟩) (lt_of_cell x0).1 id).trans xf
                  clear hal
                  go_wp2_with fail
                  go_roundw
                  case rel =>
                    exact ⟨i + 1, by omega, by go_num, ((HKR.out.step HKW2.out fun k _ e => HRY'.out k e).alloc _).setCell (.inr (HRQ.out g HRQ'.out)) _, HST.out _ (HKW2.out.alloc _) _⟩
                  case measure => simp [intOf]; omega
        · obtain rfl : i = n' := by omega
          obtain ⟨xs, hro⟩ := hleft.ow
          have HKR := Lib.hid hkr
          have HRO' := Lib.hid hro
          clear hkr hro
          clear hleft
          go_wp2_with fail
          go_loopw [14] (fun kk wr' => ∃ k : Nat, k ≤ i ∧ kk = .int .i64 k ∧ Kept (fun k => w.heap.size ≤ k ∧ k < w1.heap.size) w2 wr' ∧ ∃ xs, Row wr' 1 ro1 Ao1 i co1 xs) (fun kk _ => (i - intOf kk).toNat)
          case atStart => exact ⟨0, Nat.zero_le _, rfl, HKR.out, _, HRO'.out⟩
          case round =>
            obtain ⟨k, hk, rfl, hkw, xs, hrx⟩ := hrel
            by_cases hlk : k < i
            · obtain ⟨gy, oy, v0, hyr, rfl, z0, zf⟩ := row_here1 hrx k hlk
              have f2 : (0 : Int) ≤ (k : Int) := by omega
              have f3 : (k : Int) < (i : Int) := by omega
              have HKW := Lib.hid hkw
              have HRX := Lib.hid hrx
              have HYR := Lib.hid hyr
              clear hkw hrx hyr
              go_wp2_with fail
              go_roundw
              case rel => exact ⟨k + 1, by omega, by go_num, HKW.out.setCell (.inr (HRO.out gy HYR.out)) _, _, HRX.out.set rfl (j := k) (by omega) _⟩
              case measure => simp [intOf]; omega
            · obtain rfl : k = i := by omega
              have HKW := Lib.hid hkw
              have HRX := Lib.hid hrx
              clear hkw hrx
              go_wp2_with fail
              go_loopw [5, 15] (fun s kk wr' => ∃ (k2 : Nat) (r : Option Nat) (A : Option Addr) (c : Nat) (xs : List Value), k2 ≤ 9 ∧ kk = .int .i64 k2 ∧ s = .slice A (k + k2) c ∧ Row wr' 1 r A (k + k2) c xs ∧ (∀ j, r = some j → ro1 = some j ∨ w2.heap.size ≤ j) ∧ Kept (fun k => w.heap.size ≤ k ∧ k < w1.heap.size) w2 wr') (fun _ kk _ => (9 - intOf kk).toNat)
              case atStart => exact ⟨0, ro1, Ao1, co1, xs, by omega, rfl, rfl, HRX.out, fun j e => .inl e, HKW.out⟩
              case round =>
                obtain ⟨k2, r, A, c, xs2, hk2', rfl, rfl, hr2, hf2, hkw2⟩ := hrel
                have hb2' := hr2.bound
                by_cases hl9 : k2 < 9
                · have HR2 := Lib.hid hr2
                  have HF2 := Lib.hid hf2
                  have HKW2 := Lib.hid hkw2
                  clear hr2 hf2 hkw2
                  go_wp2_with (at_builtin; refine wpList_append_one (cs := [.int .i64 (-9)]) tyInts rfl (.tmp 131) (.tmp 132) rfl rfl HR2.out rfl rfl rfl (by simp [Value.oneCell']) (by unfold maxLen; omega) (by omega) ?_; intro r3 A3 c3 w3 hr3 hk3 hn3; have HR3 := Lib.hid hr3; have HK3' := Lib.hid hk3; have HN3 := Lib.hid hn3; clear hr3 hk3 hn3)
                  go_roundw
                  case rel =>
                    refine ⟨k2 + 1, r3, A3, c3, _, by omega, by go_num, rfl, HR3.out, fun j e => ?_, HKW2.out.step HK3'.out fun j hj e => ?_⟩
                    · rcases HN3.out j e with h | h
                      · exact HF2.out j h
                      · exact .inr (Nat.le_trans HKW2.out.size h)
                    · rcases HF2.out j e with h | h
                      · exact HRO.out j h
                      · omega
                  case measure => simp [intOf]; omega
                · have hkk2 : ¬ ((k2 : Int) < 9) := by omega
                  have HR2 := Lib.hid hr2
                  have HF2 := Lib.hid hf2
                  have HKW2 := Lib.hid hkw2
                  clear hr2 hf2 hkw2
                  have HTK := Lib.hid (fun W (hW : Kept (fun k => w.heap.size ≤ k ∧ k < w1.heap.size) w2 W) => HT2.out.kept hW (fun k e h => by have := HT2.out.fo k e; omega) (fun k e h => by have := HT2.out.fq k e; omega) (fun y hy k e h => by have := HT2.out.fe y hy k e; omega))
                  have HNEW := Lib.hid (fun W (hW : Kept (fun k => w.heap.size ≤ k ∧ k < w1.heap.size) w2 W) => show New w W from HK02.out.step hW fun k hk e => by omega)
                  go_wp2_with fail
                  go_loopw [16] (fun i wr => ∃ j : Nat, j ≤ k ∧ i = .int .i64 j ∧ Kept (fun k => w.heap.size ≤ k ∧ k < w1.heap.size) w2 wr) (fun i _ => (k - intOf i).toNat)
                  case atStart => exact ⟨0, Nat.zero_le _, rfl, HKW2.out⟩
                  case round =>
                    obtain ⟨j, hj, rfl, hnr⟩ := hrel
                    by_cases hlt : j < k
                    · obtain ⟨g, o, Aj, mj, cj, g2, o2, cx2, Bj, mx, cx3, rfl, hc, bb1, bb2, bb3, bb4, bb5, bb6⟩ := cmp_at (P := fun W => Kept (fun k => w.heap.size ≤ k ∧ k < w1.heap.size) w2 W) HTK.out HY2.out HN.out (fun j hj => by
                        obtain ⟨g2, o2, cq, rr, Aq, c, hjL, hxw, b1, b2⟩ := HQX.out j hj
                        exact ⟨g2, o2, cq, rr, Aq, c, hjL, fun W hW => hxw W (HNEW.out W hW), b1, b2⟩) hnr j hlt
                      obtain ⟨x0, x1, x2, -⟩ := hc wr hnr
                      have e2 : (0 : Int) ≤ (j : Int) := by omega
                      have e3 : (j : Int) < (k : Int) := by omega
                      have HNR := Lib.hid hnr
                      have HC := Lib.hid hc
                      clear hnr hc
                      go_upto_region 34 with (fail)
                      go_region_held3 (fun W => W.cell? ⟨g, o + j, none⟩ = some (.slice Aj mj cj) ∧ W.cell? ⟨d, 1, none⟩ = some (.slice (some ⟨g2, o2, none⟩) k cx2) ∧ W.cell? ⟨g2, o2 + j, none⟩ = some (.slice Bj mx cx3)) (first | (refine ⟨?_, ?_, ?_⟩ <;> assumption) | go_keep)
                        ((go_at_call 28; refine ((HC.out _ (by first | exact HNR.out.drew | exact HNR.out)).2.2.2).mono ?_; rintro e w5 ⟨rfl, hk5⟩; have hn5 : Kept (fun k => w.heap.size ≤ k ∧ k < w1.heap.size) w2 w5 := (by first | exact HNR.out.drew.step hk5 (fun _ _ h => h.elim) | exact HNR.out.step hk5 (fun _ _ h => h.elim)); obtain ⟨z0, z1, z2, -⟩ := HC.out w5 hn5; have HN5 := Lib.hid hn5; clear hk5 hn5))
                      go_wp2_with fail
                      go_roundw
                      case rel => exact ⟨j + 1, by omega, by go_num, HN5.out⟩
                      case measure => simp [intOf]; omega
                    · obtain rfl : j = k := by omega
                      have hlast := ints_same (HTK.out wr hnr).ow (HXO.out wr (HNEW.out wr hnr)) rfl
                      have y0 := HX0.out wr (HNEW.out wr hnr)
                      have HNR := Lib.hid hnr
                      have HLAST := Lib.hid hlast
                      clear hnr hlast
                      go_wp2_with fail
                      refine HLAST.out.mono ?_
                      rintro e w9 ⟨rfl, hk9⟩
                      have hfin := (HNEW.out wr HNR.out).trans hk9
                      have HFIN := Lib.hid hfin
                      clear hfin
                      clear hk9
                      go_wp2_with fail
                      go_ret
                      exact ⟨rfl, HFIN.out⟩
end Go.Proofs.Ytjjlemkmdldljaa.Locks
