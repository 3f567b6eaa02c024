/- The walk of LocksRise (layer 12). -/
import Derived.Test.YtjjlemkmdldljaaLocksRb
import Derived.Test.YtjjlemkmdldljaaLocksV
import Derived.Deep.DeepCutAuto
import Derived.Deep.CutBlock
namespace Go.Proofs.Ytjjlemkmdldljaa.Locks
open Go.RowKit Go.Fb
set_option linter.unusedVariables false
/-- The locks stand, in memory that is new since w0, apart from X. -/
def OwnX (X : Nat → Prop) (w0 : World) (b : Nat) (L : List (Int × List Int)) (w : World) : Prop :=
  ∃ F, At w b F L ∧ (∀ k, F k → w0.heap.size ≤ k) ∧ New w0 w ∧ ∀ k, X k → w0.heap.size ≤ k ∧ k < w.heap.size ∧ ¬ F k
section
variable {X X' : Nat → Prop} {w0 w w' : World} {b : Nat} {L L' : List (Int × List Int)}
theorem OwnX.mono (h : OwnX X w0 b L w) (hX : ∀ k, X' k → X k) : OwnX X' w0 b L w := by
  obtain ⟨F, h1, h4, h6, h7⟩ := h
  exact ⟨F, h1, h4, h6, fun k hk => h7 k (hX k hk)⟩
theorem OwnX.more (h : OwnX X w0 b L w) (hk : New w w') (hX : ∀ k, X' k → X k ∨ (w.heap.size ≤ k ∧ k < w'.heap.size)) : OwnX X' w0 b L w' := by
  obtain ⟨F, h1, h4, h6, h7⟩ := h
  have hs := hk.size
  have hs0 := h6.size
  refine ⟨F, h1.new hk, h4, h6.trans hk, fun k hk' => ?_⟩
  rcases hX k hk' with e | ⟨e1, e2⟩
  · exact ⟨(h7 k e).1, Nat.lt_of_lt_of_le (h7 k e).2.1 hs, (h7 k e).2.2⟩
  · exact ⟨by omega, e2, fun e => by have := h1.lt k e; omega⟩
theorem OwnX.new (h : OwnX X w0 b L w) (hk : New w w') : OwnX X w0 b L w' := h.more hk fun k h => .inl h
theorem OwnX.fresh (h : OwnX X w0 b L w) : New w0 w := by
  obtain ⟨F, h1, h4, h6, h7⟩ := h
  exact h6
theorem OwnX.left (h : OwnX X w0 b L w) {f : Nat} {args : Array Value} {v : Value} (hc : ∀ F, At w b F L → Calls Try.prog f args w (Ends w b F L' v)) :
    Calls Try.prog f args w fun e w' => e = .returned v ∧ Kept (fun k => ¬ X k) w w' ∧ OwnX X w0 b L' w' := by
  obtain ⟨F, h1, h4, h6, h7⟩ := h
  refine (hc F h1).mono ?_
  rintro e w' ⟨rfl, h1', hk⟩
  have hs := hk.size
  have hs0 := h6.size
  refine ⟨rfl, hk.mono fun k _ hF hX => (h7 k hX).2.2 hF, grow F w w', h1', ?_, h6.step hk fun k hk' hF => by have := h4 k hF; omega, fun k hX => ⟨(h7 k hX).1, Nat.lt_of_lt_of_le (h7 k hX).2.1 hs, fun e => ?_⟩⟩
  · intro k hF
    rcases hF.1 with e | e
    · exact h4 k e
    · omega
  · rcases e.1 with e | e
    · exact (h7 k hX).2.2 e
    · have := (h7 k hX).2.1; omega
theorem OwnX.end_left (h : OwnX X w0 b L w) (p : Int) (hL : L.length ≤ 1048576) : Calls Try.prog 15 #[.pointer (some ⟨b, 0, none⟩), .int .i64 p] w fun e w' =>
    ∃ A n c, e = .returned (.slice A n c) ∧ Kept (fun k => ¬ X k) w w' ∧ OwnX X w0 b (endL L p).1 w' := by
  obtain ⟨F, h1, h4, h6, h7⟩ := h
  refine (end_any h1 p hL).mono ?_
  rintro e w' ⟨r, A, c, rfl, hr, hf, F', h1', hF', hrF, hk⟩
  have hs := hk.size
  have hs0 := h6.size
  refine ⟨A, _, c, rfl, hk.mono fun k _ hF hX => (h7 k hX).2.2 hF, F', h1', ?_, h6.step hk fun k hk' hF => by have := h4 k hF; omega, ?_⟩
  · intro k hF
    rcases hF' k hF with e | e
    · exact h4 k e
    · omega
  · intro k hX
    refine ⟨(h7 k hX).1, Nat.lt_of_lt_of_le (h7 k hX).2.1 hs, fun e => ?_⟩
    rcases hF' k e with e | e
    · exact (h7 k hX).2.2 e
    · have := (h7 k hX).2.1; omega
theorem OwnX.state (h : OwnX X w0 b L w) (hL : L.length ≤ 1048576) (hQ : ∀ x ∈ L, x.2.length ≤ 1048576) : Calls Try.prog 11 #[.pointer (some ⟨b, 0, none⟩)] w fun e w' =>
    ∃ ro Ao co rq Aq cq Y, e = .returned (.tuple #[.slice Ao L.length co, .slice Aq L.length cq]) ∧ Told w.heap.size w' L.length L.length ro Ao co rq Aq cq (L.map (·.1)) Y ∧ Y.map (·.q) = L.map (·.2) ∧ New w w' := by
  obtain ⟨F, h1, -⟩ := h
  exact state_any h1 hL hQ
theorem OwnX.holds (h : OwnX X w0 b L w) (p : Int) (hL : L.length ≤ 1048576) : Calls Try.prog 12 #[.pointer (some ⟨b, 0, none⟩), .int .i64 p] w fun e w' =>
    ∃ r A c, e = .returned (.slice A (heldL L p).length c) ∧ Row w' 1 r A (heldL L p).length c ((heldL L p).map (Value.int .i64)) ∧ (∀ k, r = some k → w.heap.size ≤ k) ∧ New w w' := by
  obtain ⟨F, h1, -⟩ := h
  exact holds_any h1 p hL
end
theorem op_wf {w : World} {B : Nat} {A : Option Addr} {n c : Nat} {l : List Op} (h : SliceOf repOp w B A n c l) (hn : 0 < n) (i : Nat) (hi : i < l.length) : wfI l[i].proc := by
  obtain ⟨b, o, e, hb, hc⟩ := h.get hn
  obtain ⟨es, g1, g2, _, w2, w3⟩ := hc i hi
  exact w3
theorem Rise.take2 {B : Nat} {L : List (Int × List Int)} {p n : Int} (h : Rise B L) (hwf : wfI p) (hh : (heldL L p).length = 0 ∨ (heldL L p).getD ((heldL L p).length - 1) 0 < n) : Rise (B + 1) (takeL L n p).1 := by
  by_cases hp : p = -1
  · subst hp
    have : (takeL L n (-1)).1 = L := by
      unfold takeL
      rw [if_pos]
      unfold wrongN
      split
      · decide
      · decide
    rw [this]; exact h.mono (by omega)
  · exact h.take n p hwf (held_below hp hh)
theorem Told.keptX {B n : Nat} {w w' : World} {X : Nat → Prop} {ro : Option Nat} {Ao : Option Addr} {co : Nat} {rq : Option Nat} {Aq : Option Addr} {cq : Nat} {os : List Int} {Y : List Lk} {w2 : World} (h2 : Told B w2 n n ro Ao co rq Aq cq os Y) (h : Told B w n n ro Ao co rq Aq cq os Y) (hk : Kept (fun k => ¬ X k) w w') (hX : ∀ k, B ≤ k → k < w2.heap.size → X k) : Told B w' n n ro Ao co rq Aq cq os Y :=
  h.kept hk (fun k e hn => hn (hX k (h.fo k e) (h2.ow.lt (by decide) k e))) (fun k e hn => hn (hX k (h.fq k e) (h2.qu.lt (by decide) k e))) (fun y hy k e hn => hn (hX k (h.fe y hy k e) ((h2.el y hy).lt (by decide) k e)))
set_option maxHeartbeats 16000000 in
set_option maxRecDepth 100000 in
theorem rise_walk (k : Int) (A : Option Addr) (n c : Nat) (l : List Op) (w : World) (hl : SliceOf repOp w w.heap.size A n c l) :
    Calls Try.prog 5 #[.int .i64 k, .slice A n c] w fun e w' => e = .returned (.bool true) ∧ New w w' := by
  have hb := hl.bound
  have hll := hl.len
  have hnew := new_any k w
  have HNEW := Lib.hid hnew
  have HSL := Lib.hid hl
  have HLL := Lib.hid hll
  clear hnew hl hll
  go_enter Try.func5, Try.ntmps5
  dsimp only [List.append]
  go_wp2_with fail
  refine HNEW.out.mono ?_
  rintro e w1 ⟨hn1, hw1⟩
  rcases hw1 with ⟨k0, k8, rfl, F, hA, hF⟩ | ⟨kn, rfl⟩
  · obtain ⟨kn, rfl⟩ : ∃ kn : Nat, k = kn := ⟨k.toNat, by omega⟩
    rw [Int.toNat_natCast] at hA
    have hox : OwnX (fun _ => False) w w.heap.size (List.replicate kn (-1, [])) w1 := ⟨F, hA, hF, hn1, fun _ h => h.elim⟩
    have hri := Rise.start kn (by omega)
    have hkl : (List.replicate kn ((-1, []) : Int × List Int)).length = kn := List.length_replicate
    generalize List.replicate kn ((-1, []) : Int × List Int) = L0 at *
    generalize hbw : w.heap.size = b at *
    have HBW : Hid (b ≤ w.heap.size) := Lib.hid (Nat.le_of_eq hbw.symm)
    clear hbw
    have HOX := Lib.hid hox
    have HRI := Lib.hid hri
    have HKL := Lib.hid hkl
    have HN1 := Lib.hid hn1
    clear hox hri hkl hn1
    clear hA hF
    go_wp2_with fail
    go_loopw [7] (fun i wr => ∃ (j : Nat) (L : List (Int × List Int)), j ≤ n ∧ j ≤ 3000 ∧ i = .int .i64 j ∧ OwnX (fun _ => False) w b L wr ∧ Rise j L ∧ L.length = kn) (fun i _ => (n - intOf i).toNat)
    case atStart => exact ⟨0, L0, Nat.zero_le _, by omega, rfl, HOX.out, HRI.out, HKL.out⟩
    case round =>
      obtain ⟨j, L, hj, hj3, rfl, hox, hri, hkl⟩ := hrel
      by_cases hlt : j < n
      · by_cases hl3 : j < 3000
        · obtain ⟨b0, o0, rfl, hb0, hc0⟩ := op_at (HSL.out.kept hox.fresh HBW.out fun _ _ h => h) (by omega)
          have hkL : j < l.length := by have := HLL.out; omega
          obtain ⟨z0, z1, z2⟩ := hc0 j hkL
          have hpw : wfI l[j].proc := op_wf HSL.out (by omega) j hkL
          generalize l[j] = q at *
          obtain ⟨kd, lk, p⟩ := q
          simp only at z0 z1 z2 hpw
          have e2 : (0 : Int) ≤ (j : Int) := by omega
          have e3 : (j : Int) < (n : Int) := by omega
          have e4 : (j : Int) < 3000 := by omega
          have HOX' := Lib.hid hox
          have HRI' := Lib.hid hri
          have HKL' := Lib.hid hkl
          have HPW := Lib.hid hpw
          clear hox hri hkl hpw
          clear hc0 hkL
          have hbx := Blk.made wr 34 #[.int .i64 kd, .int .i64 lk, .int .i64 p]
          have hal : New wr (wr.alloc (.cells #[.int .i64 kd, .int .i64 lk, .int .i64 p] 34)) := (Kept.refl _ _).alloc _
          have hox1 : OwnX (fun k => k = wr.heap.size) w b L (wr.alloc (.cells #[.int .i64 kd, .int .i64 lk, .int .i64 p] 34)) := HOX'.out.more hal fun k h => .inr ⟨by omega, by have := hbx.lt; omega⟩
          go_upto_region 8 with (fail)
          generalize wr.alloc (.cells #[.int .i64 kd, .int .i64 lk, .int .i64 p] 34) = wb at *
          generalize wr.heap.size = bx at *
          clear hal z0 z1 z2
          have hst := hox1.state (by rw [HKL'.out]; omega) (fun x hx => Nat.le_trans (HRI'.out.inv.sml x hx) (by omega))
          rw [HKL'.out] at hst
          have HST := Lib.hid hst
          have HBX := Lib.hid hbx
          have HOX1 := Lib.hid hox1
          clear hst hbx hox1
          go_wp2_with fail
          refine HST.out.mono ?_
          rintro e w2 ⟨ro1, Ao1, co1, rq1, Aq1, cq1, Y1, rfl, ht1, hy1, hk1⟩
          have hox2 : OwnX (fun k => k = bx ∨ (wb.heap.size ≤ k ∧ k < w2.heap.size)) w b L w2 := HOX1.out.more hk1 fun k h => h.imp id id
          have hbx2 := HBX.out.kept hk1 id
          have z0 := hbx2.cell 0
          have z1 := hbx2.cell 1
          have z2 := hbx2.cell 2
          simp only [List.getElem?_toArray, List.getElem?_cons_zero, List.getElem?_cons_succ] at z0 z1 z2
          have HBX2 := Lib.hid hbx2
          have HT1 := Lib.hid ht1
          have HY1 := Lib.hid hy1
          have HK1 := Lib.hid hk1
          clear hbx2 ht1 hy1 hk1
          have HKL := HKL'
          have HOX2 := Lib.hid hox2
          clear hox2
          go_upto_block 2 with (fail)
          go_cut [11] (fun _ wx => ∃ L2, OwnX (fun k => k = bx ∨ (wb.heap.size ≤ k ∧ k < w2.heap.size)) w b L2 wx ∧ Rise (j + 1) L2 ∧ Turned L L2 kd lk p ∧ Kept (fun k => ¬ (k = bx ∨ (wb.heap.size ≤ k ∧ k < w2.heap.size))) w2 wx)
          case first =>
            by_cases hkd : kd = 1
            · have hkd1 : (kd == 1) = true := by simpa using hkd
              have hh := HOX2.out.holds p (by rw [HKL.out]; omega)
              have hm8 : (heldL L p).length ≤ 8 := Nat.le_trans (heldTo_len _ _ _) HRI'.out.inv.len
              have HTK := Lib.hid (fun h => HRI'.out.take2 (n := lk) HPW.out h)
              have HTU0 : Hid (Turned L (takeL L lk p).1 kd lk p) := Lib.hid (by rw [hkd]; exact Turned.take L lk p)
              generalize heldL L p = ns at *
              obtain ⟨m, hm⟩ : ∃ m, m = ns.length := ⟨_, rfl⟩
              rw [← hm] at hh hm8 HTK
              have HH := Lib.hid hh
              have HM := Lib.hid hm
              clear hh hm
              clear hkd
              go_wp2_with fail
              refine HH.out.mono ?_
              rintro e w3 ⟨rh, Ah, ch, rfl, hrh, hfh, hk3⟩
              have hbh := hrh.bound
              have hox3 := HOX2.out.new hk3
              have hbx3 := HBX2.out.kept hk3 id
              have z0 := hbx3.cell 0
              have z1 := hbx3.cell 1
              have z2 := hbx3.cell 2
              simp only [List.getElem?_toArray, List.getElem?_cons_zero, List.getElem?_cons_succ] at z0 z1 z2
              have HTAKE := Lib.hid (fun q => (hox3.new (Kept.drewN (Kept.refl _ _) q)).left (fun F hA => take_any hA lk p (fun x hx => Nat.le_trans (HRI'.out.inv.sml x hx) (by omega))))
              have HOX3 := Lib.hid hox3
              have HK3 := Lib.hid hk3
              clear hox3 hbx3 hk3
              generalize (takeL L lk p).2.1 = tv1 at *
              generalize (takeL L lk p).2.2 = tv2 at *
              generalize (takeL L lk p).1 = L2 at *
              by_cases hm0 : m = 0
              · subst hm0
                have hri2 := HTK.out (.inl rfl)
                have HRI2 := Lib.hid hri2
                clear hri2 hrh hfh
                go_wp2_with fail
                go_big_quiet (fail)
                go_wp2_with fail
                refine (HTAKE.out _).mono ?_
                rintro e w4 ⟨rfl, hk4, hox4⟩
                have HK4 := Lib.hid (((HK3.out.trans (Kept.drewN (Kept.refl _ _) _)).mono fun _ _ h => h.elim).trans hk4)
                have HOX4 := Lib.hid hox4
                clear hox4
                clear hk4 z0 z1 z2
                go_wp2_with fail
                go_meet
                case rel => exact ⟨L2, HOX4.out, HRI2.out, HTU0.out, HK4.out⟩
              · obtain ⟨m', rfl⟩ : ∃ m', m = m' + 1 := ⟨m - 1, by omega⟩
                obtain ⟨gh, oh, -, rfl, zh, -⟩ := ints_at hrh m' (by omega)
                have HV := Lib.hid (fun (h : ns.getD m' 0 < lk) => HTK.out (.inr h))
                generalize ns.getD m' 0 = hv at *
                clear hrh hfh
                have hw1 : IntKind.i64.wrap (m' : Int) = (m' : Int) := IntWalk.i64_in _ (by omega)
                have hw2 : IntKind.i64.wrap ((m' : Int) + 1 - 1) = (m' : Int) := by rw [Int.add_sub_cancel]; exact hw1
                have q1 : (0 : Int) < (m' : Int) + 1 := by omega
                have q2 : (0 : Int) ≤ (m' : Int) := by omega
                have q3 : (m' : Int) < (m' : Int) + 1 := by omega
                by_cases hge : lk ≤ hv
                · go_wp2_with fail
                  go_big_quiet (fail)
                  go_wp2_with fail
                  go_roundw
                  case rel => exact ⟨j + 1, L, by omega, by omega, by go_num, (HOX3.out.new (Kept.drewN (Kept.refl _ _) _)).mono fun _ h => h.elim, HRI'.out.mono (by omega), HKL.out⟩
                  case measure => simp [intOf]; omega
                · have hri2 := HV.out (by omega)
                  have hlt' : hv < lk := by omega
                  have HRI2 := Lib.hid hri2
                  clear hri2
                  go_wp2_with fail
                  go_big_quiet (fail)
                  go_wp2_with fail
                  refine (HTAKE.out _).mono ?_
                  rintro e w4 ⟨rfl, hk4, hox4⟩
                  have HK4 := Lib.hid (((HK3.out.trans (Kept.drewN (Kept.refl _ _) _)).mono fun _ _ h => h.elim).trans hk4)
                  have HOX4 := Lib.hid hox4
                  clear hox4
                  clear hk4 z0 z1 z2 hw1 hw2 q1 q2 q3 hge hlt' zh
                  go_wp2_with fail
                  go_meet
                  case rel => exact ⟨L2, HOX4.out, HRI2.out, HTU0.out, HK4.out⟩
            · have hkd1 : (kd == 1) = false := by simpa using hkd
              by_cases hkd2 : kd = 2
              · have hkd2' : (kd == 2) = true := by simpa using hkd2
                have hgive := HOX2.out.left (fun F hA => give_any hA lk p)
                have HTU : Hid (Turned L (giveL L lk p).1 kd lk p) := Lib.hid (Turned.give L kd lk p)
                have HRI2 := Lib.hid ((HRI'.out.give lk p).mono (B' := j + 1) (by omega))
                generalize (giveL L lk p).2.1 = tv1 at *
                generalize (giveL L lk p).2.2 = tv2 at *
                generalize (giveL L lk p).1 = L2 at *
                have HGIVE := Lib.hid hgive
                clear hgive
                clear hkd hkd2
                go_wp2_with fail
                refine HGIVE.out.mono ?_
                rintro e w4 ⟨rfl, hk4, hox4⟩
                have HOX4 := Lib.hid hox4
                have HK4 := Lib.hid hk4
                clear hox4 hk4
                clear z0 z1 z2
                go_wp2_with fail
                go_meet
                case rel => exact ⟨L2, HOX4.out, HRI2.out, HTU.out, HK4.out⟩
              · have hkd2' : (kd == 2) = false := by simpa using hkd2
                have hend := HOX2.out.end_left p (by rw [HKL.out]; omega)
                have HTU : Hid (Turned L (endL L p).1 kd lk p) := Lib.hid (Turned.ends HRI'.out kd lk p)
                have HRI2 := Lib.hid ((HRI'.out.ends p).mono (B' := j + 1) (by omega))
                generalize (endL L p).1 = L2 at *
                have HEND := Lib.hid hend
                clear hend
                clear hkd hkd2
                go_wp2_with fail
                refine HEND.out.mono ?_
                rintro e w4 ⟨Ae, ne', ce, rfl, hk4, hox4⟩
                have HOX4 := Lib.hid hox4
                have HK4 := Lib.hid hk4
                clear hox4 hk4
                clear z0 z1 z2
                go_wp2_with fail
                go_meet
                case rel => exact ⟨L2, HOX4.out, HRI2.out, HTU.out, HK4.out⟩
          case rest =>
            obtain ⟨L2, hox4, hri2, htu, hk4⟩ := hcut
            have hbx4 := HBX2.out.kept hk4 (fun h => h (.inl rfl))
            have ht4 := Told.keptX HT1.out HT1.out hk4 (fun k h1 h2 => .inr ⟨h1, h2⟩)
            have HOX4 := Lib.hid hox4
            have HBX4 := Lib.hid hbx4
            have HT4 := Lib.hid ht4
            have HRI2 := Lib.hid hri2
            have HTU := Lib.hid htu
            clear hox4 hbx4 ht4 hri2 htu
            clear hk4 z0 z1 z2 HOX2 HBX2 HT1
            have hl2 : L2.length = kn := by rw [HTU.out.1]; exact HKL.out
            have hst2 := HOX4.out.state (by rw [hl2]; omega) (fun x hx => Nat.le_trans (HRI2.out.inv.sml x hx) (by omega))
            rw [hl2] at hst2
            have HL2 := Lib.hid hl2
            have HST2 := Lib.hid hst2
            clear hl2 hst2
            go_wp2_with fail
            refine HST2.out.mono ?_
            rintro e w5 ⟨ro2, Ao2, co2, rq2, Aq2, cq2, Y2, rfl, ht2, hy2, hk5⟩
            have hbx5 := HBX4.out.kept hk5 id
            have ht15 := HT4.out.new hk5
            have hox5 := HOX4.out.new hk5
            have HSTR := Lib.hid fun W (hW : New w5 W) => straight_any (ht2.new hW) hy2 HL2.out.symm HRI2.out (by omega)
            have hb21 := ht2.ow.bound
            have hb22 := ht2.qu.bound
            have hb11 := ht15.ow.bound
            have hb12 := ht15.qu.bound
            have HZ : Hid (∀ W, New w5 W → W.cell? ⟨bx, 0, none⟩ = some (.int .i64 kd) ∧ W.cell? ⟨bx, 1, none⟩ = some (.int .i64 lk) ∧ W.cell? ⟨bx, 2, none⟩ = some (.int .i64 p)) := Lib.hid fun W hW => ⟨(hbx5.kept hW id).cell 0, (hbx5.kept hW id).cell 1, (hbx5.kept hW id).cell 2⟩
            have HNOW : Hid (∀ i (hi : i < kn), ∃ g1 o1 g2 o2 g3 o3 g4 o4 Aq' cq' Ah' ch', ∃ (h1 : i < L.length) (h2 : i < L2.length), Ao2 = some ⟨g1, o1, none⟩ ∧ w5.cell? ⟨g1, o1 + i, none⟩ = some (.int .i64 L2[i].1) ∧ Ao1 = some ⟨g2, o2, none⟩ ∧ w5.cell? ⟨g2, o2 + i, none⟩ = some (.int .i64 L[i].1) ∧
                Aq2 = some ⟨g3, o3, none⟩ ∧ w5.cell? ⟨g3, o3 + i, none⟩ = some (.slice Aq' L2[i].2.length cq') ∧ Aq1 = some ⟨g4, o4, none⟩ ∧ w5.cell? ⟨g4, o4 + i, none⟩ = some (.slice Ah' L[i].2.length ch') ∧ L[i].2.length ≤ ch' ∧ ch' ≤ 9223372036854775807 ∧ L2[i].2.length ≤ cq' ∧ cq' ≤ 9223372036854775807 ∧
                (∀ y ys, L[i].2 = y :: ys → ∃ g5 o5, Ah' = some ⟨g5, o5, none⟩ ∧ w5.cell? ⟨g5, o5, none⟩ = some (.int .i64 y))) := Lib.hid fun i hi => by
              obtain ⟨g1, o1, _, e1, x1, _⟩ := ints_at ht2.ow i hi
              obtain ⟨g2, o2, _, e2, x2, _⟩ := ints_at ht15.ow i hi
              obtain ⟨h2L, h2Y, h2q⟩ := ht2.queue_at hy2 HL2.out.symm i hi
              obtain ⟨h1L, h1Y, h1q⟩ := ht15.queue_at HY1.out HKL.out.symm i hi
              obtain ⟨g3, o3, _, e3, x3, _⟩ := qu_at ht2.qu i hi h2Y
              obtain ⟨g4, o4, _, e4, x4, _⟩ := qu_at ht15.qu i hi h1Y
              have hr1 := ht15.el _ (List.getElem_mem h1Y)
              have hr2 := ht2.el _ (List.getElem_mem h2Y)
              rw [map_own_getD _ i h2L] at x1
              rw [map_own_getD _ i h1L] at x2
              rw [h2q] at x3 hr2
              rw [h1q] at x4 hr1
              refine ⟨g1, o1, g2, o2, g3, o3, g4, o4, _, _, _, _, h1L, h2L, e1, x1, e2, x2, e3, x3, e4, x4, hr1.bound.1, hr1.bound.2, hr2.bound.1, hr2.bound.2, ?_⟩
              intro y ys hq
              obtain ⟨g5, o5, _, e5, x5, _⟩ := ints_at hr1 0 (by rw [hq]; simp)
              refine ⟨g5, o5, e5, ?_⟩
              rw [hq] at x5
              simpa using x5
            have HOX5 := Lib.hid hox5
            have HT2 := Lib.hid ht2
            have HY2 := Lib.hid hy2
            have HK5 := Lib.hid hk5
            clear hox5 ht2 hy2 hk5
            clear ht15 hbx5
            go_wp2_with fail
            go_loopw [14] (fun s wr => ∃ i : Nat, i ≤ kn ∧ s = .int .i64 i ∧ New w5 wr) (fun s _ => (kn - intOf s).toNat)
            case atStart => exact ⟨0, Nat.zero_le _, rfl, Kept.refl _ _⟩
            case round =>
              obtain ⟨i, hi, rfl, hnw⟩ := hrel
              by_cases hli : i < kn
              · obtain ⟨g1, o1, g2, o2, g3, o3, g4, o4, Aq', cq', Ah', ch', hi1, hi2, rfl, x1, rfl, x2, rfl, x3, rfl, x4, bb1, bb2, bb3, bb4, hhd⟩ := HNOW.out i hli
                obtain ⟨z0, z1, z2⟩ := HZ.out wr hnw
                have x1 := (hnw.cell (p := ⟨g1, o1 + i, none⟩) (lt_of_cell x1).1 id).trans x1
                have x2 := (hnw.cell (p := ⟨g2, o2 + i, none⟩) (lt_of_cell x2).1 id).trans x2
                have x3 := (hnw.cell (p := ⟨g3, o3 + i, none⟩) (lt_of_cell x3).1 id).trans x3
                have x4 := (hnw.cell (p := ⟨g4, o4 + i, none⟩) (lt_of_cell x4).1 id).trans x4
                have hidle : L2[i].1 = -1 → L2[i].2.length = 0 := fun h => by rw [HRI2.out.idle _ (List.getElem_mem hi2) h]; rfl
                have htu := HTU.out.2 i hi1 hi2
                have hlen : ∀ y ys, L[i].2 = y :: ys → (0 : Int) < (L[i].2.length : Int) := fun y ys h => by rw [h, List.length_cons]; omega
                generalize L2[i].1 = x at *
                generalize L[i].1 = y at *
                generalize L2[i].2.length = mq at *
                generalize L[i].2 = ah at *
                obtain ⟨ma, hma⟩ : ∃ ma, ma = ah.length := ⟨_, rfl⟩
                rw [← hma] at x4 hlen bb1
                have f2 : (0 : Int) ≤ (i : Int) := by omega
                have f3 : (i : Int) < (kn : Int) := by omega
                have HTUI := Lib.hid htu
                have HHD := Lib.hid hhd
                have HLEN := Lib.hid hlen
                have HNW := Lib.hid hnw
                clear hma htu hhd hlen hnw
                by_cases hx1 : x = -1
                · have hq0 := hidle hx1
                  subst hx1; subst hq0
                  clear hidle
                  by_cases hxy : y = -1
                  · subst hxy
                    as_aux_lemma =>
                      go_wp2_with fail
                      go_big_quiet (fail)
                      go_wp2_with fail
                      go_roundw
                      case rel => exact ⟨i + 1, by omega, by go_num, Kept.drewN HNW.out _⟩
                      case measure => simp [intOf]; omega
                  · have hb1 : ((-1 : Int) != y) = true := by simpa using fun h => hxy h.symm
                    clear hxy
                    as_aux_lemma =>
                      go_wp2_with fail
                      go_big_quiet (fail)
                      go_wp2_with fail
                      go_roundw
                      case rel => exact ⟨i + 1, by omega, by go_num, Kept.drewN HNW.out _⟩
                      case measure => simp [intOf]; omega
                · have hb0 : (x == -1) = false := by simpa using hx1
                  have hb00 : (x != -1) = true := by simpa using hx1
                  clear hidle
                  by_cases hxy : x = y
                  · subst hxy
                    clear hx1
                    as_aux_lemma =>
                      go_wp2_with fail
                      go_big_quiet (fail)
                      go_wp2_with fail
                      go_roundw
                      case rel => exact ⟨i + 1, by omega, by go_num, Kept.drewN HNW.out _⟩
                      case measure => simp [intOf]; omega
                  · have hb1 : (x != y) = true := by simpa using hxy
                    by_cases hth : y = -1 ∧ kd = 1 ∧ lk = i ∧ x = p
                    · obtain ⟨h1, h2, h3, h4⟩ := hth
                      subst h1; subst h2; subst h3; subst h4
                      clear hx1 hxy
                      as_aux_lemma =>
                        go_wp2_with fail
                        go_big_quiet (fail)
                        go_wp2_with fail
                        go_roundw
                        case rel => exact ⟨i + 1, by omega, by go_num, Kept.drewN HNW.out _⟩
                        case measure => simp [intOf]; omega
                    · obtain ⟨ys, hys⟩ : ∃ ys, ah = x :: ys := by
                        rcases HTUI.out with h | h | h | h
                        · exact absurd h hxy
                        · exact absurd h hx1
                        · exact absurd h hth
                        · exact h
                      obtain ⟨g5, o5, rfl, x5⟩ := HHD.out x ys hys
                      have x5 := (HNW.out.cell (p := ⟨g5, o5, none⟩) (lt_of_cell x5).1 id).trans x5
                      have f4 := HLEN.out x ys hys
                      have f5 : 0 < ma := by omega
                      have f6 : decide (0 < ma) = true := decide_eq_true f5
                      have hxx : (x == x) = true := by simp
                      have HTH := Lib.hid hth
                      clear hys hx1 hxy hth
                      by_cases hc1 : y = -1
                      · subst hc1
                        by_cases hc2 : kd = 1
                        · subst hc2
                          by_cases hc3 : lk = (i : Int)
                          · subst hc3
                            by_cases hc4 : x = p
                            · exact absurd ⟨rfl, rfl, rfl, hc4⟩ HTH.out
                            · have hd4 : (x == p) = false := by simpa using hc4
                              clear hc4
                              as_aux_lemma =>
                                go_wp2_with fail
                                go_big_quiet (fail)
                                go_wp2_with fail
                                go_roundw
                                case rel => exact ⟨i + 1, by omega, by go_num, Kept.drewN HNW.out _⟩
                                case measure => simp [intOf]; omega
                          · have hd3 : (lk == (i : Int)) = false := by simpa using hc3
                            clear hc3
                            as_aux_lemma =>
                              go_wp2_with fail
                              go_big_quiet (fail)
                              go_wp2_with fail
                              go_roundw
                              case rel => exact ⟨i + 1, by omega, by go_num, Kept.drewN HNW.out _⟩
                              case measure => simp [intOf]; omega
                        · have hd2 : (kd == 1) = false := by simpa using hc2
                          clear hc2
                          as_aux_lemma =>
                            go_wp2_with fail
                            go_big_quiet (fail)
                            go_wp2_with fail
                            go_roundw
                            case rel => exact ⟨i + 1, by omega, by go_num, Kept.drewN HNW.out _⟩
                            case measure => simp [intOf]; omega
                      · have hd1 : (y == -1) = false := by simpa using hc1
                        clear hc1
                        as_aux_lemma =>
                          go_wp2_with fail
                          go_big_quiet (fail)
                          go_wp2_with fail
                          go_roundw
                          case rel => exact ⟨i + 1, by omega, by go_num, Kept.drewN HNW.out _⟩
                          case measure => simp [intOf]; omega
              · obtain rfl : i = kn := by omega
                have hstr := HSTR.out wr hnw
                have HNW := Lib.hid hnw
                have HSTRR := Lib.hid hstr
                clear hstr
                clear hnw
                go_wp2_with fail
                refine HSTRR.out.mono ?_
                rintro e w6 ⟨rfl, hk6⟩
                have hox6 := (HOX5.out.new (HNW.out.trans hk6)).mono (X' := fun _ => False) fun _ h => h.elim
                have HOX6 := Lib.hid hox6
                clear hox6
                clear hk6
                go_wp2_with fail
                go_roundw
                case rel => exact ⟨j + 1, L2, by omega, by omega, by go_num, HOX6.out, HRI2.out, HL2.out⟩
                case measure => simp [intOf]; omega
        · have e5 : ¬ (j : Int) < 3000 := by omega
          have hfix := fixed_any wr
          have hfr := hox.fresh
          have e3 : (j : Int) < (n : Int) := by omega
          have HFIX := Lib.hid hfix
          have HFR := Lib.hid hfr
          clear hfix hfr
          clear hox hri hkl
          go_wp2_with fail
          refine HFIX.out.mono ?_
          rintro e w4 ⟨rfl, hn4⟩
          have hend := HFR.out.trans hn4
          have HEND := Lib.hid hend
          clear hend
          clear hn4
          go_wp2_with fail
          go_ret
          exact ⟨rfl, HEND.out⟩
      · have hfix := fixed_any wr
        have hfr := hox.fresh
        have e5 : ¬ (j : Int) < (n : Int) := by omega
        have HFIX := Lib.hid hfix
        have HFR := Lib.hid hfr
        clear hfix hfr
        clear hox hri hkl
        go_wp2_with fail
        refine HFIX.out.mono ?_
        rintro e w4 ⟨rfl, hn4⟩
        have hend := HFR.out.trans hn4
        have HEND := Lib.hid hend
        clear hend
        clear hn4
        go_wp2_with fail
        go_ret
        exact ⟨rfl, HEND.out⟩
  · have hfix := fixed_any w1
    have HFIX := Lib.hid hfix
    have HN1 := Lib.hid hn1
    clear hfix hn1
    by_cases hk0 : k < 0
    · clear kn
      go_wp2_with fail
      refine HFIX.out.mono ?_
      rintro e w4 ⟨rfl, hn4⟩
      have hend := HN1.out.trans hn4
      have HEND := Lib.hid hend
      clear hend
      clear hn4
      go_wp2_with fail
      go_ret
      exact ⟨rfl, HEND.out⟩
    · have hk1 : 0 ≤ k := by omega
      have hk8 : 8 < k := by omega
      clear kn hk0
      go_wp2_with fail
      refine HFIX.out.mono ?_
      rintro e w4 ⟨rfl, hn4⟩
      have hend := HN1.out.trans hn4
      have HEND := Lib.hid hend
      clear hend
      clear hn4
      go_wp2_with fail
      go_ret
      exact ⟨rfl, HEND.out⟩
end Go.Proofs.Ytjjlemkmdldljaa.Locks
