/- The walk of LocksLay (layer 12). -/
import Derived.Test.YtjjlemkmdldljaaLocksLe
import Derived.Test.YtjjlemkmdldljaaLocksLc
import Derived.Test.YtjjlemkmdldljaaLocksLd
import Derived.Test.YtjjlemkmdldljaaLocksV
namespace Go.Proofs.Ytjjlemkmdldljaa.Locks
open Go.RowKit Go.Fb
set_option linter.unusedVariables false
theorem ints_wf {w : World} {B : Nat} {A : Option Addr} {n c : Nat} {l : List Int} (h : SliceOf (Rep.int .i64) w B A n c l) : ∀ x ∈ l, (Lit.int .i64 x).wf = true := h.wf
/-- The lists that were not yet written over. -/
def Rest (w : World) (rq : Option Nat) (Aq : Option Addr) (n cq i : Nat) (Y : List Lk) : Prop :=
  (∃ xs, Row w 1 rq Aq n cq xs ∧ ∀ j, i ≤ j → xs[j]? = (Y.map slC)[j]?) ∧ ∀ j (hj : j < Y.length), i ≤ j → RoomAt w Y[j].r Y[j].A Y[j].q.length Y[j].c Y[j].q
section
variable {w w' : World} {rq : Option Nat} {Aq : Option Addr} {n cq i : Nat} {Y : List Lk}
theorem Rest.new (h : Rest w rq Aq n cq i Y) (hk : New w w') : Rest w' rq Aq n cq i Y := by
  obtain ⟨⟨xs, h1, h2⟩, h3⟩ := h
  exact ⟨⟨xs, h1.new (by decide) hk, h2⟩, fun j hj hi => (h3 j hj hi).kept hk fun _ _ h => h⟩
theorem Rest.cell (h : Rest w rq Aq n cq i Y) (hn : n = Y.length) (hi : i < n) : ∃ g o, rq = some g ∧ Aq = some ⟨g, o, none⟩ ∧ w.cell? ⟨g, o + i, none⟩ = some (slC (Y[i]'(by omega))) ∧ w.frozen? ⟨g, o + i, none⟩ = false := by
  obtain ⟨⟨xs, h1, h2⟩, h3⟩ := h
  have hle := h1.le
  obtain ⟨g, o, e1, e2, h5, h6⟩ := h1.at_pos (by omega)
  refine ⟨g, o, e1, e2, ?_, (h6 i (by omega)).2⟩
  rw [h5 i (by omega), h2 i (Nat.le_refl _), List.getElem?_map, List.getElem?_eq_getElem (by omega)]
  rfl
theorem Rest.next (h : Rest w rq Aq n cq i Y) (hn : n = Y.length) (hi : i < n) (hk : Kept (fun k => (Y[i]'(by omega)).r = some k) w w') (d2 : ∀ y ∈ Y, ∀ k, y.r = some k → rq ≠ some k) (d3 : ∀ i j (hi : i < Y.length) (hj : j < Y.length), i ≠ j → ∀ k, Y[i].r = some k → Y[j].r ≠ some k)
    {g o : Nat} (hg : rq = some g) (hA : Aq = some ⟨g, o, none⟩) (v : Value) : Rest (w'.setCell ⟨g, o + i, none⟩ v) rq Aq n cq (i + 1) Y := by
  obtain ⟨⟨xs, h1, h2⟩, h3⟩ := h
  refine ⟨⟨xs.set i v, ?_, fun j hj => ?_⟩, fun j hj hij => ?_⟩
  · exact (h1.of_kept (by decide) hk fun k e e' => d2 _ (List.getElem_mem _) k e' e).set hA (j := i) (by omega) v
  · rw [List.getElem?_set_ne (by omega)]; exact h2 j (by omega)
  · exact ((h3 j hj (by omega)).kept hk fun k e e' => d3 i j (by omega) hj (by omega) k e' e).kept (Kept.set1 w' g (o + i) v) fun k e e' => d2 _ (List.getElem_mem hj) k e (by rw [e', hg])
end
set_option maxHeartbeats 16000000 in
set_option maxRecDepth 100000 in
theorem lay_walk (A0 : Option Addr) (n0 c0 : Nat) (os : List Int) (A1 : Option Addr) (n1 c1 : Nat) (qs : List (List Int)) (A2 : Option Addr) (n2 c2 : Nat) (l : List Op) (w : World)
    (h0 : SliceOf (Rep.int .i64) w w.heap.size A0 n0 c0 os) (h1 : SliceOf (Rep.int .i64).slice w w.heap.size A1 n1 c1 qs) (h2 : SliceOf repOp w w.heap.size A2 n2 c2 l) (hq : ∀ q ∈ qs, q.length + n2 ≤ 1048576) (hn2 : n2 ≤ 1048576) :
    Calls Try.prog 6 #[.slice A0 n0 c0, .slice A1 n1 c1, .slice A2 n2 c2] w fun e w' => e = .returned (.bool true) ∧ New w w' := by
  have hqs : ∀ q ∈ qs, q.length ≤ 1048576 := fun q h => by have := hq q h; omega
  have hl0 := h0.len
  have hl1 := h1.len
  have hb0 := h0.bound
  have hb1 := h1.bound
  have hb2 := h2.bound
  by_cases hbig : 20 < n0 ∨ 20 < n1
  · have hlay := lay_any h0 h1 (Nat.le_refl _) hqs
    have E := Lib.hid (layErr_big (os := os) (qs := qs) (by omega))
    have HFX := fun (W : World) => fixed_any W
    have HLAY := Lib.hid hlay
    have H0 := Lib.hid h0
    have H1 := Lib.hid h1
    have H2 := Lib.hid h2
    have HQQ := Lib.hid hq
    have HQS := Lib.hid hqs
    have HL0 := Lib.hid hl0
    have HL1 := Lib.hid hl1
    clear hlay h0 h1 h2 hq hqs hl0 hl1
    have hcond : ((20 : Int) < (n0 : Int)) ∨ ((n0 : Int) ≤ 20 ∧ (20 : Int) < (n1 : Int)) := by omega
    rcases hcond with g | ⟨g, g'⟩
    all_goals
      clear hbig
      go_enter Try.func6, Try.ntmps6
      go_wp2_with fail
      refine HLAY.out.mono ?_
      rintro e w1 ⟨hn1, hw1⟩
      obtain rfl : e = .returned (.tuple #[.pointer none, .int .i64 3]) := by
        rcases hw1 with ⟨h, -⟩ | ⟨-, h⟩
        · rw [E.out] at h; cases h
        · rw [h, E.out]
      have hfix := HFX w1
      have HFIX := Lib.hid hfix
      have HN1 := Lib.hid hn1
      clear hfix hn1
      clear hw1 HFX
      go_wp2_with fail
      refine HFIX.out.mono ?_
      rintro e w2 ⟨rfl, hn2'⟩
      have hend := HN1.out.trans hn2'
      have HEND := Lib.hid hend
      clear hend
      clear hn2'
      go_wp2_with fail
      go_ret
      exact ⟨rfl, HEND.out⟩
  · have s0 : n0 ≤ 20 := by omega
    have s1 : n1 ≤ 20 := by omega
    obtain ⟨M, hM⟩ : ∃ M : Nat, M = 1048576 := ⟨_, rfl⟩
    have HQ : Hid (∀ i, i < n1 → ∃ g o A' c', A1 = some ⟨g, o, none⟩ ∧ (∀ W, New w W → W.cell? ⟨g, o + i, none⟩ = some (.slice A' (qAt qs i).length c')) ∧ ∀ W, New w W → SliceOf (Rep.int .i64) W w.heap.size A' (qAt qs i).length c' (qAt qs i)) := Lib.hid fun i hi => sl_at h1 (Nat.le_refl _) i hi
    have HSM : Hid (∀ i, i < n1 → (qAt qs i).length ≤ 1048576) := Lib.hid fun i hi => by unfold qAt; rw [getD_nat _ _ _ (by omega)]; exact hqs _ (List.getElem_mem _)
    have HSP : Hid (∀ i, i < n1 → (qAt qs i).length ≤ 1048576 - n2) := Lib.hid fun i hi => by unfold qAt; rw [getD_nat _ _ _ (by omega)]; have := hq _ (List.getElem_mem (l := qs) (n := i) (by omega)); omega
    have HTK : Hid (∀ i, i < n1 → qs.take (i + 1) = qs.take i ++ [qAt qs i]) := Lib.hid fun i hi => by unfold qAt; rw [getD_nat _ _ _ (by omega)]; exact List.take_succ_eq_append_getElem (by omega)
    have hroom := room_any h0 (Nat.le_refl _) (by omega)
    have HFX := Lib.hid fun (W : World) => fixed_any W
    have H0 := Lib.hid h0
    have H1 := Lib.hid h1
    have H2 := Lib.hid h2
    have HQQ := Lib.hid hq
    have HQS := Lib.hid hqs
    have HL0 := Lib.hid hl0
    have HL1 := Lib.hid hl1
    have HM := Lib.hid hM
    have HROOM := Lib.hid hroom
    clear h0 h1 h2 hq hqs hl0 hl1 hM hroom
    clear hbig
    go_enter Try.func6, Try.ntmps6
    go_wp2_with fail
    go_loopw [9, 10] (fun a s wr => ∃ (i N : Nat), i ≤ n1 ∧ s = .int .i64 i ∧ a = .int .i64 N ∧ N ≤ i * M ∧ w = wr) (fun _ s _ => (n1 - intOf s).toNat)
    case atStart => exact ⟨0, 0, Nat.zero_le _, rfl, rfl, Nat.zero_le _, rfl⟩
    case round =>
      obtain ⟨i, N, hi, rfl, rfl, hN, rfl⟩ := hrel
      by_cases hlt : i < n1
      · obtain ⟨gq, oq, A', c', rfl, hy, hsl⟩ := HQ.out i hlt
        have y0 := hy w (Kept.refl _ _)
        have hm := HSM.out i hlt
        have hN2 : N ≤ 20971520 := by have := HM.out; have : i * M ≤ 20 * M := Nat.mul_le_mul_right _ (by omega); omega
        have hN3 : N + (qAt qs i).length ≤ (i + 1) * M := by have := HM.out; rw [Nat.add_mul]; omega
        generalize (qAt qs i).length = m at *
        have f2 : (0 : Int) ≤ (i : Int) := by omega
        have f3 : (i : Int) < (n1 : Int) := by omega
        have f4 : IntKind.i64.wrap ((N : Int) + (m : Int)) = ((N + m : Nat) : Int) := by rw [IntWalk.i64_in _ (by omega)]; omega
        have HN := Lib.hid hN
        have HN3 := Lib.hid hN3
        clear hN hN3
        clear hy hsl
        go_wp2_with fail
        go_roundw
        case rel => exact ⟨i + 1, N + m, by omega, by go_num, rfl, HN3.out, trivial⟩
        case measure => simp [intOf]; omega
      · obtain rfl : n1 = i := by omega
        by_cases hbg : 1048576 < N
        · have g : (1048576 : Int) < (N : Int) := by omega
          have hfix := HFX.out w
          have HFIX := Lib.hid hfix
          have HN := Lib.hid hN
          clear hfix hN
          clear hbg
          go_wp2_with fail
          refine HFIX.out.mono ?_
          rintro e w2 ⟨rfl, hn2'⟩
          have HN2' := Lib.hid hn2'
          clear hn2'
          go_wp2_with fail
          go_ret
          exact ⟨rfl, HN2'.out⟩
        · have g : (N : Int) ≤ 1048576 := by omega
          have HN := Lib.hid hN
          clear hN
          clear hbg
          go_wp2_with fail
          refine HROOM.out.mono ?_
          rintro e w1 ⟨ro, Ao, co, rfl, hro, hfo, hn1⟩
          have hk2 : New w1 (w1.alloc (.cells #[] 35)) := (Kept.refl _ _).alloc _
          have hn2' := hn1.trans hk2
          have hbo := hro.row.bound
          have hrm : Rooms w.heap.size (w1.alloc (.cells #[] 35)) ro Ao n0 co os none (some ⟨w1.heap.size, 0, none⟩) 0 0 [] :=
            ⟨hro.kept hk2 fun _ _ h => h, row_nil _ _ _, by simp, hfo, by simp, by simp, by simp, by simp, fun i j hi => absurd hi (by simp)⟩
          have HN2' := Lib.hid hn2'
          have HRM := Lib.hid hrm
          clear hn2' hrm
          clear hro hfo hk2 hn1
          go_upto_region 13 with (fail)
          generalize w1.alloc (.cells #[] 35) = w2 at *
          generalize w1.heap.size = b1 at *
          go_wp2_with fail
          go_loopw [12, 13] (fun a s wr => ∃ (i : Nat) (rq : Option Nat) (Aq : Option Addr) (cq : Nat) (Y : List Lk), i ≤ n1 ∧ s = .int .i64 i ∧ a = .slice Aq i cq ∧ New w wr ∧ Rooms w.heap.size wr ro Ao n0 co os rq Aq i cq Y ∧ Y.map (·.q) = qs.take i) (fun _ s _ => (n1 - intOf s).toNat)
          case atStart => exact ⟨0, none, _, 0, [], Nat.zero_le _, rfl, rfl, HN2'.out, HRM.out, rfl⟩
          case round =>
            obtain ⟨i, rq, Aq, cq, Y, hi, rfl, rfl, hnr, hrm, hY⟩ := hrel
            have hbq := hrm.qu.bound
            by_cases hlt : i < n1
            · obtain ⟨gq, oq, A', c', rfl, hy, hsl⟩ := HQ.out i hlt
              have y0 := hy wr hnr
              have hroom2 := room_any (hsl wr hnr) hnr.size (HSM.out i hlt)
              have hmb := (hsl wr hnr).bound
              have htk := HTK.out i hlt
              obtain ⟨m, hm⟩ : ∃ m, m = (qAt qs i).length := ⟨_, rfl⟩
              rw [← hm] at y0 hroom2 hmb
              have f2 : (0 : Int) ≤ (i : Int) := by omega
              have f3 : (i : Int) < (n1 : Int) := by omega
              have HNR := Lib.hid hnr
              have HRM2 := Lib.hid hrm
              have HY := Lib.hid hY
              have HROOM2 := Lib.hid hroom2
              have HTK2 := Lib.hid htk
              have HM2 := Lib.hid hm
              clear hnr hrm hY hroom2 htk hm
              clear hy hsl
              go_wp2_with fail
              refine HROOM2.out.mono ?_
              rintro e w3 ⟨r3, A3, c3, rfl, hr3, hf3, hn3⟩
              have hrm3 := HRM2.out.new hn3
              have hnr3 := HNR.out.trans hn3
              have HRM3 := Lib.hid hrm3
              have HNR3 := Lib.hid hnr3
              have HR3 := Lib.hid hr3
              have HF3 := Lib.hid hf3
              have HN3 := Lib.hid hn3
              clear hrm3 hnr3 hr3 hf3 hn3
              go_wp2_with (at_builtin; refine wpList_append_one (cs := [.slice A3 m c3]) tyQueues rfl (.tmp 69) (.tmp 75) rfl rfl HRM3.out.qu rfl rfl rfl (by simp [Value.oneCell']) (by unfold maxLen; omega) (by omega) ?_; intro r4 A4 c4 w4 hr4 hk4 hn4; have HR4 := Lib.hid hr4; have HK4 := Lib.hid hk4; have HN4 := Lib.hid hn4; clear hr4 hk4 hn4)
              go_roundw
              case rel =>
                refine ⟨i + 1, r4, A4, c4, Y ++ [⟨0, r3, A3, c3, qAt qs i⟩], by omega, by go_num, rfl, HNR3.out.step HK4.out fun k hk e => absurd (HRM3.out.fq k e) (Nat.not_le.2 hk), ?_, by rw [List.map_append, HY.out, HTK2.out]; rfl⟩
                refine HRM2.out.push HNR.out.size HN3.out (y := ⟨0, r3, A3, c3, qAt qs i⟩) (by rw [← HM2.out]; exact HR3.out) HF3.out ?_ HK4.out HN4.out
                rw [show slC ⟨0, r3, A3, c3, qAt qs i⟩ = .slice A3 m c3 by simp [slC, HM2.out]]
                exact HR4.out
              case measure => simp [intOf]; omega
            · obtain rfl : n1 = i := by omega
              have hYq : Y.map (·.q) = qs := by rw [hY]; exact List.take_of_length_le (by have := HL1.out; omega)
              have hYl : n1 = Y.length := by have := congrArg List.length hYq; rw [List.length_map] at this; have := HL1.out; omega
              have hwfq : ∀ y ∈ Y, ∀ x ∈ y.q, (Lit.int .i64 x).wf = true := fun y hy x hx => by
                obtain ⟨j, hj, rfl⟩ := List.getElem_of_mem hy
                have hjn : j < n1 := by omega
                obtain ⟨g, o, A', c', -, -, hsl⟩ := HQ.out j hjn
                have e : Y[j].q = qAt qs j := by
                  unfold qAt
                  rw [getD_nat _ _ _ (by have := HL1.out; omega)]
                  have : (Y.map (·.q))[j]'(by rw [List.length_map]; exact hj) = Y[j].q := by simp
                  rw [← this]
                  simp only [hYq]
                rw [e] at hx
                exact ints_wf (hsl w (Kept.refl _ _)) x hx
              have hso := hrm.ow.sl (ints_wf H0.out)
              have hsq := hrm.sl hYl hwfq
              rw [hYq] at hsq
              have hlay := lay_any hso hsq (Nat.le_refl _) HQS.out
              have HRL := Lib.hid fun W (hW : New w W) => rlay_any (H0.out.kept hW (Nat.le_refl _) fun _ _ h => h) (H1.out.kept hW (Nat.le_refl _) fun _ _ h => h) hW.size HQS.out
              have hXlt : ∀ k, (ro = some k ∨ rq = some k ∨ ∃ y ∈ Y, y.r = some k) → w.heap.size ≤ k ∧ k < wr.heap.size := by
                intro k h
                rcases h with h | h | ⟨y, hy, h⟩
                · exact ⟨hrm.fo k h, hrm.ow.lt k h⟩
                · exact ⟨hrm.fq k h, hrm.qu.lt (by decide) k h⟩
                · exact ⟨hrm.fe y hy k h, (hrm.el y hy).lt k h⟩
              obtain ⟨X, hX⟩ : ∃ X : Nat → Prop, X = fun k => ro = some k ∨ rq = some k ∨ ∃ y ∈ Y, y.r = some k := ⟨_, rfl⟩
              have HXI : Hid (∀ k, (ro = some k ∨ rq = some k ∨ ∃ y ∈ Y, y.r = some k) → X k) := Lib.hid (by rw [hX]; exact fun k h => h)
              have HXB : Hid (∀ k, X k → w.heap.size ≤ k ∧ k < wr.heap.size) := Lib.hid (by rw [hX]; exact hXlt)
              have HD0 : Hid (∀ y ∈ Y, ∀ k, y.r = some k → ro ≠ some k) := Lib.hid fun y hy k e => (hrm.d2 y hy k e).1
              have HD1 := Lib.hid hrm.d1
              have HD2 : Hid (∀ y ∈ Y, ∀ k, y.r = some k → rq ≠ some k) := Lib.hid fun y hy k e => (hrm.d2 y hy k e).2
              have HD3 := Lib.hid hrm.d3
              have HYE : Hid (∀ a (ha : a < Y.length), Y[a].q = qAt qs a) := Lib.hid fun a ha => by
                unfold qAt
                rw [getD_nat _ _ _ (by have := HL1.out; omega)]
                have : (Y.map (·.q))[a]'(by rw [List.length_map]; exact ha) = Y[a].q := by simp
                rw [← this]
                simp only [hYq]
              have HNR := Lib.hid hnr
              have HRM3 := Lib.hid hrm
              have HY := Lib.hid hY
              have HLAY := Lib.hid hlay
              have HYQ := Lib.hid hYq
              have HYL := Lib.hid hYl
              have HLT := Lib.hid hlt
              clear hnr hrm hY hlay hYq hYl hlt
              clear hwfq hso hsq hX hXlt
              go_wp2_with fail
              refine HLAY.out.mono ?_
              rintro e w4 ⟨hn4, hw4⟩
              have hrl4 := HRL.out w4 (HNR.out.trans hn4)
              have HN4 := Lib.hid hn4
              have HRL4 := Lib.hid hrl4
              clear hn4 hrl4
              rcases hw4 with ⟨hz, rfl, hok, ho8, hoq, F, hA, hF⟩ | ⟨hz, rfl⟩
              · have hsp : ∀ a, a < os.length → (qAt qs a).length ≤ 1048576 - n2 := fun a h => HSP.out a (by have := HL1.out; omega)
                have hinv := hok.inv ho8 hsp
                have HZ := Lib.hid hz
                have HINV := Lib.hid hinv
                have HA := Lib.hid hA
                have HF := Lib.hid hF
                clear hz hinv hA hF
                clear hok ho8 hoq hsp
                go_wp2_with fail
                refine HRL4.out.mono ?_
                rintro e w5 ⟨hn5, hw5⟩
                rcases hw5 with ⟨-, rfl, -, -, -, G, hR, hG⟩ | ⟨hz', rfl⟩
                · have hp : PairX X w wr.heap.size w4.heap.size (layTo os qs os.length) (layTo os qs os.length) w5 := by
                    have s1 := HN4.out.size
                    have s2 := HNR.out.size
                    have s3 := hn5.size
                    refine ⟨F, G, HA.out.new hn5, hR, fun k h1 h2 => ?_, fun k h => Nat.le_trans s2 (HF.out k h), fun k h => Nat.le_trans s2 (Nat.le_trans s1 (hG k h)), HNR.out.trans (HN4.out.trans hn5), fun k h => ⟨(HXB.out k h).1, ?_, ?_, ?_⟩⟩
                    · have := HA.out.lt k h1; have := hG k h2; omega
                    · have := (HXB.out k h).2; omega
                    · intro h'; have := HF.out k h'; have := (HXB.out k h).2; omega
                    · intro h'; have := hG k h'; have := (HXB.out k h).2; omega
                  obtain ⟨St, hSt⟩ : ∃ St : World → Prop, St = fun W => PairX X w wr.heap.size w4.heap.size (layTo os qs os.length) (layTo os qs os.length) W := ⟨_, rfl⟩
                  have hs5 : St w5 := by rw [hSt]; exact hp
                  have HSTK : Hid (∀ W W', St W → Kept X W W' → St W') := Lib.hid (by rw [hSt]; exact fun W W' h hk => h.kept hk)
                  have HSTF : Hid (∀ W, St W → New w W) := Lib.hid (by rw [hSt]; exact fun W h => h.fresh)
                  have HFIN : Hid (∀ W, St W → Calls _ _ _ W fun e w' => e = .returned (.bool true) ∧ New w w') := Lib.hid (by rw [hSt]; exact fun W h => played_any (h.mono (X' := fun _ => False) fun _ h => h.elim) HINV.out H2.out (by omega))
                  generalize wr.heap.size = bl at *
                  generalize w4.heap.size = dl at *
                  clear hSt hp hR hG
                  have hs5' := hs5
                  have hn45 := HNR.out.trans (HN4.out.trans hn5)
                  have hrm5 := HRM3.out.new (HN4.out.trans hn5)
                  have hkp := kept_any (r := none) hrm5.ow (H0.out.kept hn45 (Nat.le_refl _) fun _ _ h => h)
                  have HS5 := Lib.hid hs5
                  have HRM5 := Lib.hid hrm5
                  have HKP := Lib.hid hkp
                  clear hs5 hrm5 hkp
                  clear hs5' hn45 hn5
                  go_wp2_with fail
                  refine HKP.out.mono ?_
                  rintro e w6 ⟨rfl, q, rfl⟩
                  have hs6 := HSTK.out _ _ HS5.out (Kept.drewN (Kept.refl _ _) q)
                  have hrm6 := HRM5.out.new (Kept.drewN (Kept.refl _ _) q)
                  generalize w5.drewN q = w6 at *
                  have HS6 := Lib.hid hs6
                  have HRM6 := Lib.hid hrm6
                  clear hs6 hrm6
                  go_wp2_with fail
                  go_loopw [18] (fun s wk => ∃ a : Nat, a ≤ n1 ∧ s = .int .i64 a ∧ St wk ∧ Rest wk rq Aq n1 cq a Y ∧ RowX wk 1 ro Ao n0 co) (fun s _ => (n1 - intOf s).toNat)
                  case atStart => exact ⟨0, Nat.zero_le _, rfl, HS6.out, ⟨⟨_, HRM6.out.qu, fun j _ => rfl⟩, fun j hj _ => HRM6.out.el _ (List.getElem_mem hj)⟩, ⟨_, HRM6.out.ow.row⟩⟩
                  case round =>
                    obtain ⟨a, ha, rfl, hst, hrs, hro⟩ := hrel
                    by_cases hlt : a < n1
                    · have haY : a < Y.length := by have := HYL.out; omega
                      obtain ⟨gq, oq, A', c', rfl, hy, hsl⟩ := HQ.out a hlt
                      have hfr := HSTF.out _ hst
                      have y0 := hy wr hfr
                      obtain ⟨g, o, hg, rfl, x0, xf⟩ := hrs.cell HYL.out hlt
                      have hra := hrs.2 a haY (Nat.le_refl _)
                      have hqe := HYE.out a haY
                      have hsa := hsl wr hfr
                      have HNEXT := Lib.hid (fun W' (hk : Kept (fun k => (Y[a]'haY).r = some k) wr W') => hrs.next HYL.out hlt hk HD2.out HD3.out hg rfl (.slice none 0 0))
                      have HXY : Hid (∀ k, (Y[a]'haY).r = some k → X k) := Lib.hid fun k e => HXI.out k (.inr (.inr ⟨_, List.getElem_mem haY, e⟩))
                      have HXG : Hid (X g) := Lib.hid (HXI.out g (.inr (.inl hg)))
                      have HGY : Hid (∀ k, (Y[a]'haY).r = some k → g ≠ k) := Lib.hid fun k e e' => HD2.out _ (List.getElem_mem haY) k e (by rw [hg, e'])
                      have HOY : Hid (∀ k, ro = some k → (Y[a]'haY).r ≠ some k) := Lib.hid fun k e e' => HD0.out _ (List.getElem_mem haY) k e' e
                      have HOG : Hid (∀ k, ro = some k → k ≠ g) := Lib.hid fun k e e' => HD1.out k e (by rw [hg, e'])
                      unfold slC at x0
                      rw [hqe] at x0 hra
                      generalize (Y[a]'haY).r = ry at *
                      generalize (Y[a]'haY).A = Ay at *
                      generalize (Y[a]'haY).c = cy at *
                      have hkp := fun q' => kept_any (r := none) (hra.kept (Kept.drewN (Kept.refl (fun _ => False) _) q') (fun _ _ h => h)) (hsa.kept (Kept.drewN (Kept.refl (fun _ => False) _) q') hfr.size fun _ _ h => h)
                      have hbb := hra.row.bound
                      have hmb := hsa.bound
                      have hrx := hra.row.x
                      generalize qAt qs a = qa at *
                      obtain ⟨m, hm⟩ : ∃ m, m = qa.length := ⟨_, rfl⟩
                      rw [← hm] at x0 hkp y0 hbb hrx hmb
                      have f2 : (0 : Int) ≤ (a : Int) := by omega
                      have f3 : (a : Int) < (n1 : Int) := by omega
                      have HST := Lib.hid hst
                      have HKP := Lib.hid hkp
                      have HRO := Lib.hid hro
                      have HRX := Lib.hid hrx
                      have HM9 := Lib.hid hm
                      clear hst hkp hro hrx hm
                      clear hy hsl hfr hrs hra hqe hsa hg
                      go_wp2_with fail
                      go_quiet (with_reducible exact Calls.quiet_of (HKP.out _))
                      generalize hwd : wr.drewN _ = wd at *
                      have hkd : New wr wd := by rw [← hwd]; exact Kept.drewN (Kept.refl _ _) _
                      have xf := (hkd.frozen (p := ⟨g, o + a, none⟩) (lt_of_cell x0).1 id).trans xf
                      have x0 := (hkd.cell (p := ⟨g, o + a, none⟩) (lt_of_cell x0).1 id).trans x0
                      have hst2 := HSTK.out _ _ HST.out (hkd.mono fun _ _ h => h.elim)
                      have hrx2 := HRX.out.kept (by decide) hkd (fun _ _ h => h)
                      have HXC := Lib.hid fun W (hW : Kept (fun k => ry = some k) wd W) => (⟨(hW.cell (p := ⟨g, o + a, none⟩) (lt_of_cell x0).1 (fun e => HGY.out g e rfl)).trans x0, (hW.frozen (p := ⟨g, o + a, none⟩) (lt_of_cell x0).1 (fun e => HGY.out g e rfl)).trans xf⟩ : _ ∧ _)
                      have hro2 := HRO.out.kept (by decide) hkd (fun _ _ h => h)
                      have hkd' : Kept (fun k => ry = some k) wr wd := hkd.mono fun _ _ h => h.elim
                      have HST2 := Lib.hid hst2
                      have HRX2 := Lib.hid hrx2
                      have HRO2 := Lib.hid hro2
                      have HKD' := Lib.hid hkd'
                      clear hst2 hrx2 hro2 hkd'
                      clear hkd hwd x0 xf
                      go_wp2_with fail
                      go_loopw [19] (fun s wk => ∃ k : Nat, k ≤ m ∧ s = .int .i64 k ∧ Kept (fun k => ry = some k) wd wk ∧ RowX wk 1 ry Ay m cy) (fun s _ => (m - intOf s).toNat)
                      case atStart => exact ⟨0, Nat.zero_le _, rfl, Kept.refl _ _, HRX2.out⟩
                      case round =>
                        obtain ⟨k, hk, rfl, hkw, xs, hrw⟩ := hrel
                        obtain ⟨x0, xf⟩ := HXC.out _ hkw
                        by_cases hlk : k < m
                        · obtain ⟨g2, o2, hg2, rfl, hc⟩ := hrw.at_index hlk
                          obtain ⟨v, -, c0, c1⟩ := hc 0 (by decide)
                          rw [Nat.mul_one, Nat.add_zero] at c0 c1
                          have f4 : (0 : Int) ≤ (k : Int) := by omega
                          have f5 : (k : Int) < (m : Int) := by omega
                          have HKW := Lib.hid hkw
                          have HRW := Lib.hid hrw
                          have HG2 := Lib.hid hg2
                          clear hkw hrw hg2
                          clear hc
                          go_wp2_with fail
                          go_roundw
                          case rel => exact ⟨k + 1, by omega, by go_num, HKW.out.setCell (.inr HG2.out) _, _, HRW.out.set rfl (j := k) (by omega) _⟩
                          case measure => simp [intOf]; omega
                        · obtain rfl : m = k := by omega
                          have hst3 := HSTK.out _ _ HST2.out (hkw.mono fun k _ e => HXY.out k e)
                          have hro3 := HRO2.out.kept (by decide) hkw (fun k e e' => HOY.out k e e')
                          have hkr := HKD'.out.trans hkw
                          have HST3 := Lib.hid hst3
                          have HRO3 := Lib.hid hro3
                          have HKR := Lib.hid hkr
                          clear hst3 hro3 hkr
                          clear hkw hrw
                          go_wp2_with fail
                          go_roundw
                          case rel => exact ⟨a + 1, by omega, by go_num, HSTK.out _ _ HST3.out ((Kept.set1 _ g (o + a) _).mono fun k _ e => by rw [e]; exact HXG.out), HNEXT.out _ HKR.out, HRO3.out.kept (by decide) (Kept.set1 _ g (o + a) _) (fun k e e' => HOG.out k e e')⟩
                          case measure => simp [intOf]; omega
                    · obtain rfl : n1 = a := by omega
                      have HST := Lib.hid hst
                      have HRO := Lib.hid hro
                      clear hst hro
                      clear hrs
                      go_wp2_with fail
                      go_loopw [20] (fun s wk => ∃ k : Nat, k ≤ n0 ∧ s = .int .i64 k ∧ St wk ∧ RowX wk 1 ro Ao n0 co) (fun s _ => (n0 - intOf s).toNat)
                      case atStart => exact ⟨0, Nat.zero_le _, rfl, HST.out, HRO.out⟩
                      case round =>
                        obtain ⟨k, hk, rfl, hst, xs, hrw⟩ := hrel
                        by_cases hlk : k < n0
                        · obtain ⟨g2, o2, hg2, rfl, hc⟩ := hrw.at_index hlk
                          obtain ⟨v, -, c0, c1⟩ := hc 0 (by decide)
                          rw [Nat.mul_one, Nat.add_zero] at c0 c1
                          have f4 : (0 : Int) ≤ (k : Int) := by omega
                          have f5 : (k : Int) < (n0 : Int) := by omega
                          have HX2 : Hid (X g2) := Lib.hid (HXI.out g2 (.inl hg2))
                          have HST := Lib.hid hst
                          have HRW := Lib.hid hrw
                          have HG2 := Lib.hid hg2
                          clear hst hrw hg2
                          clear hc
                          go_wp2_with fail
                          go_roundw
                          case rel => exact ⟨k + 1, by omega, by go_num, HSTK.out _ _ HST.out ((Kept.set1 _ g2 (o2 + k) _).mono fun k _ e => by rw [e]; exact HX2.out), _, HRW.out.set rfl (j := k) (by omega) _⟩
                          case measure => simp [intOf]; omega
                        · obtain rfl : n0 = k := by omega
                          have hfin := HFIN.out _ hst
                          have HFI := Lib.hid hfin
                          clear hfin
                          clear hst hrw
                          go_wp2_with fail
                          refine HFI.out.mono ?_
                          rintro e w9 ⟨rfl, hn9⟩
                          have hfix := HFX.out w9
                          have HFIX := Lib.hid hfix
                          have HN9 := Lib.hid hn9
                          clear hfix hn9
                          go_wp2_with fail
                          refine HFIX.out.mono ?_
                          rintro e w10 ⟨rfl, hn10⟩
                          have hend := HN9.out.trans hn10
                          have HEND := Lib.hid hend
                          clear hend
                          clear hn10
                          go_wp2_with fail
                          go_ret
                          exact ⟨rfl, HEND.out⟩
                · exact absurd HZ.out hz'
              · have HZ := Lib.hid hz
                clear hz
                generalize hEr : layErr os qs = er at *
                go_wp2_with fail
                refine HRL4.out.mono ?_
                rintro e w5 ⟨hn5, hw5⟩
                rcases hw5 with ⟨hz', -⟩ | ⟨-, rfl⟩
                · exact absurd (hEr ▸ hz') HZ.out
                · obtain ⟨St, hSt⟩ : ∃ St : World → Prop, St = fun W => New w W := ⟨_, rfl⟩
                  have hs5 : St w5 := by rw [hSt]; exact HNR.out.trans (HN4.out.trans hn5)
                  have HSTK : Hid (∀ W W', St W → Kept X W W' → St W') := Lib.hid (by rw [hSt]; exact fun W W' h hk => h.step hk fun k hk' hX => by have := (HXB.out k hX).1; omega)
                  have HSTF : Hid (∀ W, St W → New w W) := Lib.hid (by rw [hSt]; exact fun W h => h)
                  generalize wr.heap.size = bl at *
                  generalize w4.heap.size = dl at *
                  rw [hEr]
                  clear hSt hEr
                  have hs5' := hs5
                  have hn45 := HNR.out.trans (HN4.out.trans hn5)
                  have hrm5 := HRM3.out.new (HN4.out.trans hn5)
                  have hkp := kept_any (r := none) hrm5.ow (H0.out.kept hn45 (Nat.le_refl _) fun _ _ h => h)
                  have HS5 := Lib.hid hs5
                  have HRM5 := Lib.hid hrm5
                  have HKP := Lib.hid hkp
                  clear hs5 hrm5 hkp
                  clear hs5' hn45 hn5
                  go_wp2_with fail
                  refine HKP.out.mono ?_
                  rintro e w6 ⟨rfl, q, rfl⟩
                  have hs6 := HSTK.out _ _ HS5.out (Kept.drewN (Kept.refl _ _) q)
                  have hrm6 := HRM5.out.new (Kept.drewN (Kept.refl _ _) q)
                  generalize w5.drewN q = w6 at *
                  have HS6 := Lib.hid hs6
                  have HRM6 := Lib.hid hrm6
                  clear hs6 hrm6
                  go_wp2_with fail
                  go_loopw [18] (fun s wk => ∃ a : Nat, a ≤ n1 ∧ s = .int .i64 a ∧ St wk ∧ Rest wk rq Aq n1 cq a Y ∧ RowX wk 1 ro Ao n0 co) (fun s _ => (n1 - intOf s).toNat)
                  case atStart => exact ⟨0, Nat.zero_le _, rfl, HS6.out, ⟨⟨_, HRM6.out.qu, fun j _ => rfl⟩, fun j hj _ => HRM6.out.el _ (List.getElem_mem hj)⟩, ⟨_, HRM6.out.ow.row⟩⟩
                  case round =>
                    obtain ⟨a, ha, rfl, hst, hrs, hro⟩ := hrel
                    by_cases hlt : a < n1
                    · have haY : a < Y.length := by have := HYL.out; omega
                      obtain ⟨gq, oq, A', c', rfl, hy, hsl⟩ := HQ.out a hlt
                      have hfr := HSTF.out _ hst
                      have y0 := hy wr hfr
                      obtain ⟨g, o, hg, rfl, x0, xf⟩ := hrs.cell HYL.out hlt
                      have hra := hrs.2 a haY (Nat.le_refl _)
                      have hqe := HYE.out a haY
                      have hsa := hsl wr hfr
                      have HNEXT := Lib.hid (fun W' (hk : Kept (fun k => (Y[a]'haY).r = some k) wr W') => hrs.next HYL.out hlt hk HD2.out HD3.out hg rfl (.slice none 0 0))
                      have HXY : Hid (∀ k, (Y[a]'haY).r = some k → X k) := Lib.hid fun k e => HXI.out k (.inr (.inr ⟨_, List.getElem_mem haY, e⟩))
                      have HXG : Hid (X g) := Lib.hid (HXI.out g (.inr (.inl hg)))
                      have HGY : Hid (∀ k, (Y[a]'haY).r = some k → g ≠ k) := Lib.hid fun k e e' => HD2.out _ (List.getElem_mem haY) k e (by rw [hg, e'])
                      have HOY : Hid (∀ k, ro = some k → (Y[a]'haY).r ≠ some k) := Lib.hid fun k e e' => HD0.out _ (List.getElem_mem haY) k e' e
                      have HOG : Hid (∀ k, ro = some k → k ≠ g) := Lib.hid fun k e e' => HD1.out k e (by rw [hg, e'])
                      unfold slC at x0
                      rw [hqe] at x0 hra
                      generalize (Y[a]'haY).r = ry at *
                      generalize (Y[a]'haY).A = Ay at *
                      generalize (Y[a]'haY).c = cy at *
                      have hkp := fun q' => kept_any (r := none) (hra.kept (Kept.drewN (Kept.refl (fun _ => False) _) q') (fun _ _ h => h)) (hsa.kept (Kept.drewN (Kept.refl (fun _ => False) _) q') hfr.size fun _ _ h => h)
                      have hbb := hra.row.bound
                      have hmb := hsa.bound
                      have hrx := hra.row.x
                      generalize qAt qs a = qa at *
                      obtain ⟨m, hm⟩ : ∃ m, m = qa.length := ⟨_, rfl⟩
                      rw [← hm] at x0 hkp y0 hbb hrx hmb
                      have f2 : (0 : Int) ≤ (a : Int) := by omega
                      have f3 : (a : Int) < (n1 : Int) := by omega
                      have HST := Lib.hid hst
                      have HKP := Lib.hid hkp
                      have HRO := Lib.hid hro
                      have HRX := Lib.hid hrx
                      have HM9 := Lib.hid hm
                      clear hst hkp hro hrx hm
                      clear hy hsl hfr hrs hra hqe hsa hg
                      go_wp2_with fail
                      go_quiet (with_reducible exact Calls.quiet_of (HKP.out _))
                      generalize hwd : wr.drewN _ = wd at *
                      have hkd : New wr wd := by rw [← hwd]; exact Kept.drewN (Kept.refl _ _) _
                      have xf := (hkd.frozen (p := ⟨g, o + a, none⟩) (lt_of_cell x0).1 id).trans xf
                      have x0 := (hkd.cell (p := ⟨g, o + a, none⟩) (lt_of_cell x0).1 id).trans x0
                      have hst2 := HSTK.out _ _ HST.out (hkd.mono fun _ _ h => h.elim)
                      have hrx2 := HRX.out.kept (by decide) hkd (fun _ _ h => h)
                      have HXC := Lib.hid fun W (hW : Kept (fun k => ry = some k) wd W) => (⟨(hW.cell (p := ⟨g, o + a, none⟩) (lt_of_cell x0).1 (fun e => HGY.out g e rfl)).trans x0, (hW.frozen (p := ⟨g, o + a, none⟩) (lt_of_cell x0).1 (fun e => HGY.out g e rfl)).trans xf⟩ : _ ∧ _)
                      have hro2 := HRO.out.kept (by decide) hkd (fun _ _ h => h)
                      have hkd' : Kept (fun k => ry = some k) wr wd := hkd.mono fun _ _ h => h.elim
                      have HST2 := Lib.hid hst2
                      have HRX2 := Lib.hid hrx2
                      have HRO2 := Lib.hid hro2
                      have HKD' := Lib.hid hkd'
                      clear hst2 hrx2 hro2 hkd'
                      clear hkd hwd x0 xf
                      go_wp2_with fail
                      go_loopw [19] (fun s wk => ∃ k : Nat, k ≤ m ∧ s = .int .i64 k ∧ Kept (fun k => ry = some k) wd wk ∧ RowX wk 1 ry Ay m cy) (fun s _ => (m - intOf s).toNat)
                      case atStart => exact ⟨0, Nat.zero_le _, rfl, Kept.refl _ _, HRX2.out⟩
                      case round =>
                        obtain ⟨k, hk, rfl, hkw, xs, hrw⟩ := hrel
                        obtain ⟨x0, xf⟩ := HXC.out _ hkw
                        by_cases hlk : k < m
                        · obtain ⟨g2, o2, hg2, rfl, hc⟩ := hrw.at_index hlk
                          obtain ⟨v, -, c0, c1⟩ := hc 0 (by decide)
                          rw [Nat.mul_one, Nat.add_zero] at c0 c1
                          have f4 : (0 : Int) ≤ (k : Int) := by omega
                          have f5 : (k : Int) < (m : Int) := by omega
                          have HKW := Lib.hid hkw
                          have HRW := Lib.hid hrw
                          have HG2 := Lib.hid hg2
                          clear hkw hrw hg2
                          clear hc
                          go_wp2_with fail
                          go_roundw
                          case rel => exact ⟨k + 1, by omega, by go_num, HKW.out.setCell (.inr HG2.out) _, _, HRW.out.set rfl (j := k) (by omega) _⟩
                          case measure => simp [intOf]; omega
                        · obtain rfl : m = k := by omega
                          have hst3 := HSTK.out _ _ HST2.out (hkw.mono fun k _ e => HXY.out k e)
                          have hro3 := HRO2.out.kept (by decide) hkw (fun k e e' => HOY.out k e e')
                          have hkr := HKD'.out.trans hkw
                          have HST3 := Lib.hid hst3
                          have HRO3 := Lib.hid hro3
                          have HKR := Lib.hid hkr
                          clear hst3 hro3 hkr
                          clear hkw hrw
                          go_wp2_with fail
                          go_roundw
                          case rel => exact ⟨a + 1, by omega, by go_num, HSTK.out _ _ HST3.out ((Kept.set1 _ g (o + a) _).mono fun k _ e => by rw [e]; exact HXG.out), HNEXT.out _ HKR.out, HRO3.out.kept (by decide) (Kept.set1 _ g (o + a) _) (fun k e e' => HOG.out k e e')⟩
                          case measure => simp [intOf]; omega
                    · obtain rfl : n1 = a := by omega
                      have HST := Lib.hid hst
                      have HRO := Lib.hid hro
                      clear hst hro
                      clear hrs
                      go_wp2_with fail
                      go_loopw [20] (fun s wk => ∃ k : Nat, k ≤ n0 ∧ s = .int .i64 k ∧ St wk ∧ RowX wk 1 ro Ao n0 co) (fun s _ => (n0 - intOf s).toNat)
                      case atStart => exact ⟨0, Nat.zero_le _, rfl, HST.out, HRO.out⟩
                      case round =>
                        obtain ⟨k, hk, rfl, hst, xs, hrw⟩ := hrel
                        by_cases hlk : k < n0
                        · obtain ⟨g2, o2, hg2, rfl, hc⟩ := hrw.at_index hlk
                          obtain ⟨v, -, c0, c1⟩ := hc 0 (by decide)
                          rw [Nat.mul_one, Nat.add_zero] at c0 c1
                          have f4 : (0 : Int) ≤ (k : Int) := by omega
                          have f5 : (k : Int) < (n0 : Int) := by omega
                          have HX2 : Hid (X g2) := Lib.hid (HXI.out g2 (.inl hg2))
                          have HST := Lib.hid hst
                          have HRW := Lib.hid hrw
                          have HG2 := Lib.hid hg2
                          clear hst hrw hg2
                          clear hc
                          go_wp2_with fail
                          go_roundw
                          case rel => exact ⟨k + 1, by omega, by go_num, HSTK.out _ _ HST.out ((Kept.set1 _ g2 (o2 + k) _).mono fun k _ e => by rw [e]; exact HX2.out), _, HRW.out.set rfl (j := k) (by omega) _⟩
                          case measure => simp [intOf]; omega
                        · obtain rfl : n0 = k := by omega
                          have hfr := HSTF.out _ hst
                          have hfix := HFX.out wr
                          have HFIX := Lib.hid hfix
                          have HFR := Lib.hid hfr
                          clear hfix hfr
                          clear hst hrw
                          go_wp2_with fail
                          refine HFIX.out.mono ?_
                          rintro e w10 ⟨rfl, hn10⟩
                          have hend := HFR.out.trans hn10
                          have HEND := Lib.hid hend
                          clear hend
                          clear hn10
                          go_wp2_with fail
                          go_ret
                          exact ⟨rfl, HEND.out⟩
end Go.Proofs.Ytjjlemkmdldljaa.Locks
