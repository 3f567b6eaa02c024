/- The walk of package script's Decode (layer 16). -/
import Derived.Test.YtgmibjhbneggeaaScriptS
namespace Go.Proofs.Ytgmibjhbneggeaa.Script
open Go.RowKit Go.Fb Go.BytesP Go.ScriptP
set_option linter.unusedVariables false

theorem step_any (B r : Nat) (A : Option Addr) (n c p : Nat) (bs : List UInt8) (w : World) (hr : Rd w r A n c p) (hb : SliceOf Rep.byte w B A n c bs) (hB : B ≤ r) (hp : p ≤ bs.length) :
    Calls Try.prog 23 #[.pointer (some ⟨r, 0, none⟩)] w fun e w' => Told w w' r A n c e (pStep bs p) := by
  by_cases h0 : p < bs.length
  · have e0 : bs[p]? = some bs[p] := List.getElem?_eq_getElem h0
    by_cases hk : bs[p].toNat < 1 ∨ 3 < bs[p].toNat
    · have e : pStep bs p = .error (1, p) := by unfold pStep; rw [e0]; simp only; rw [if_pos hk]
      rw [e]
      exact step_bad B r A n c p bs w hr hb hB h0 hk
    · by_cases h5 : bs.length < p + 5
      · have e : pStep bs p = .error (5, bs.length) := by unfold pStep; rw [e0]; simp only; rw [if_neg hk, num_none (by omega)]
        rw [e]
        exact step_short B r A n c p bs w hr hb hB h0 h5 (by omega) (by omega)
      · have e4 : num bs (p + 1) 4 = some (val ((bs.drop (p + 1)).take 4)) := by unfold num; rw [if_neg (by omega)]
        by_cases h2 : bs[p].toNat = 2
        · by_cases h13 : bs.length < p + 13
          · have e : pStep bs p = .error (5, bs.length) := by unfold pStep; rw [e0]; simp only; rw [if_neg hk, e4]; simp only; rw [if_pos h2, num_none (by omega)]
            rw [e]
            exact step_short2 B r A n c p bs w hr hb hB (by omega) h13 h2
          · have e8 : num bs (p + 5) 8 = some (val ((bs.drop (p + 5)).take 8)) := by unfold num; rw [if_neg (by omega)]
            have e : pStep bs p = .ok (⟨bs[p].toNat, val ((bs.drop (p + 1)).take 4), wrap64 (val ((bs.drop (p + 5)).take 8))⟩, p + 13) := by unfold pStep; rw [e0]; simp only; rw [if_neg hk, e4]; simp only; rw [if_pos h2, e8]
            rw [e]
            exact step_inj B r A n c p bs w hr hb hB (by omega) h2
        · have e : pStep bs p = .ok (⟨bs[p].toNat, val ((bs.drop (p + 1)).take 4), 0⟩, p + 5) := by unfold pStep; rw [e0]; simp only; rw [if_neg hk, e4]; simp only; rw [if_neg h2]
          rw [e]
          exact step_num B r A n c p bs w hr hb hB (by omega) (by omega) (by omega) h2
  · have e : pStep bs p = .error (5, bs.length) := by unfold pStep; rw [List.getElem?_eq_none (by omega)]
    rw [e]
    exact step_end B r A n c p bs w hr hb hB (by omega)

/-- The cells of a step. -/
def cellsS (s : Step) : List Value := [.int .i64 s.k, .int .i64 s.n, .int .i64 s.v]
/-- Steps of the call's own. -/
def OwnS (w : World) (B : Nat) (v : Value) (l : List Step) : Prop := w.ownsRow B 38 3 v l.length (l.flatMap cellsS)
theorem tySteps : SliceTy Try.prog 23 38 3 24 := by
  obtain ⟨i, hi, hz, hs, hb⟩ := info_parts (P := Try.prog) (e := 38) (z := .agg #[.int .i64 0, .int .i64 0, .int .i64 0]) (size := 3) (bytes := 24) (by kernel_rfl)
  exact ⟨Try.underlying23, ⟨i, _, hi, hz, hs, hb, rfl⟩, by decide⟩
theorem cellsS_one (s : Step) : ∀ u ∈ cellsS s, u.oneCell' = true := by
  intro u hu
  simp only [cellsS, List.mem_cons, List.not_mem_nil, or_false] at hu
  rcases hu with rfl | rfl | rfl <;> rfl
theorem flat_length (l : List Step) : (l.flatMap cellsS).length = l.length * 3 := by
  induction l with
  | nil => rfl
  | cons s l ih => rw [List.flatMap_cons, List.length_append, ih, List.length_cons]; simp [cellsS]; omega
/-- What Decode tells. -/
def Dec (w w' : World) (e : Ending) : Except (Int × Int) (List Step) → Prop
  | .error x => e = .returned (.tuple #[.slice none 0 0, .int .i64 x.1, .int .i64 x.2]) ∧ New w w'
  | .ok l => ∃ v, e = .returned (.tuple #[v, .int .i64 0, .int .i64 0]) ∧ OwnS w' w.heap.size v l ∧ New w w'
theorem mark_at (k : Nat) (hk : k < 5) (W : World) : (Instr.index 9 (.string ⟨#[70, 66, 83, 67, 1]⟩) (.int .i64 (k : Int))).run Try.prog W = .ok (.int .u8 ((markB k).toNat : Int)) W := by
  rcases (by omega : k = 0 ∨ k = 1 ∨ k = 2 ∨ k = 3 ∨ k = 4) with rfl | rfl | rfl | rfl | rfl <;> kernel_rfl

theorem decode_long (A : Option Addr) (n c : Nat) (bs : List UInt8) (w : World) (hb : SliceOf Rep.byte w w.heap.size A n c bs) (hl : 1048576 < bs.length) :
    Calls Try.prog 13 #[.slice A n c] w fun e w' => Dec w w' e (dec bs) := by
  have e : dec bs = .error (22, 1048576) := by unfold dec; rw [if_pos hl]
  rw [e]
  have hn := hb.len
  have hbd := hb.bound
  have h : 1048576 < n := by omega
  clear hb hn e hl
  go_enter Try.func13, Try.ntmps13
  go_wp2_with fail
  refine bodyPost_ret (results_tmp3 rfl _ _ _) rfl ?_
  exact ⟨rfl, Kept.refl _ _⟩
set_option maxHeartbeats 1000000 in
theorem decode_walk (A : Option Addr) (n c : Nat) (bs : List UInt8) (w : World) (hb : SliceOf Rep.byte w w.heap.size A n c bs) (hl : bs.length ≤ 1048576) :
    Calls Try.prog 13 #[.slice A n c] w fun e w' => Dec w w' e (dec bs) := by
  have HE := Lib.hid (dec_marked hl)
  have hn := hb.len
  have hbd := hb.bound
  have h : n ≤ 1048576 := by omega
  have HB := Lib.hid hb
  have HN := Lib.hid hn
  clear hb hn hl
  go_enter Try.func13, Try.ntmps13
  go_wp2_with fail
  go_loopw [22] (fun i wr => ∃ k : Nat, k ≤ 5 ∧ k ≤ n ∧ i = .int .i64 k ∧ dec bs = marked bs k ∧ Rd wr w.heap.size A n c k ∧ New w wr) (fun i _ => (5 - intOf i).toNat)
  case atStart => exact ⟨0, by omega, by omega, rfl, HE.out, Blk.made _ _ _, (Kept.refl _ _).alloc _⟩
  case round =>
    obtain ⟨k, hk, hkn, rfl, he, hr, hw⟩ := hrel
    have HM := Lib.hid he
    have HR := Lib.hid hr
    have HW := Lib.hid hw
    clear he hr hw
    have hb1 := HB.out.below HW.out.below
    have HB1 := Lib.hid hb1
    clear hb1
    by_cases hlt : k < 5
    · have hix := fun W => mark_at k hlt W
      by_cases hkl : k < n
      · go_wp2_with fail
        refine (number_some w.heap.size w.heap.size A n c k 1 bs _ HR.out HB1.out (Nat.le_refl _) (by decide) (by decide) (by omega)).mono ?_
        rintro e w1 ⟨rfl, hr1, hk1⟩
        have hkb : k < bs.length := by have := HN.out; omega
        rw [val_one hkb]
        have hnew1 : New w w1 := HW.out.step hk1 fun i hi e => by omega
        have HR1 := Lib.hid hr1
        have HW1 := Lib.hid hnew1
        clear hr1 hk1 hnew1
        have hu8 := u8_byte bs[k]
        by_cases hq : bs[k] = markB k
        · have hq' : ((bs[k].toNat : Int) != ((markB k).toNat : Int)) = false := by rw [hq]; simp
          have HQ := Lib.hid hq
          clear hq
          go_wp2_with fail
          go_roundw
          case rel => exact ⟨k + 1, by omega, by omega, by go_num, by rw [HM.out, marked_next hlt hkb HQ.out], HR1.out, HW1.out⟩
          case measure => simp [intOf]; omega
        · have hq' : ((bs[k].toNat : Int) != ((markB k).toNat : Int)) = true := by
            rw [bne_iff_ne]; intro e; apply hq; apply UInt8.toNat_inj.1; omega
          have HQ := Lib.hid hq
          clear hq
          go_wp2_with fail
          refine bodyPost_ret (results_tmp3 rfl _ _ _) rfl ?_
          rw [HM.out, marked_form hlt hkb HQ.out]
          exact ⟨rfl, HW1.out⟩
      · go_wp2_with fail
        refine (number_none w.heap.size w.heap.size A n c k 1 bs _ HR.out HB1.out (Nat.le_refl _) (by omega) (by decide) (by omega)).mono ?_
        rintro e w1 ⟨rfl, q, rfl⟩
        go_wp2_with fail
        refine bodyPost_ret (results_tmp3 rfl _ _ _) rfl ?_
        rw [HM.out, marked_end hlt (by have := HN.out; omega), ← HN.out]
        exact ⟨rfl, HW.out.drewN _⟩
    · obtain rfl : k = 5 := by omega
      have c1 : wr.cell? ⟨w.heap.size, 1, none⟩ = some (.int .i64 5) := Blk.cell HR.out 1
      go_wp2_with fail
      have hnone : n < 7 → num bs 5 2 = none := fun h => num_none (by have := HN.out; omega)
      by_cases h7 : n < 7
      · refine (number_none w.heap.size w.heap.size A n c 5 2 bs _ HR.out HB1.out (Nat.le_refl _) (by omega) (by decide) (by omega)).mono ?_
        rintro e w1 ⟨rfl, q, rfl⟩
        have hd : dec bs = .error (5, n) := by rw [HM.out, marked_all, headed, hnone h7, HN.out]
        have HD := Lib.hid hd
        clear hnone hd
        go_wp2_with fail
        refine bodyPost_ret (results_tmp3 rfl _ _ _) rfl ?_
        rw [HD.out]
        exact ⟨rfl, HW.out.drewN _⟩
      · refine (number_some w.heap.size w.heap.size A n c 5 2 bs _ HR.out HB1.out (Nat.le_refl _) (by decide) (by decide) (by omega)).mono ?_
        rintro e w1 ⟨rfl, hr1, hk1⟩
        have hnum : num bs 5 2 = some (val ((bs.drop 5).take 2)) := by unfold num; rw [if_neg (by have := HN.out; omega)]
        have hd : dec bs = if 1024 < val ((bs.drop 5).take 2) then .error (3, 5) else fin bs [] 7 (val ((bs.drop 5).take 2)) := by rw [HM.out, marked_all, headed, hnum]
        have HD := Lib.hid hd
        have hnew1 : New w w1 := HW.out.step hk1 fun i hi e => by omega
        have hb2 := HB.out.below hnew1.below
        have HR1 := Lib.hid hr1
        have HW1 := Lib.hid hnew1
        have HB2 := Lib.hid hb2
        clear hr1 hk1 hnew1 hnone hnum hd hb2 c1
        generalize val ((bs.drop 5).take 2) = m at *
        by_cases hm : 1024 < m
        · go_wp2_with fail
          refine bodyPost_ret (results_tmp3 rfl _ _ _) rfl ?_
          rw [HD.out, if_pos hm]
          exact ⟨rfl, HW1.out⟩
        · go_wp2_with fail
          have hd : dec bs = fin bs [] 7 m := by rw [HD.out, if_neg hm]
          have HF := Lib.hid hd
          have hrl1 := HR1.out.lt
          clear hd
          go_loopw [12, 62] (fun v i wr => ∃ (k p : Nat) (acc : List Step), k ≤ m ∧ i = .int .u64 k ∧ acc.length = k ∧ OwnS wr (w.heap.size + 1) v acc ∧ p ≤ n ∧ dec bs = fin bs acc p (m - k) ∧ Rd wr w.heap.size A n c p ∧ New w wr) (fun _ i _ => (m - intOf i).toNat)
          case atStart => exact ⟨0, 7, [], by omega, rfl, rfl, World.ownsRow_nil _ _ _ _, by omega, HF.out, HR1.out, HW1.out⟩
          case round =>
            obtain ⟨k, p, acc, hk', rfl, ha, ho, hp, hd, hr, hw⟩ := hrel
            have HA := Lib.hid ha
            have HO := Lib.hid ho
            have HD2 := Lib.hid hd
            have HR2 := Lib.hid hr
            have HW2 := Lib.hid hw
            have hb3 := HB.out.below hw.below
            have HB3 := Lib.hid hb3
            clear ha ho hd hr hw hb3
            have hpb : p ≤ bs.length := by have := HN.out; omega
            by_cases hkm : k < m
            · obtain ⟨f, hf⟩ : ∃ f, m - k = f + 1 := ⟨m - k - 1, by omega⟩
              have HFM := Lib.hid hf
              clear hf
              go_wp2_with fail
              refine (step_any w.heap.size w.heap.size A n c p bs _ HR2.out HB3.out (Nat.le_refl _) hpb).mono ?_
              rintro e w2 ht
              cases hs : pStep bs p with
              | error x =>
                rw [hs] at ht
                obtain ⟨rfl, hk2⟩ := ht
                have he := pStep_err hs hpb
                have hx : (x.1 != 0) = true := by rw [bne_iff_ne]; omega
                have hdd : dec bs = .error x := by rw [HD2.out, HFM.out, fin_err hs]
                have HDD := Lib.hid hdd
                have hnew : New w w2 := HW2.out.step hk2 fun i hi e => by omega
                have HNW := Lib.hid hnew
                clear hs he hdd hnew hk2
                unfold agg
                go_wp2_with fail
                refine bodyPost_ret (results_tmp3 rfl _ _ _) rfl ?_
                rw [HDD.out]
                exact ⟨rfl, HNW.out.alloc _⟩
              | ok x =>
                obtain ⟨s, q⟩ := x
                rw [hs] at ht
                obtain ⟨rfl, hr3, hk2⟩ := ht
                have hst := pStep_some hs
                have hdd : dec bs = fin bs (acc ++ [s]) q f := by rw [HD2.out, HFM.out, fin_ok hs]
                have HDD := Lib.hid hdd
                have hq : q ≤ n := by have := hst.2.2.1; have := HN.out; omega
                have hnew : New w w2 := HW2.out.step hk2 fun i hi e => by omega
                have hown : OwnS w2 (w.heap.size + 1) _ acc := Kept.own HO.out hk2 (fun i h1 h2 => by have := HO.out.lt i h1; omega)
                have HNW := Lib.hid hnew
                have HR3 := Lib.hid hr3
                have HO3 := Lib.hid hown
                clear hs hst hdd hnew hk2 hr3 hown
                unfold agg
                go_wp2_with (at_builtin; refine wpList_push tySteps rfl _ _ rfl (w.heap.size + 1) rfl ((HO3.out.alloc _).alloc _) ⟨w2.heap.size + 1, 0, none⟩ 1 1 (cellsS s) rfl rfl (new_cells _ _ _ _ (size1 _ _)) (cellsS_one s) (by decide) (by have := HA.out; unfold maxLen; omega) (by have := HA.out; omega) (by have := HR3.out.lt; simp; omega) ?_; intro g cap w3 ho4 hg4 hl4 hlt4)
                have hk4 := (Kept.refl (fun i => w.heap.size + 1 ≤ i) _).grown hg4 (fun i e => .inr ((HO3.out.lt i e).1))
                refine ⟨⟨k + 1, q, acc ++ [s], by omega, by go_num, by simp [HA.out], ?_, hq, ?_, ?_, ?_⟩, by simp [intOf]; omega⟩
                · unfold OwnS
                  rw [List.length_append, List.flatMap_append, List.flatMap_singleton]
                  exact ho4
                · rw [HDD.out]
                  congr 1
                  have := HFM.out
                  omega
                · exact Blk.kept ((HR3.out.alloc _).alloc _) hk4 (by omega)
                · exact ((HNW.out.alloc _).alloc _).step hk4 fun i hi e => by omega
            · obtain rfl : k = m := by omega
              have c1 : wr.cell? ⟨w.heap.size, 1, none⟩ = some (.int .i64 p) := Blk.cell HR2.out 1
              by_cases hpn : p < n
              · have hdd : dec bs = .error (6, p) := by rw [HD2.out, Nat.sub_self, fin_rest (by have := HN.out; omega)]
                have HDD := Lib.hid hdd
                clear hdd
                go_wp2_with fail
                go_quiet (fail)
                go_wp2_with fail
                refine bodyPost_ret (results_tmp3 rfl _ _ _) rfl ?_
                rw [HDD.out]
                exact ⟨rfl, HW2.out.drewN _⟩
              · have hdd : dec bs = .ok acc := by rw [HD2.out, Nat.sub_self, fin_done (by have := HN.out; omega)]
                have HDD := Lib.hid hdd
                clear hdd
                go_wp2_with fail
                refine bodyPost_ret (results_tmp3 rfl _ _ _) rfl ?_
                rw [HDD.out]
                exact ⟨_, rfl, Go.Joins.ownsRow_le HO.out (Nat.le_succ _), HW2.out⟩
theorem decode_any (A : Option Addr) (n c : Nat) (bs : List UInt8) (w : World) (hb : SliceOf Rep.byte w w.heap.size A n c bs) :
    Calls Try.prog 13 #[.slice A n c] w fun e w' => Dec w w' e (dec bs) := by
  by_cases h : 1048576 < bs.length
  · exact decode_long A n c bs w hb h
  · exact decode_walk A n c bs w hb (by omega)
end Go.Proofs.Ytgmibjhbneggeaa.Script
