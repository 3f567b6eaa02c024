/- The walk of the reference's End (layer 12). -/
import Derived.Test.YtjjlemkmdldljaaLocksN
namespace Go.Proofs.Ytjjlemkmdldljaa.Locks
open Go.RowKit Go.Fb
set_option linter.unusedVariables false
def rdropL (L : List (Int × List Int)) (p : Int) : List (Int × List Int) := if (waitAt L p).2 then L.set (waitAt L p).1.toNat ((L.getD (waitAt L p).1.toNat (0, [])).1, (L.getD (waitAt L p).1.toNat (0, [])).2.filter (fun x => x != p)) else L
def rhandTo (M : List (Int × List Int)) (ns : List Int) : Nat → List (Int × List Int) × List (Int × Int)
  | 0 => (M, [])
  | i + 1 => ((rhandTo M ns i).1.set (ns.getD i 0).toNat (handAt ((rhandTo M ns i).1.getD (ns.getD i 0).toNat (0, []))), (rhandTo M ns i).2 ++ [(ns.getD i 0, (handAt ((rhandTo M ns i).1.getD (ns.getD i 0).toNat (0, []))).1)])
theorem rhandTo_len (M : List (Int × List Int)) (ns : List Int) : ∀ i, (rhandTo M ns i).2.length = i
  | 0 => rfl
  | i + 1 => by unfold rhandTo; simp [rhandTo_len M ns i]
theorem rhandTo_len1 (M : List (Int × List Int)) (ns : List Int) : ∀ i, (rhandTo M ns i).1.length = M.length
  | 0 => rfl
  | i + 1 => by unfold rhandTo; simp [rhandTo_len1 M ns i]
theorem handAt_le (x : Int × List Int) : (handAt x).2.length ≤ x.2.length := by
  obtain ⟨a, q⟩ := x
  unfold handAt
  cases q <;> simp
theorem mem_set_le {L : List (Int × List Int)} {B k : Nat} (h : ∀ x ∈ L, x.2.length ≤ B) {y : Int × List Int} (hy : y.2.length ≤ B) : ∀ x ∈ L.set k y, x.2.length ≤ B := fun x hx => by
  rcases List.mem_or_eq_of_mem_set hx with h' | rfl
  · exact h x h'
  · exact hy
theorem rhandTo_le {M : List (Int × List Int)} {B : Nat} (h : ∀ x ∈ M, x.2.length ≤ B) (ns : List Int) : ∀ i, ∀ x ∈ (rhandTo M ns i).1, x.2.length ≤ B
  | 0 => h
  | i + 1 => by
    have ih := rhandTo_le h ns i
    unfold rhandTo
    refine mem_set_le ih (Nat.le_trans (handAt_le _) ?_)
    rw [List.getD_eq_getElem?_getD]
    rcases Nat.lt_or_ge (ns.getD i 0).toNat (rhandTo M ns i).1.length with g | g
    · rw [List.getElem?_eq_getElem g]; exact ih _ (List.getElem_mem g)
    · rw [List.getElem?_eq_none g]; simp
def rendL (L : List (Int × List Int)) (p : Int) : List (Int × List Int) × List (Int × Int) := rhandTo (rdropL L p) (rheldL (rdropL L p) p) (rheldL (rdropL L p) p).length
def REnded (w : World) (b : Nat) (F : Nat → Prop) (L : List (Int × List Int)) (g : List (Int × Int)) (e : Ending) (w' : World) : Prop :=
  ∃ r A c, e = .returned (.slice A g.length c) ∧ Row w' 2 r A g.length c (g.flatMap gvC) ∧ (∀ k, r = some k → w.heap.size ≤ k) ∧ ∃ G, RAt w' b G L ∧ (∀ k, G k → F k ∨ w.heap.size ≤ k) ∧ (∀ k, r = some k → ¬ G k) ∧ Kept F w w'
theorem tyGivenR : SliceTy Try.prog 70 72 2 16 := by
  obtain ⟨i, hi, hz, hs, hb⟩ := info_parts (P := Try.prog) (e := 72) (z := .agg #[.int .i64 0, .int .i64 0]) (size := 2) (bytes := 16) (by kernel_rfl)
  exact ⟨Try.underlying70, ⟨i, _, hi, hz, hs, hb, rfl⟩, by decide⟩
theorem RAt.len_here {w : World} {b : Nat} {F : Nat → Prop} {L : List (Int × List Int)} (h : RAt w b F L) : b < w.heap.size := by
  obtain ⟨⟨ro, Ao, co, rq, Aq, cq, Y, hp, hY⟩, h4⟩ := h
  exact hp.blk.lt
theorem heldTo_mem (L : List (Int × List Int)) (p : Int) : ∀ j x, x ∈ heldTo L p j → ∃ k : Nat, x = k ∧ k < j
  | 0, x, h => by cases h
  | j + 1, x, h => by
    unfold heldTo at h
    rcases List.mem_append.1 h with h | h
    · obtain ⟨k, e, hk⟩ := heldTo_mem L p j x h; exact ⟨k, e, by omega⟩
    · split at h
      · exact ⟨j, by simpa using h, by omega⟩
      · cases h
theorem rheld_at (L : List (Int × List Int)) (p : Int) (i : Nat) (hi : i < (rheldL L p).length) : ∃ k : Nat, (rheldL L p).getD i 0 = k ∧ k < L.length := by
  rw [getD_nat _ _ _ hi]
  have hm := List.getElem_mem hi
  generalize (rheldL L p)[i] = x at *
  unfold rheldL at hm
  by_cases hp : p < 0
  · rw [if_pos hp] at hm; cases hm
  · rw [if_neg hp] at hm
    exact heldTo_mem L p L.length _ hm
theorem rheld_le (L : List (Int × List Int)) (p : Int) : (rheldL L p).length ≤ L.length := by
  unfold rheldL
  split
  · simp
  · exact heldTo_len _ _ _
theorem RAt.fb {w : World} {b : Nat} {F : Nat → Prop} {L : List (Int × List Int)} (h : RAt w b F L) : F b := by
  obtain ⟨⟨ro, Ao, co, rq, Aq, cq, Y, hp, hY⟩, h4⟩ := h
  exact hp.fb
theorem wait_in {L : List (Int × List Int)} {p : Int} (h : (waitAt L p).2 = true) : ∃ k : Nat, (waitAt L p).1 = k ∧ k < L.length := by
  unfold waitAt at h ⊢
  split at h
  · rename_i g; rw [if_pos g]; exact ⟨_, rfl, g⟩
  · cases h
theorem RAt.queue_here {w : World} {b : Nat} {F : Nat → Prop} {L : List (Int × List Int)} (h : RAt w b F L) (k : Nat) (hk : k < L.length) : ∃ g2 o2 cq rr Aq c, w.cell? ⟨b, 1, none⟩ = some (.slice (some ⟨g2, o2, none⟩) L.length cq) ∧ L.length ≤ cq ∧ cq ≤ 9223372036854775807 ∧ w.cell? ⟨g2, o2 + k, none⟩ = some (.slice Aq L[k].2.length c) ∧ w.frozen? ⟨g2, o2 + k, none⟩ = false ∧
    Row w 1 rr Aq L[k].2.length c (L[k].2.map (Value.int .i64)) ∧
    ∀ (w2 : World) (r : Option Nat) (A : Option Addr) (c : Nat) (q : List Int) (m : Nat), m = q.length → New w w2 → Row w2 1 r A m c (q.map (Value.int .i64)) → (∀ j, r = some j → w.heap.size ≤ j) →
      RAt (w2.setCell ⟨g2, o2 + k, none⟩ (.slice A m c)) b (grow F w (w2.setCell ⟨g2, o2 + k, none⟩ (.slice A m c))) (L.set k (L[k].1, q)) ∧ Kept F w (w2.setCell ⟨g2, o2 + k, none⟩ (.slice A m c)) := by
  have h0 := h
  obtain ⟨⟨ro, Ao, co, rq, Aq, cq, Y, hp, hY⟩, h4⟩ := h
  obtain ⟨y0, y1, -, -, b1, b2, b3, b4⟩ := hp.cells
  obtain ⟨g2, o2, hy, hrq, rfl, x2, x2f⟩ := hp.queue_at k hk
  obtain ⟨_, hqk⟩ := RAt.q_at hp hY k hk
  have hqrow := hp.told.el _ (List.getElem_mem hy)
  rw [hqk] at x2 hqrow
  refine ⟨g2, o2, cq, _, _, _, y1, b3, b4, x2, x2f, hqrow, ?_⟩
  intro w2 r A c q m hm hn hr hf
  subst hm
  have hp5 := hp.set_queue hrq rfl k hk hn (y := ⟨0, r, A, c, q⟩) hr hf (G := fun j => F j ∨ w.heap.size ≤ j) (fun j h => .inl h) (fun j h => .inr (hf j h))
  exact ⟨RParts.ends (L' := L.set k (L[k].1, q)) h0 hp5 (by simp) (map_same1 L k hk (L[k].1, q) rfl).symm (map_set2 L Y hY k _ _ rfl), (hn.mono fun _ _ h => h.elim).setCell (.inr (hp.f2 g2 hrq)) _⟩
theorem filter_take (q : List Int) (p : Int) (j : Nat) (hj : j < q.length) : (q.take (j + 1)).filter (fun x => x != p) = (q.take j).filter (fun x => x != p) ++ (if q.getD j 0 = p then [] else [q.getD j 0]) := by
  rw [List.take_succ_eq_append_getElem hj, List.filter_append, getD_nat _ _ _ hj]
  by_cases h : q[j] = p
  · simp [h]
  · simp [h]
set_option maxHeartbeats 4000000 in
theorem rend_any {w : World} {b : Nat} {F : Nat → Prop} {L : List (Int × List Int)} (h : RAt w b F L) (p : Int) (hL : L.length ≤ 1048576) (hQ : ∀ x ∈ L, x.2.length ≤ 1048576) : Calls Try.prog 31 #[.pointer (some ⟨b, 0, none⟩), .int .i64 p] w (REnded w b F (rendL L p).1 (rendL L p).2) := by
  have hw := rwaits_any h p
  have HRES := Lib.hid (show rendL L p = rhandTo (rdropL L p) (rheldL (rdropL L p) p) (rheldL (rdropL L p) p).length from rfl)
  generalize rendL L p = res at *
  by_cases hq : (waitAt L p).2 = true
  · obtain ⟨k, hk1, hk⟩ := wait_in hq
    have e : L.getD k (0, []) = L[k] := getD_nat _ _ _ hk
    have hM : rdropL L p = L.set k (L[k].1, L[k].2.filter (fun x => x != p)) := by
      unfold rdropL
      rw [if_pos hq, hk1, Int.toNat_natCast, e]
    rw [hM] at HRES
    rw [hq, hk1] at hw
    obtain ⟨g2, o2, cq, rr, Aq, cc, y1, b1, b2, x2, x2f, hrow, hput⟩ := h.queue_here k hk
    have hql := hQ _ (List.getElem_mem hk)
    have HQB := Lib.hid (mem_set_le (k := k) hQ (y := (L[k].1, L[k].2.filter (fun x => x != p))) (Nat.le_trans (List.length_filter_le _ _) hql))
    have hML : (L.set k (L[k].1, L[k].2.filter (fun x => x != p))).length = L.length := List.length_set
    generalize hv : L[k].1 = v at *
    generalize hqq : L[k].2 = q at *
    obtain ⟨mq, hmq⟩ : ∃ mq, mq = q.length := ⟨_, rfl⟩
    obtain ⟨n, hn⟩ : ∃ n, n = L.length := ⟨_, rfl⟩
    have hkn : k < n := by omega
    have hkn' : (k : Int) < (n : Int) := by omega
    have hk0 : (0 : Int) ≤ (k : Int) := by omega
    rw [← hn] at y1 b1 hML hL
    rw [← hmq] at x2 hrow hql
    have HPUT := Lib.hid (fun w2 r A c m (hm : m = (q.filter (fun x => x != p)).length) (h1 : New w w2) (h2 : Row w2 1 r A m c ((q.filter (fun x => x != p)).map (Value.int .i64))) h3 => hput w2 r A c _ m hm h1 h2 h3)
    have HF := Lib.hid (fun j (hj : j < mq) => filter_take q p j (by omega))
    have HFE := Lib.hid (show (q.take mq).filter (fun x => x != p) = q.filter (fun x => x != p) by rw [hmq, List.take_length])
    have HFL := Lib.hid (fun j => show ((q.take j).filter (fun x => x != p)).length ≤ j from Nat.le_trans (List.length_filter_le _ _) (List.length_take_le _ _))
    have hHW : ∀ W, New w W → W.cell? ⟨b, 1, none⟩ = some (.slice (some ⟨g2, o2, none⟩) n cq) ∧ W.cell? ⟨g2, o2 + k, none⟩ = some (.slice Aq mq cc) ∧ W.frozen? ⟨g2, o2 + k, none⟩ = false := fun W hW => ⟨(hW.cell (p := ⟨b, 1, none⟩) (lt_of_cell y1).1 id).trans y1, (hW.cell (p := ⟨g2, o2 + k, none⟩) (lt_of_cell x2).1 id).trans x2, (hW.frozen (p := ⟨g2, o2 + k, none⟩) (lt_of_cell x2).1 id).trans x2f⟩
    have hqb := hrow.bound
    have HRD := Lib.hid (fun W (hW : New w W) j (hj : j < mq) => ints_at (hrow.new (by decide) hW) j hj)
    have HRE := Lib.hid (hrow.of_kept (by decide) (Kept.refl (fun _ => False) w) (fun _ _ h => h))
    have HW := Lib.hid hw
    have HMM0 := Lib.hid hM
    have HV := Lib.hid hv
    have HQQ := Lib.hid hqq
    have HMQ := Lib.hid hmq
    have HN := Lib.hid hn
    have HHW := Lib.hid hHW
    have HML := Lib.hid hML
    clear hw hM hv hqq hmq hn hHW hML
    generalize L.set k (v, List.filter (fun x => x != p) q) = M at *
    clear hput hq hk1 hrow y1 x2 x2f e hQ
    go_enter Try.func31, Try.ntmps31
    go_wp2_with fail
    refine HW.out.mono ?_
    rintro e w' ⟨rfl, rfl⟩
    go_upto_region 4 with (fail)
    have hkA : New w (w.alloc (.cells #[] 3)) := (Kept.refl _ _).alloc _
    have HROWA := Lib.hid (show Row (w.alloc (.cells #[] 3)) 1 none (some ⟨w.heap.size, 0, none⟩) 0 0 [] from row_nil _ 1 _)
    generalize hwA : w.alloc (.cells #[] 3) = wA at *
    have HKA := Lib.hid hkA
    have HWA := Lib.hid hwA
    clear hkA hwA
    go_wp2_with fail
    go_loopw [7, 8] (fun s i wr => ∃ (j m : Nat) (r : Option Nat) (A : Option Addr) (c : Nat), j ≤ mq ∧ i = .int .i64 j ∧ s = .slice A m c ∧ m = ((q.take j).filter (fun x => x != p)).length ∧ Row wr 1 r A m c (((q.take j).filter (fun x => x != p)).map (Value.int .i64)) ∧ (∀ k, r = some k → w.heap.size ≤ k) ∧ New w wr) (fun _ i _ => (mq - intOf i).toNat)
    case atStart => exact ⟨0, 0, none, some ⟨w.heap.size, 0, none⟩, 0, Nat.zero_le _, rfl, rfl, rfl, HROWA.out, by simp, HKA.out⟩
    case round =>
      obtain ⟨j, m, r5, A5, c5, hj, rfl, rfl, hm, hr5, hf5, hnr⟩ := hrel
      obtain ⟨y1, x2, x2f⟩ := HHW.out wr hnr
      by_cases hlt : j < mq
      · obtain ⟨gq, oq, -, rfl, x0, -⟩ := HRD.out wr hnr j hlt
        have hstep := HF.out j hlt
        have hml : m ≤ j := by rw [hm]; exact HFL.out j
        have hb5 := hr5.bound
        generalize q.getD j 0 = v' at *
        have e2 : (0 : Int) ≤ (j : Int) := by omega
        have e3 : (j : Int) < (mq : Int) := by omega
        by_cases ho : v' = p
        · rw [if_pos ho, List.append_nil] at hstep
          have ho' : (v' != p) = false := by simpa using ho
          have HF5 := Lib.hid hf5
          have HSTEP := Lib.hid hstep
          have HM_ := Lib.hid hm
          have HNR := Lib.hid hnr
          have HR5 := Lib.hid hr5
          clear hf5 hstep hm hnr hr5
          clear ho
          go_wp2_with fail
          go_roundw
          case rel => exact ⟨j + 1, m, r5, A5, c5, by omega, by go_num, rfl, by rw [HSTEP.out]; exact HM_.out, by rw [HSTEP.out]; exact HR5.out, HF5.out, HNR.out⟩
          case measure => simp [intOf]; omega
        · rw [if_neg ho] at hstep
          have ho' : (v' != p) = true := by simpa using ho
          have HF5 := Lib.hid hf5
          have HSTEP := Lib.hid hstep
          have HM_ := Lib.hid hm
          have HNR := Lib.hid hnr
          have HR5 := Lib.hid hr5
          clear hf5 hstep hm hnr hr5
          clear ho
          go_wp2_with (at_builtin; refine wpList_append_one (cs := [.int .i64 v']) tyInts rfl (.tmp 44) (.tmp 55) rfl rfl HR5.out rfl rfl rfl (by simp [Value.oneCell']) (by unfold maxLen; omega) (by omega) ?_; intro r2 A2 c2' w2 hr2 hk2 hn2; have HR2 := Lib.hid hr2; have HK2 := Lib.hid hk2; have HN2 := Lib.hid hn2; clear hr2 hk2 hn2)
          go_roundw
          case rel =>
            refine ⟨j + 1, m + 1, r2, A2, c2', by omega, by go_num, rfl, by rw [HSTEP.out, List.length_append, ← HM_.out]; rfl, by rw [HSTEP.out, List.map_append]; exact HR2.out, fun k hk => ?_, HNR.out.step HK2.out fun k hk e => absurd (HF5.out k e) (Nat.not_le.2 hk)⟩
            rcases HN2.out k hk with e | e
            · exact HF5.out k e
            · exact Nat.le_trans HNR.out.size e
          case measure => simp [intOf]; omega
      · obtain rfl : j = mq := by omega
        rw [HFE.out] at hm hr5
        obtain ⟨hr1, hk1⟩ := HPUT.out wr r5 A5 c5 m hm hnr hr5 hf5
        have HR1 := Lib.hid hr1
        have HK1 := Lib.hid hk1
        have HF5 := Lib.hid hf5
        have HNR := Lib.hid hnr
        have HR5 := Lib.hid hr5
        have HM_ := Lib.hid hm
        clear hr1 hk1 hf5 hnr hr5 hm
        have e2 : (0 : Int) ≤ (j : Int) := by omega
        go_upto_region 10 with (fail)
        generalize hw1 : wr.setCell ⟨g2, o2 + k, none⟩ (.slice A5 m c5) = w1 at *
        clear y1 x2 x2f hw1
        go_upto_region 11 with (fail)
        have hk5 : New w1 (w1.alloc (.cells #[] 72)) := (Kept.refl _ _).alloc _
        have hrow5 : Row (w1.alloc (.cells #[] 72)) 2 none (some ⟨w1.heap.size, 0, none⟩) 0 0 [] := row_nil _ 2 _
        generalize w1.alloc (.cells #[] 72) = w5 at *
        have hhold5 := rholds_any (HR1.out.new hk5) p (by rw [HML.out]; omega)
        have hnb := rheld_le M p
        rw [HML.out] at hnb
        have HAT := Lib.hid (fun i (hi : i < (rheldL M p).length) => rheld_at M p i hi)
        have hres := HRES.out
        generalize rheldL M p = ns at *
        obtain ⟨m, hm⟩ : ∃ m, m = ns.length := ⟨_, rfl⟩
        rw [← hm] at hhold5 hnb HAT hres
        have ER := Lib.hid hres
        have HH5 := Lib.hid hhold5
        have HK5 := Lib.hid hk5
        have HROW5 := Lib.hid hrow5
        have HMM := Lib.hid hm
        clear hhold5 hk5 hrow5 hres hm HRES
        go_wp2_with fail
        refine HH5.out.mono ?_
        rintro e w6 ⟨r1, A1, c1, rfl, hr1, hf1, hn1⟩
        have hb1 := hr1.bound
        have hs1 := HK1.out.size
        have hs5 := HK5.out.size
        have HR6 := Lib.hid (HR1.out.new (HK5.out.trans hn1))
        have HK6 := Lib.hid (HK1.out.step (HK5.out.trans hn1) fun k _ h => h.elim)
        have HROW6 := Lib.hid (HROW5.out.new (by decide) hn1)
        have RD := Lib.hid (fun (wz : World) (h : Row wz 1 r1 A1 m c1 (ns.map (Value.int .i64))) (i : Nat) (hi : i < m) => ints_at h i hi)
        have F1 := Lib.hid (fun k (hk : r1 = some k) => show ¬ grow F w w1 k from fun h => by have := hf1 k hk; have := h.2; omega)
        have L1' := Lib.hid (fun k (hk : r1 = some k) => hr1.lt (by decide) k hk)
        have HR1' := Lib.hid hr1
        clear hr1 hf1 hn1 hs1 hs5
        go_wp2_with fail
        go_loopw [9, 11] (fun s i wr => ∃ (j : Nat) (r : Option Nat) (A : Option Addr) (c : Nat) (G : Nat → Prop), j ≤ m ∧ i = .int .i64 j ∧ s = .slice A j c ∧ Row wr 2 r A j c ((rhandTo M ns j).2.flatMap gvC) ∧ RAt wr b G (rhandTo M ns j).1 ∧ (∀ k, G k → F k ∨ w.heap.size ≤ k) ∧
          (∀ k, r1 = some k → ¬ G k) ∧ (∀ k, r = some k → ¬ G k ∧ w.heap.size ≤ k ∧ r1 ≠ some k) ∧ Row wr 1 r1 A1 m c1 (ns.map (Value.int .i64)) ∧ Kept F w wr) (fun _ i _ => (m - intOf i).toNat)
        case atStart => exact ⟨0, none, some ⟨w1.heap.size, 0, none⟩, 0, grow F w w1, Nat.zero_le _, rfl, rfl, HROW6.out, HR6.out, fun k hk => hk.1, F1.out, by simp, HR1'.out, HK6.out⟩
        case round =>
          obtain ⟨j, r, A, c, G, hj, rfl, rfl, hrow, hat, hG, hr1G, hrG, hr1q, hkq⟩ := hrel
          by_cases hlt : j < m
          · obtain ⟨g1, o1, hr1e, rfl, y1, -⟩ := RD.out wr hr1q j hlt
            obtain ⟨kk, hkk, hkl⟩ := HAT.out j hlt
            have hlk : kk < (rhandTo M ns j).1.length := by rw [rhandTo_len1]; exact hkl
            have hnl : kk < n := by rw [← HML.out]; exact hkl
            have hhand := hand_any hat kk hlk (rhandTo_le HQB.out ns j _ (List.getElem_mem hlk))
            have hgd : (rhandTo M ns j).1.getD kk (0, []) = (rhandTo M ns j).1[kk] := getD_nat _ _ _ hlk
            have hst1 : (rhandTo M ns (j + 1)).1 = (rhandTo M ns j).1.set kk (handAt (rhandTo M ns j).1[kk]) := by
              show List.set _ _ _ = _
              rw [hkk, Int.toNat_natCast, hgd]
            have hst2 : (rhandTo M ns (j + 1)).2 = (rhandTo M ns j).2 ++ [((kk : Int), (handAt (rhandTo M ns j).1[kk]).1)] := by
              show _ ++ _ = _
              rw [hkk, Int.toNat_natCast, hgd]
            have hset : ∃ (h : kk < (rhandTo M ns (j + 1)).1.length), ((rhandTo M ns (j + 1)).1[kk]'h).1 = (handAt (rhandTo M ns j).1[kk]).1 := by
              rw [hst1]; exact ⟨by rw [List.length_set]; exact hlk, by simp⟩
            have hjl1 : (rhandTo M ns (j + 1)).1.length = n := by rw [rhandTo_len1]; exact HML.out
            have hlr := hrow.lt (by decide)
            have hlr1 := hr1q.lt (by decide)
            have hb2 := hrow.bound
            rw [← hst1] at hhand
            rw [hkk] at y1
            generalize (handAt (rhandTo M ns j).1[kk]).1 = now at *
            generalize hmp : (rhandTo M ns (j + 1)).1 = M' at *
            have HMP := Lib.hid hmp
            have HROW := Lib.hid hrow
            have HG := Lib.hid hG
            have HR1G := Lib.hid hr1G
            have HRG := Lib.hid hrG
            have HR1Q := Lib.hid hr1q
            have HKQ := Lib.hid hkq
            have HHAND := Lib.hid hhand
            have HST2 := Lib.hid hst2
            have HJL1 := Lib.hid hjl1
            have HLR := Lib.hid hlr
            have HLR1 := Lib.hid hlr1
            have HSET := Lib.hid hset
            have HKK := Lib.hid hkk
            have HR1E := Lib.hid hr1e
            clear hat hrow hG hr1G hrG hr1q hkq hhand hst2 hlr hlr1 hset hgd hkk hkl hlk hst1 hmp hjl1 hr1e
            have e2 : (0 : Int) ≤ (j : Int) := by omega
            have e3 : (j : Int) < (m : Int) := by omega
            go_wp2_with fail
            refine HHAND.out.mono ?_
            rintro e w3 ⟨rfl, ha3, hk3⟩
            have hrow3 := HROW.out.of_kept (by decide) hk3 (fun k hk => (HRG.out k hk).1)
            have hr13 := HR1Q.out.of_kept (by decide) hk3 HR1G.out
            have hk3' : Kept F w w3 := HKQ.out.step hk3 fun k hk e => by
              rcases HG.out k e with h | h
              · exact h
              · omega
            obtain ⟨hs', hg'⟩ := HSET.out
            obtain ⟨g, o, co, z0, zb1, zb2, z1, -, hFg⟩ := ha3.own_here kk hs'
            have hfb := ha3.fb
            rw [hg'] at z1
            rw [HJL1.out] at z0 zb1
            clear hg' hs' y1
            obtain ⟨g1', o1', -, e1', y1, -⟩ := RD.out w3 hr13 j hlt
            obtain ⟨rfl, rfl⟩ : g1 = g1' ∧ o1 = o1' := by injection e1' with e1'; injection e1' with e1' e2'; exact ⟨e1', e2'⟩
            rw [HKK.out] at y1
            have f2 : (0 : Int) ≤ (kk : Int) := by omega
            have f3 : (kk : Int) < (n : Int) := by omega
            have rg : ∀ k, grow G wr w3 k → ¬ r = some k := fun k hk e => by
              rcases hk.1 with h | h
              · exact (HRG.out k e).1 h
              · have := HLR.out k e; omega
            have HSTAY := Lib.hid (fun w4 (hk4 : Kept (fun k => r = some k) w3.drew w4) => And.intro (((((Kept.refl (fun k => r = some k) w3).drew).trans hk4).cell (p := ⟨g1, o1 + j, none⟩) (lt_of_cell y1).1 (fun e => (HRG.out g1 e).2.2 HR1E.out)).trans y1) (And.intro (((((Kept.refl (fun k => r = some k) w3).drew).trans hk4).cell (p := ⟨b, 0, none⟩) (lt_of_cell z0).1 (rg b hfb)).trans z0) (((((Kept.refl (fun k => r = some k) w3).drew).trans hk4).cell (p := ⟨g, o + kk, none⟩) (lt_of_cell z1).1 (rg g hFg)).trans z1)))
            have HRGG := Lib.hid rg
            have HROW3 := Lib.hid hrow3
            have HR13 := Lib.hid hr13
            have HK3' := Lib.hid hk3'
            have HA3 := Lib.hid ha3
            have HK3 := Lib.hid hk3
            clear rg hrow3 hr13 hk3' ha3 hk3 e1' hfb hFg
            have ne1 := World.new_ne w3 _ y1
            have ne2 := World.new_ne w3 _ z0
            have ne3 := World.new_ne w3 _ z1
            go_upto_region 16 with (fail)
            go_region_held3 (fun W => W.cell? ⟨g1, o1 + j, none⟩ = some (.int .i64 kk) ∧ W.cell? ⟨b, 0, none⟩ = some (.slice (some ⟨g, o, none⟩) n co) ∧ W.cell? ⟨g, o + kk, none⟩ = some (.int .i64 now)) (first | (refine ⟨?_, ?_, ?_⟩ <;> assumption) | go_keep)
              ((refine step_append_one (W := w3.drew) (T := 72) (fr := (0, 0)) (cs := [.int .i64 kk, .int .i64 now]) tyGivenR (by rfl) (.tmp 80) (.tmp 96) (by rfl) (by rfl) (HROW3.out.new (by decide) ((Kept.refl _ _).drew)) (by rfl) (by rfl) (by rfl) (by rfl) (by simp [Value.oneCell']) (by unfold maxLen; omega) (by omega) ?_; intro r4 A4 c4 w4 hr4 hk4 hn4; obtain ⟨s1, s2, s3⟩ := HSTAY.out w4 hk4; have HR4 := Lib.hid hr4; have HK4 := Lib.hid (((Kept.refl (fun k => r = some k) w3).drew).trans hk4); have HN4 := Lib.hid hn4; clear hr4 hk4 hn4))
            go_wp2_with fail
            go_roundw
            case rel =>
              have hs3 := HK3.out.size
              refine ⟨j + 1, r4, A4, c4, grow G wr w3, by omega, by go_num, rfl, ?_, ?_, ?_, ?_, ?_, ?_, ?_⟩
              · rw [HST2.out, List.flatMap_append]; exact HR4.out
              · rw [HMP.out]
                exact HA3.out.kept HK4.out fun k hk e => HRGG.out k hk e
              · intro k hk
                rcases hk.1 with h | h
                · exact HG.out k h
                · exact .inr (Nat.le_trans HKQ.out.size h)
              · intro k hk e
                rcases e.1 with h | h
                · exact HR1G.out k hk h
                · have := HLR1.out k hk; omega
              · intro k hk
                rcases HN4.out k hk with h | h
                · refine ⟨fun e => HRGG.out k e h, (HRG.out k h).2⟩
                · have h' : w3.heap.size ≤ k := h
                  refine ⟨fun e => by have := e.2; omega, ?_, fun e => ?_⟩
                  · have := HKQ.out.size; omega
                  · have := HLR1.out k e; omega
              · exact HR13.out.of_kept (by decide) HK4.out fun k hk e => (HRG.out k e).2.2 hk
              · exact HK3'.out.step HK4.out fun k hk e => by have := (HRG.out k e).2.1; omega
            case measure => simp [intOf]; omega
          · obtain rfl : j = m := by omega
            have hjl := rhandTo_len M ns j
            have hend : REnded w b F res.1 res.2 (.returned (.slice A j c)) wr := by
              rw [ER.out]
              exact ⟨r, A, c, by rw [hjl], by rw [hjl]; exact hrow, fun k hk => (hrG k hk).2.1, G, hat, hG, fun k hk => (hrG k hk).1, hkq⟩
            have HEND := Lib.hid hend
            clear hrow hat hG hr1G hrG hr1q hkq hjl hend
            go_wp2_with fail
            go_ret
            exact HEND.out
  · have hM : rdropL L p = L := by unfold rdropL; rw [if_neg hq]
    rw [hM] at HRES
    have hq' : (waitAt L p).2 = false := by simpa using hq
    rw [hq'] at hw
    generalize (waitAt L p).1 = x at *
    have HQB := Lib.hid hQ
    obtain ⟨n, hn⟩ : ∃ n, n = L.length := ⟨_, rfl⟩
    have HML := Lib.hid hn.symm
    rw [← hn] at hL
    generalize hLM : L = M at *
    have HW := Lib.hid hw
    have HMM0 := Lib.hid hM
    have HN := Lib.hid hn
    have H := Lib.hid h
    clear hw hM hn h
    clear hq hq' hQ hLM
    go_enter Try.func31, Try.ntmps31
    go_wp2_with fail
    refine HW.out.mono ?_
    rintro e w1 ⟨rfl, hw1⟩
    have hkw : New w w1 := hw1 ▸ Kept.refl _ _
    have HR1 := Lib.hid (H.out.still hkw)
    have HK1 : Hid (Kept F w w1) := Lib.hid (hkw.mono fun _ _ h => h.elim)
    clear hw1 hkw
    go_upto_region 10 with (fail)
    go_upto_region 11 with (fail)
    have hk5 : New w1 (w1.alloc (.cells #[] 72)) := (Kept.refl _ _).alloc _
    have hrow5 : Row (w1.alloc (.cells #[] 72)) 2 none (some ⟨w1.heap.size, 0, none⟩) 0 0 [] := row_nil _ 2 _
    generalize w1.alloc (.cells #[] 72) = w5 at *
    have hhold5 := rholds_any (HR1.out.new hk5) p (by rw [HML.out]; omega)
    have hnb := rheld_le M p
    rw [HML.out] at hnb
    have HAT := Lib.hid (fun i (hi : i < (rheldL M p).length) => rheld_at M p i hi)
    have hres := HRES.out
    generalize rheldL M p = ns at *
    obtain ⟨m, hm⟩ : ∃ m, m = ns.length := ⟨_, rfl⟩
    rw [← hm] at hhold5 hnb HAT hres
    have ER := Lib.hid hres
    have HH5 := Lib.hid hhold5
    have HK5 := Lib.hid hk5
    have HROW5 := Lib.hid hrow5
    have HMM := Lib.hid hm
    clear hhold5 hk5 hrow5 hres hm HRES
    go_wp2_with fail
    refine HH5.out.mono ?_
    rintro e w6 ⟨r1, A1, c1, rfl, hr1, hf1, hn1⟩
    have hb1 := hr1.bound
    have hs1 := HK1.out.size
    have hs5 := HK5.out.size
    have HR6 := Lib.hid (HR1.out.new (HK5.out.trans hn1))
    have HK6 := Lib.hid (HK1.out.step (HK5.out.trans hn1) fun k _ h => h.elim)
    have HROW6 := Lib.hid (HROW5.out.new (by decide) hn1)
    have RD := Lib.hid (fun (wz : World) (h : Row wz 1 r1 A1 m c1 (ns.map (Value.int .i64))) (i : Nat) (hi : i < m) => ints_at h i hi)
    have F1 := Lib.hid (fun k (hk : r1 = some k) => show ¬ grow F w w1 k from fun h => by have := hf1 k hk; have := h.2; omega)
    have L1' := Lib.hid (fun k (hk : r1 = some k) => hr1.lt (by decide) k hk)
    have HR1' := Lib.hid hr1
    clear hr1 hf1 hn1 hs1 hs5
    go_wp2_with fail
    go_loopw [9, 11] (fun s i wr => ∃ (j : Nat) (r : Option Nat) (A : Option Addr) (c : Nat) (G : Nat → Prop), j ≤ m ∧ i = .int .i64 j ∧ s = .slice A j c ∧ Row wr 2 r A j c ((rhandTo M ns j).2.flatMap gvC) ∧ RAt wr b G (rhandTo M ns j).1 ∧ (∀ k, G k → F k ∨ w.heap.size ≤ k) ∧
      (∀ k, r1 = some k → ¬ G k) ∧ (∀ k, r = some k → ¬ G k ∧ w.heap.size ≤ k ∧ r1 ≠ some k) ∧ Row wr 1 r1 A1 m c1 (ns.map (Value.int .i64)) ∧ Kept F w wr) (fun _ i _ => (m - intOf i).toNat)
    case atStart => exact ⟨0, none, some ⟨w1.heap.size, 0, none⟩, 0, grow F w w1, Nat.zero_le _, rfl, rfl, HROW6.out, HR6.out, fun k hk => hk.1, F1.out, by simp, HR1'.out, HK6.out⟩
    case round =>
      obtain ⟨j, r, A, c, G, hj, rfl, rfl, hrow, hat, hG, hr1G, hrG, hr1q, hkq⟩ := hrel
      by_cases hlt : j < m
      · obtain ⟨g1, o1, hr1e, rfl, y1, -⟩ := RD.out wr hr1q j hlt
        obtain ⟨kk, hkk, hkl⟩ := HAT.out j hlt
        have hlk : kk < (rhandTo M ns j).1.length := by rw [rhandTo_len1]; exact hkl
        have hnl : kk < n := by rw [← HML.out]; exact hkl
        have hhand := hand_any hat kk hlk (rhandTo_le HQB.out ns j _ (List.getElem_mem hlk))
        have hgd : (rhandTo M ns j).1.getD kk (0, []) = (rhandTo M ns j).1[kk] := getD_nat _ _ _ hlk
        have hst1 : (rhandTo M ns (j + 1)).1 = (rhandTo M ns j).1.set kk (handAt (rhandTo M ns j).1[kk]) := by
          show List.set _ _ _ = _
          rw [hkk, Int.toNat_natCast, hgd]
        have hst2 : (rhandTo M ns (j + 1)).2 = (rhandTo M ns j).2 ++ [((kk : Int), (handAt (rhandTo M ns j).1[kk]).1)] := by
          show _ ++ _ = _
          rw [hkk, Int.toNat_natCast, hgd]
        have hset : ∃ (h : kk < (rhandTo M ns (j + 1)).1.length), ((rhandTo M ns (j + 1)).1[kk]'h).1 = (handAt (rhandTo M ns j).1[kk]).1 := by
          rw [hst1]; exact ⟨by rw [List.length_set]; exact hlk, by simp⟩
        have hjl1 : (rhandTo M ns (j + 1)).1.length = n := by rw [rhandTo_len1]; exact HML.out
        have hlr := hrow.lt (by decide)
        have hlr1 := hr1q.lt (by decide)
        have hb2 := hrow.bound
        rw [← hst1] at hhand
        rw [hkk] at y1
        generalize (handAt (rhandTo M ns j).1[kk]).1 = now at *
        generalize hmp : (rhandTo M ns (j + 1)).1 = M' at *
        have HMP := Lib.hid hmp
        have HROW := Lib.hid hrow
        have HG := Lib.hid hG
        have HR1G := Lib.hid hr1G
        have HRG := Lib.hid hrG
        have HR1Q := Lib.hid hr1q
        have HKQ := Lib.hid hkq
        have HHAND := Lib.hid hhand
        have HST2 := Lib.hid hst2
        have HJL1 := Lib.hid hjl1
        have HLR := Lib.hid hlr
        have HLR1 := Lib.hid hlr1
        have HSET := Lib.hid hset
        have HKK := Lib.hid hkk
        have HR1E := Lib.hid hr1e
        clear hat hrow hG hr1G hrG hr1q hkq hhand hst2 hlr hlr1 hset hgd hkk hkl hlk hst1 hmp hjl1 hr1e
        have e2 : (0 : Int) ≤ (j : Int) := by omega
        have e3 : (j : Int) < (m : Int) := by omega
        go_wp2_with fail
        refine HHAND.out.mono ?_
        rintro e w3 ⟨rfl, ha3, hk3⟩
        have hrow3 := HROW.out.of_kept (by decide) hk3 (fun k hk => (HRG.out k hk).1)
        have hr13 := HR1Q.out.of_kept (by decide) hk3 HR1G.out
        have hk3' : Kept F w w3 := HKQ.out.step hk3 fun k hk e => by
          rcases HG.out k e with h | h
          · exact h
          · omega
        obtain ⟨hs', hg'⟩ := HSET.out
        obtain ⟨g, o, co, z0, zb1, zb2, z1, -, hFg⟩ := ha3.own_here kk hs'
        have hfb := ha3.fb
        rw [hg'] at z1
        rw [HJL1.out] at z0 zb1
        clear hg' hs' y1
        obtain ⟨g1', o1', -, e1', y1, -⟩ := RD.out w3 hr13 j hlt
        obtain ⟨rfl, rfl⟩ : g1 = g1' ∧ o1 = o1' := by injection e1' with e1'; injection e1' with e1' e2'; exact ⟨e1', e2'⟩
        rw [HKK.out] at y1
        have f2 : (0 : Int) ≤ (kk : Int) := by omega
        have f3 : (kk : Int) < (n : Int) := by omega
        have rg : ∀ k, grow G wr w3 k → ¬ r = some k := fun k hk e => by
          rcases hk.1 with h | h
          · exact (HRG.out k e).1 h
          · have := HLR.out k e; omega
        have HSTAY := Lib.hid (fun w4 (hk4 : Kept (fun k => r = some k) w3.drew w4) => And.intro (((((Kept.refl (fun k => r = some k) w3).drew).trans hk4).cell (p := ⟨g1, o1 + j, none⟩) (lt_of_cell y1).1 (fun e => (HRG.out g1 e).2.2 HR1E.out)).trans y1) (And.intro (((((Kept.refl (fun k => r = some k) w3).drew).trans hk4).cell (p := ⟨b, 0, none⟩) (lt_of_cell z0).1 (rg b hfb)).trans z0) (((((Kept.refl (fun k => r = some k) w3).drew).trans hk4).cell (p := ⟨g, o + kk, none⟩) (lt_of_cell z1).1 (rg g hFg)).trans z1)))
        have HRGG := Lib.hid rg
        have HROW3 := Lib.hid hrow3
        have HR13 := Lib.hid hr13
        have HK3' := Lib.hid hk3'
        have HA3 := Lib.hid ha3
        have HK3 := Lib.hid hk3
        clear rg hrow3 hr13 hk3' ha3 hk3 e1' hfb hFg
        have ne1 := World.new_ne w3 _ y1
        have ne2 := World.new_ne w3 _ z0
        have ne3 := World.new_ne w3 _ z1
        go_upto_region 16 with (fail)
        go_region_held3 (fun W => W.cell? ⟨g1, o1 + j, none⟩ = some (.int .i64 kk) ∧ W.cell? ⟨b, 0, none⟩ = some (.slice (some ⟨g, o, none⟩) n co) ∧ W.cell? ⟨g, o + kk, none⟩ = some (.int .i64 now)) (first | (refine ⟨?_, ?_, ?_⟩ <;> assumption) | go_keep)
          ((refine step_append_one (W := w3.drew) (T := 72) (fr := (0, 0)) (cs := [.int .i64 kk, .int .i64 now]) tyGivenR (by rfl) (.tmp 80) (.tmp 96) (by rfl) (by rfl) (HROW3.out.new (by decide) ((Kept.refl _ _).drew)) (by rfl) (by rfl) (by rfl) (by rfl) (by simp [Value.oneCell']) (by unfold maxLen; omega) (by omega) ?_; intro r4 A4 c4 w4 hr4 hk4 hn4; obtain ⟨s1, s2, s3⟩ := HSTAY.out w4 hk4; have HR4 := Lib.hid hr4; have HK4 := Lib.hid (((Kept.refl (fun k => r = some k) w3).drew).trans hk4); have HN4 := Lib.hid hn4; clear hr4 hk4 hn4))
        go_wp2_with fail
        go_roundw
        case rel =>
          have hs3 := HK3.out.size
          refine ⟨j + 1, r4, A4, c4, grow G wr w3, by omega, by go_num, rfl, ?_, ?_, ?_, ?_, ?_, ?_, ?_⟩
          · rw [HST2.out, List.flatMap_append]; exact HR4.out
          · rw [HMP.out]
            exact HA3.out.kept HK4.out fun k hk e => HRGG.out k hk e
          · intro k hk
            rcases hk.1 with h | h
            · exact HG.out k h
            · exact .inr (Nat.le_trans HKQ.out.size h)
          · intro k hk e
            rcases e.1 with h | h
            · exact HR1G.out k hk h
            · have := HLR1.out k hk; omega
          · intro k hk
            rcases HN4.out k hk with h | h
            · refine ⟨fun e => HRGG.out k e h, (HRG.out k h).2⟩
            · have h' : w3.heap.size ≤ k := h
              refine ⟨fun e => by have := e.2; omega, ?_, fun e => ?_⟩
              · have := HKQ.out.size; omega
              · have := HLR1.out k e; omega
          · exact HR13.out.of_kept (by decide) HK4.out fun k hk e => (HRG.out k e).2.2 hk
          · exact HK3'.out.step HK4.out fun k hk e => by have := (HRG.out k e).2.1; omega
        case measure => simp [intOf]; omega
      · obtain rfl : j = m := by omega
        have hjl := rhandTo_len M ns j
        have hend : REnded w b F res.1 res.2 (.returned (.slice A j c)) wr := by
          rw [ER.out]
          exact ⟨r, A, c, by rw [hjl], by rw [hjl]; exact hrow, fun k hk => (hrG k hk).2.1, G, hat, hG, fun k hk => (hrG k hk).1, hkq⟩
        have HEND := Lib.hid hend
        clear hrow hat hG hr1G hrG hr1q hkq hjl hend
        go_wp2_with fail
        go_ret
        exact HEND.out
end Go.Proofs.Ytjjlemkmdldljaa.Locks
