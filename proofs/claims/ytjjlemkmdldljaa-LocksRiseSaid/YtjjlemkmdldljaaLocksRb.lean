/- The walk of the law's straight (layer 12). -/
import Derived.Test.YtjjlemkmdldljaaLocksRa
import Derived.Test.YtjjlemkmdldljaaLocksQ
import Derived.Test.YtjjlemkmdldljaaMapI
namespace Go.Proofs.Ytjjlemkmdldljaa.Locks
open Go.RowKit Go.Fb
set_option linter.unusedVariables false
def Nx (L : List (Int × List Int)) (k i : Nat) (f : Int → Option Int) : Prop := ∀ q v, f q = some v ↔ ∃ a, ∃ (ha : a < L.length), v = L[a].1 ∧ ((a < k ∧ q ∈ L[a].2) ∨ (a = k ∧ q ∈ L[a].2.take i))
theorem Nx.start (L : List (Int × List Int)) : Nx L 0 0 (fun _ => none) := by
  intro q v
  constructor
  · intro h; cases h
  · rintro ⟨a, ha, _, h⟩
    rcases h with h | h
    · omega
    · simp at h
theorem Nx.next {L : List (Int × List Int)} {k : Nat} {f : Int → Option Int} (hk : k < L.length) (h : Nx L k L[k].2.length f) : Nx L (k + 1) 0 f := fun q v => by
  rw [h q v]
  constructor
  · rintro ⟨a, ha, e, h⟩
    refine ⟨a, ha, e, .inl ?_⟩
    rcases h with h | ⟨rfl, h⟩
    · exact ⟨by omega, h.2⟩
    · exact ⟨by omega, List.mem_of_mem_take h⟩
  · rintro ⟨a, ha, e, h⟩
    refine ⟨a, ha, e, ?_⟩
    rcases h with h | h
    · by_cases g : a = k
      · subst g; exact .inr ⟨rfl, by rw [List.take_length]; exact h.2⟩
      · exact .inl ⟨by omega, h.2⟩
    · simp at h
theorem Nx.put {L : List (Int × List Int)} {B k i : Nat} {f : Int → Option Int} (hr : Inv B L) (hk : k < L.length) (hi : i < L[k].2.length) (h : Nx L k i f) : Nx L k (i + 1) (fun y => if y = L[k].2[i] then some L[k].1 else f y) := fun q v => by
  dsimp only
  have ht : ∀ y, y ∈ L[k].2.take (i + 1) ↔ y ∈ L[k].2.take i ∨ y = L[k].2[i] := fun y => by
    rw [List.take_succ_eq_append_getElem hi, List.mem_append, List.mem_singleton]
  by_cases g : q = L[k].2[i]
  · rw [if_pos g]
    constructor
    · intro e
      injection e with e
      exact ⟨k, hk, e.symm, .inr ⟨rfl, (ht q).2 (.inr g)⟩⟩
    · rintro ⟨a, ha, e, h'⟩
      have hm : q ∈ L[k].2 := by rw [g]; exact List.getElem_mem hi
      have : a = k := by
        rcases h' with h' | h'
        · by_cases g' : a = k
          · exact g'
          · exact absurd h'.2 (hr.apart k a hk ha (Ne.symm g') q hm)
        · exact h'.1
      subst this
      rw [e]
  · rw [if_neg g, h q v]
    constructor
    · rintro ⟨a, ha, e, h'⟩
      refine ⟨a, ha, e, h'.imp id fun ⟨e1, e2⟩ => ⟨e1, ?_⟩⟩
      subst e1
      exact (ht q).2 (.inl e2)
    · rintro ⟨a, ha, e, h'⟩
      refine ⟨a, ha, e, h'.imp id fun ⟨e1, e2⟩ => ⟨e1, ?_⟩⟩
      subst e1
      exact ((ht q).1 e2).resolve_right g
/-- Who comes next stands higher. -/
theorem Nx.rises {L : List (Int × List Int)} {B : Nat} {f : Int → Option Int} (hr : Rise B L) (h : Nx L L.length 0 f) {a : Nat} (ha : a < L.length) {v : Int} (hv : f L[a].1 = some v) : ∃ c, ∃ (hc : c < L.length), v = L[c].1 ∧ a < c := by
  obtain ⟨c, hc, e, h'⟩ := (h _ _).1 hv
  refine ⟨c, hc, e, ?_⟩
  rcases h' with h' | h'
  · exact hr.up c a hc ha h'.2
  · simp at h'
set_option maxHeartbeats 4000000 in
theorem straight_any {B0 B n : Nat} {w : World} {ro : Option Nat} {Ao : Option Addr} {co : Nat} {rq : Option Nat} {Aq : Option Addr} {cq : Nat} {Y : List Lk} {L : List (Int × List Int)} (ht : Told B0 w n n ro Ao co rq Aq cq (L.map (·.1)) Y) (hY : Y.map (·.q) = L.map (·.2)) (hl : n = L.length) (hr : Rise B L) (hB : B ≤ 1048576) :
    Calls Try.prog 16 #[.slice Ao n co, .slice Aq n cq] w fun e w' => e = .returned (.bool true) ∧ New w w' := by
  have hn8 : n ≤ 8 := by rw [hl]; exact hr.inv.len
  have hbo := ht.ow.bound
  have hbq := ht.qu.bound
  have HOW : Hid (∀ W, New w W → ∀ j (hj : j < n), ∃ g o, ∃ (hjL : j < L.length), Ao = some ⟨g, o, none⟩ ∧ W.cell? ⟨g, o + j, none⟩ = some (.int .i64 L[j].1)) := Lib.hid fun W hW j hj => by
    obtain ⟨g, o, _, e, h, _⟩ := ints_at (ht.new hW).ow j hj
    have hjL : j < L.length := by omega
    rw [map_own_getD L j hjL] at h
    exact ⟨g, o, hjL, e, h⟩
  have HQU : Hid (∀ W, New w W → ∀ j (hj : j < n), ∃ g o A c r, ∃ (hjL : j < L.length), Aq = some ⟨g, o, none⟩ ∧ W.cell? ⟨g, o + j, none⟩ = some (.slice A L[j].2.length c) ∧ Row W 1 r A L[j].2.length c (L[j].2.map (Value.int .i64)) ∧ ∀ W', New w W' → W'.cell? ⟨g, o + j, none⟩ = some (.slice A L[j].2.length c) ∧ Row W' 1 r A L[j].2.length c (L[j].2.map (Value.int .i64))) := Lib.hid fun W hW j hj => by
    obtain ⟨hjL, hjY, hqe⟩ := ht.queue_at hY hl j hj
    obtain ⟨g, o, _, e, h, _⟩ := qu_at ht.qu j hj hjY
    have hrow := ht.el _ (List.getElem_mem hjY)
    rw [hqe] at h hrow
    have hall : ∀ W', New w W' → W'.cell? ⟨g, o + j, none⟩ = some (.slice Y[j].A L[j].2.length Y[j].c) ∧ Row W' 1 Y[j].r Y[j].A L[j].2.length Y[j].c (L[j].2.map (Value.int .i64)) := fun W' hW' => ⟨(hW'.cell (p := ⟨g, o + j, none⟩) (lt_of_cell h).1 id).trans h, hrow.new (by decide) hW'⟩
    exact ⟨g, o, _, _, _, hjL, e, (hall W hW).1, (hall W hW).2, hall⟩
  have hmap := MapF.made (P := Try.prog) (K := 3) (E := 3) w
  have hkm : New w (w.alloc (.map #[] 0)) := (Kept.refl _ _).alloc _
  have hmm := @run_makeMap Try.prog
  have hwrap : IntKind.i64.wrap ((n : Int) + 1) = (n : Int) + 1 := IntWalk.i64_in _ (by omega)
  have HL := Lib.hid hl
  have HR := Lib.hid hr
  have HMAP := Lib.hid hmap
  have HKM := Lib.hid hkm
  have HWRAP := Lib.hid hwrap
  clear hl hr hmap hkm hwrap
  clear ht hY
  go_enter Try.func16, Try.ntmps16
  go_upto_region 2 with (fail)
  generalize w.alloc (.map #[] 0) = w1 at *
  clear hmm
  generalize hbm : w.heap.size = bm at *
  have HBM : Hid (w.heap.size ≤ bm) := Lib.hid (Nat.le_of_eq hbm)
  clear hbm
  go_wp2_with fail
  go_loopw [6] (fun s wr => ∃ (k N : Nat) (f : Int → Option Int), k ≤ n ∧ s = .int .i64 k ∧ New w wr ∧ MapF Try.prog 3 3 wr bm N f ∧ N ≤ k * B ∧ Nx L k 0 f) (fun s _ => (n - intOf s).toNat)
  case atStart => exact ⟨0, 0, _, Nat.zero_le _, rfl, HKM.out, HMAP.out, by omega, Nx.start L⟩
  case round =>
    obtain ⟨k, N, f, hk, rfl, hnr, hmp, hN, hnx⟩ := hrel
    by_cases hlt : k < n
    · obtain ⟨gq, oq, A, c, r, hkL, rfl, x0, hrow, hall⟩ := HQU.out wr hnr k hlt
      obtain ⟨go, oo, _, rfl, y0⟩ := HOW.out wr hnr k hlt
      have hlen := HR.out.inv.sml _ (List.getElem_mem hkL)
      have hbr := hrow.bound
      have HPUT := Lib.hid (fun i f (hi : i < L[k].2.length) (h : Nx L k i f) => show Nx L k (i + 1) (fun y => if y = L[k].2.getD i 0 then some L[k].1 else f y) from by rw [getD_nat _ _ _ hi]; exact Nx.put HR.out.inv hkL hi h)
      have HNEXT := Lib.hid (fun f (h : Nx L k L[k].2.length f) => Nx.next hkL h)
      have HWF := Lib.hid (And.intro (HR.out.rg _ (List.getElem_mem hkL)).1 (fun i (hi : i < L[k].2.length) => show wfI (L[k].2.getD i 0) from by rw [getD_nat _ _ _ hi]; exact (HR.out.rg _ (List.getElem_mem hkL)).2 _ (List.getElem_mem hi)))
      have HYY := Lib.hid (fun W' (hW : New w W') => show W'.cell? ⟨go, oo + k, none⟩ = some (.int .i64 L[k].1) from by
        obtain ⟨go', oo', _, e, h⟩ := HOW.out W' hW k hlt
        injection e with e
        injection e with e1 e2
        subst e1; subst e2
        exact h)
      have HALL := Lib.hid hall
      generalize L[k].1 = ow at *
      generalize L[k].2 = q at *
      obtain ⟨m, hm⟩ : ∃ m, m = q.length := ⟨_, rfl⟩
      rw [← hm] at x0 hrow hlen hbr HPUT HNEXT HWF HALL
      have e2 : (0 : Int) ≤ (k : Int) := by omega
      have e3 : (k : Int) < (n : Int) := by omega
      have HNR := Lib.hid hnr
      have HMP := Lib.hid hmp
      have HNX := Lib.hid hnx
      have HM := Lib.hid hm
      have HROW := Lib.hid hrow
      have HNN := Lib.hid hN
      clear hnr hmp hnx hm hrow hN
      clear hall x0 y0
      go_wp2_with fail
      go_loopw [7] (fun s wr => ∃ (i N : Nat) (f : Int → Option Int), i ≤ m ∧ s = .int .i64 i ∧ New w wr ∧ MapF Try.prog 3 3 wr bm N f ∧ N ≤ k * B + i ∧ Nx L k i f) (fun s _ => (m - intOf s).toNat)
      case atStart => exact ⟨0, N, f, Nat.zero_le _, rfl, HNR.out, HMP.out, by have := HNN.out; omega, HNX.out⟩
      case round =>
        obtain ⟨i, N2, f2, hi, rfl, hnr2, hmp2, hN2, hnx2⟩ := hrel
        obtain ⟨x0, hrow2⟩ := HALL.out wr hnr2
        by_cases hli : i < m
        · obtain ⟨gy, oy, -, rfl, x1, -⟩ := ints_at hrow2 i hli
          have y0 := HYY.out wr hnr2
          have hkB : k * B ≤ 8 * 1048576 := Nat.mul_le_mul (by omega) hB
          obtain ⟨w5, hup, hmp5, hk5⟩ := (hmp2.new ((Kept.refl _ wr).drew)).update (T := 69) Try.underlying69 Try.underlying3 Try.underlying3 (by unfold maxLen; omega) (HWF.out.2 i hli) HWF.out.1
          have hn5 : New w w5 := hnr2.drew.step hk5 fun j hj e => by have := HBM.out; omega
          obtain ⟨z0, hrow5⟩ := HALL.out w5 hn5
          obtain ⟨gy', oy', -, e, z1, -⟩ := ints_at hrow5 i hli
          obtain ⟨rfl, rfl⟩ : gy = gy' ∧ oy = oy' := by injection e with e; injection e with e1 e2; exact ⟨e1, e2⟩
          have z2 := HYY.out w5 hn5
          have hnx5 := HPUT.out i f2 hli hnx2
          generalize (fun y => if y = q.getD i 0 then some ow else f2 y) = f5 at *
          generalize q.getD i 0 = qi at *
          have f2' : (0 : Int) ≤ (i : Int) := by omega
          have f3 : (i : Int) < (m : Int) := by omega
          have HNR2 := Lib.hid hnr2
          have HMP2 := Lib.hid hmp2
          have HNX2 := Lib.hid hnx2
          have HROW2 := Lib.hid hrow2
          have HROW5 := Lib.hid hrow5
          have HMP5 := Lib.hid hmp5
          have HK5 := Lib.hid hk5
          have HN5 := Lib.hid hn5
          have HNX5 := Lib.hid hnx5
          have HKB := Lib.hid hkB
          clear hnr2 hmp2 hnx2 hrow2 hrow5 hmp5 hk5 hn5 hnx5 hkB
          clear e
          go_upto_region 8 with (fail)
          go_region_held3 (fun W => W.cell? ⟨gq, oq + k, none⟩ = some (.slice (some ⟨gy, oy, none⟩) m c) ∧ W.cell? ⟨gy, oy + i, none⟩ = some (.int .i64 qi) ∧ W.cell? ⟨go, oo + k, none⟩ = some (.int .i64 ow)) (first | (refine ⟨?_, ?_, ?_⟩ <;> assumption) | go_keep) (fail)
          go_wp2_with fail
          go_roundw
          case rel => exact ⟨i + 1, N2 + 1, f5, by omega, by go_num, HN5.out, HMP5.out, by omega, HNX5.out⟩
          case measure => simp [intOf]; omega
        · obtain rfl : i = m := by omega
          have hnx5 := HNEXT.out f2 hnx2
          have hN5 : N2 ≤ (k + 1) * B := by rw [Nat.add_mul]; omega
          have HNR2 := Lib.hid hnr2
          have HMP2 := Lib.hid hmp2
          have HNX5 := Lib.hid hnx5
          have HN5 := Lib.hid hN5
          clear hnr2 hmp2 hnx5 hN5
          clear hrow2 hnx2
          go_wp2_with fail
          go_roundw
          case rel => exact ⟨k + 1, N2, f2, by omega, by go_num, HNR2.out, HMP2.out, HN5.out, HNX5.out⟩
          case measure => simp [intOf]; omega
    · obtain rfl : k = n := by omega
      have HLOOK : Hid (∀ a (ha : a < L.length), ∃ c, (Instr.lookup 69 (.map (some bm)) (.int .i64 L[a].1) true).run Try.prog wr = .ok (.tuple #[.int .i64 c, .bool (f L[a].1).isSome]) wr ∧ ((f L[a].1).isSome = true → ∃ e, ∃ (he : e < L.length), c = L[e].1 ∧ a < e)) := Lib.hid fun a ha => by
        obtain ⟨c, h1, h2⟩ := hmp.look (T := 69) Try.underlying69 Try.underlying3 Try.underlying3 (fun W => by kernel_rfl) (HR.out.rg _ (List.getElem_mem ha)).1
        refine ⟨c, h1, fun hs => ?_⟩
        obtain ⟨v, hv⟩ := Option.isSome_iff_exists.1 hs
        rw [HL.out] at hnx
        obtain ⟨e, he, e1, e2⟩ := hnx.rises HR.out ha hv
        exact ⟨e, he, (h2 v hv).trans e1, e2⟩
      have HOW2 := Lib.hid (fun j (hj : j < k) => HOW.out wr hnr j hj)
      have hwr := HWRAP.out
      have HNR := Lib.hid hnr
      clear hnr
      clear hmp hnx hN
      go_wp2_with fail
      go_loop [8] (fun s => ∃ j : Nat, j ≤ k ∧ s = .int .i64 j) (fun s => (k - intOf s).toNat)
      case atStart => exact ⟨0, Nat.zero_le _, rfl⟩
      case round =>
        obtain ⟨j, hj, rfl⟩ := hrel
        by_cases hlj : j < k
        · obtain ⟨go, oo, hjL, rfl, y0⟩ := HOW2.out j hlj
          have e2 : (0 : Int) ≤ (j : Int) := by omega
          have e3 : (j : Int) < (k : Int) := by omega
          go_wp2_with fail
          go_loop [9, 10] (fun s t => ∃ a i : Nat, ∃ (ha : a < L.length), s = .int .i64 L[a].1 ∧ t = .int .i64 i ∧ i ≤ a) (fun _ t => (10 - intOf t).toNat)
          case atStart => exact ⟨j, 0, hjL, rfl, rfl, Nat.zero_le _⟩
          case round =>
            obtain ⟨a, i, ha, rfl, rfl, hia⟩ := hrel
            obtain ⟨c, hrun, hnext⟩ := HLOOK.out a ha
            have hak : a < k := by have := HL.out; omega
            have f3 : (i : Int) ≤ (k : Int) + 1 := by omega
            generalize (f L[a].1).isSome = is at *
            generalize L[a].1 = la at *
            cases is with
            | false =>
              clear hnext
              go_wp2_with fail
              go_round
              case rel => exact ⟨j + 1, by omega, by go_num⟩
              case measure => simp [intOf]; omega
            | true =>
              have HE := Lib.hid (hnext rfl)
              clear hnext
              go_wp2_with fail
              go_round
              case rel =>
                obtain ⟨e, he, hc, hae⟩ := HE.out
                exact ⟨e, i + 1, he, by rw [hc], by go_num, by omega⟩
              case measure => simp [intOf]; omega
        · obtain rfl : j = k := by omega
          go_wp2_with fail
          go_ret
          exact ⟨rfl, HNR.out⟩
end Go.Proofs.Ytjjlemkmdldljaa.Locks
