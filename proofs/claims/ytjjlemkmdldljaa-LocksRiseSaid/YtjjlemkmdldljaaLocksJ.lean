/- The walk of package locks' State (layer 12). -/
import Derived.Test.YtjjlemkmdldljaaLocksH
namespace Go.Proofs.Ytjjlemkmdldljaa.Locks
open Go.RowKit Go.Fb
set_option linter.unusedVariables false
def slC (y : Lk) : Value := .slice y.A y.q.length y.c
/-- What State tells: owners and queues in memory that is new since B, each list in its own. -/
structure Told (B : Nat) (w : World) (no nq : Nat) (ro : Option Nat) (Ao : Option Addr) (co : Nat) (rq : Option Nat) (Aq : Option Addr) (cq : Nat) (os : List Int) (Y : List Lk) : Prop where
  ow : Row w 1 ro Ao no co (os.map (Value.int .i64))
  qu : Row w 1 rq Aq nq cq (Y.map slC)
  el : ∀ y ∈ Y, Row w 1 y.r y.A y.q.length y.c (y.q.map (Value.int .i64))
  fo : ∀ k, ro = some k → B ≤ k
  fq : ∀ k, rq = some k → B ≤ k
  fe : ∀ y ∈ Y, ∀ k, y.r = some k → B ≤ k
  d1 : ∀ k, ro = some k → rq ≠ some k
  d2 : ∀ y ∈ Y, ∀ k, y.r = some k → ro ≠ some k ∧ rq ≠ some k
  d3 : ∀ i j (hi : i < Y.length) (hj : j < Y.length), i ≠ j → ∀ k, Y[i].r = some k → Y[j].r ≠ some k
theorem tyQueues : SliceTy Try.prog 36 35 1 24 := by
  obtain ⟨i, hi, hz, hs, hb⟩ := info_parts (P := Try.prog) (e := 35) (z := .slice none 0 0) (size := 1) (bytes := 24) (by kernel_rfl)
  exact ⟨Try.underlying36, ⟨i, _, hi, hz, hs, hb, rfl⟩, by decide⟩
section
variable {B : Nat} {w w' : World} {no nq : Nat} {ro : Option Nat} {Ao : Option Addr} {co : Nat} {rq : Option Nat} {Aq : Option Addr} {cq : Nat} {os : List Int} {Y : List Lk}
theorem Told.new (h : Told B w no nq ro Ao co rq Aq cq os Y) (hk : New w w') : Told B w' no nq ro Ao co rq Aq cq os Y :=
  ⟨h.ow.new (by decide) hk, h.qu.new (by decide) hk, fun y hy => (h.el y hy).new (by decide) hk, h.fo, h.fq, h.fe, h.d1, h.d2, h.d3⟩
theorem Told.push_own (h : Told B w no nq ro Ao co rq Aq cq os Y) (hB : B ≤ w.heap.size) {r' : Option Nat} {A' : Option Addr} {c' : Nat} {v : Int} (hrow : Row w' 1 r' A' (no + 1) c' (os.map (Value.int .i64) ++ [.int .i64 v])) (hk : Kept (fun k => ro = some k) w w') (hr : ∀ k, r' = some k → ro = some k ∨ w.heap.size ≤ k) :
    Told B w' (no + 1) nq r' A' c' rq Aq cq (os ++ [v]) Y := by
  have lq := h.qu.lt (by decide)
  have le : ∀ y ∈ Y, ∀ k, y.r = some k → k < w.heap.size := fun y hy k hk => (h.el y hy).lt (by decide) k hk
  refine ⟨by rw [List.map_append]; exact hrow, h.qu.of_kept (by decide) hk (fun k e e' => h.d1 k e' e), fun y hy => (h.el y hy).of_kept (by decide) hk (fun k e => (h.d2 y hy k e).1), ?_, h.fq, h.fe, ?_, ?_, h.d3⟩
  · intro k e
    rcases hr k e with e | e
    · exact h.fo k e
    · omega
  · intro k e e'
    rcases hr k e with e | e
    · exact h.d1 k e e'
    · have := lq k e'; omega
  · intro y hy k e
    refine ⟨fun e' => ?_, (h.d2 y hy k e).2⟩
    rcases hr k e' with e' | e'
    · exact (h.d2 y hy k e).1 e'
    · have := le y hy k e; omega
theorem Told.push_queue (h : Told B w no nq ro Ao co rq Aq cq os Y) (hB : B ≤ w.heap.size) (hY : Y.length = nq) {y : Lk} (hy : Row w 1 y.r y.A y.q.length y.c (y.q.map (Value.int .i64))) (hf : ∀ k, y.r = some k → B ≤ k) (hd : ∀ k, y.r = some k → ro ≠ some k ∧ rq ≠ some k ∧ ∀ z ∈ Y, z.r ≠ some k)
    {r' : Option Nat} {A' : Option Addr} {c' : Nat} (hrow : Row w' 1 r' A' (nq + 1) c' (Y.map slC ++ [slC y])) (hk : Kept (fun k => rq = some k) w w') (hr : ∀ k, r' = some k → rq = some k ∨ w.heap.size ≤ k) :
    Told B w' no (nq + 1) ro Ao co r' A' c' os (Y ++ [y]) := by
  have lo := h.ow.lt (by decide)
  have le : ∀ y ∈ Y, ∀ k, y.r = some k → k < w.heap.size := fun y hy k hk => (h.el y hy).lt (by decide) k hk
  have ly := hy.lt (by decide)
  refine ⟨h.ow.of_kept (by decide) hk (fun k e e' => h.d1 k e e'), by rw [List.map_append]; exact hrow, ?_, h.fo, ?_, ?_, ?_, ?_, ?_⟩
  · intro z hz
    rcases List.mem_append.1 hz with hz | hz
    · exact (h.el z hz).of_kept (by decide) hk (fun k e => (h.d2 z hz k e).2)
    · rw [List.mem_singleton.1 hz]; exact hy.of_kept (by decide) hk (fun k e => (hd k e).2.1)
  · intro k e
    rcases hr k e with e | e
    · exact h.fq k e
    · omega
  · intro z hz k e
    rcases List.mem_append.1 hz with hz | hz
    · exact h.fe z hz k e
    · rw [List.mem_singleton.1 hz] at e; exact hf k e
  · intro k e e'
    rcases hr k e' with e' | e'
    · exact h.d1 k e e'
    · have := lo k e; omega
  · intro z hz k e
    rcases List.mem_append.1 hz with hz | hz
    · refine ⟨(h.d2 z hz k e).1, fun e' => ?_⟩
      rcases hr k e' with e' | e'
      · exact (h.d2 z hz k e).2 e'
      · have := le z hz k e; omega
    · rw [List.mem_singleton.1 hz] at e
      refine ⟨(hd k e).1, fun e' => ?_⟩
      rcases hr k e' with e' | e'
      · exact (hd k e).2.1 e'
      · have := ly k e; omega
  · intro i j hi hj hij k e1 e2
    by_cases gi : i < Y.length
    · rw [List.getElem_append_left gi] at e1
      by_cases gj : j < Y.length
      · rw [List.getElem_append_left gj] at e2
        exact h.d3 i j gi gj hij k e1 e2
      · rw [List.getElem_append_right (by omega)] at e2
        simp only [List.getElem_singleton] at e2
        exact (hd k e2).2.2 _ (List.getElem_mem gi) e1
    · rw [List.getElem_append_right (by omega)] at e1
      simp only [List.getElem_singleton] at e1
      by_cases gj : j < Y.length
      · rw [List.getElem_append_left gj] at e2
        exact (hd k e1).2.2 _ (List.getElem_mem gj) e2
      · simp at hi hj; omega
end
set_option maxHeartbeats 2000000 in
theorem state_any {w : World} {b : Nat} {F : Nat → Prop} {L : List (Int × List Int)} (h : At w b F L) (hL : L.length ≤ 1048576) (hQ : ∀ x ∈ L, x.2.length ≤ 1048576) : Calls Try.prog 11 #[.pointer (some ⟨b, 0, none⟩)] w fun e w' =>
    ∃ ro Ao co rq Aq cq Y, e = .returned (.tuple #[.slice Ao L.length co, .slice Aq L.length cq]) ∧ Told w.heap.size w' L.length L.length ro Ao co rq Aq cq (L.map (·.1)) Y ∧ Y.map (·.q) = L.map (·.2) ∧ New w w' := by
  obtain ⟨⟨r, A, c, X, rfl, hp, h1, h2⟩, h3, h4⟩ := h
  have c0 := hp.blk.cell 0
  simp only [List.getElem?_toArray, List.getElem?_cons_zero] at c0
  have hb := hp.row.bound
  have HP := Lib.hid (fun wr (hk : New w wr) => hp.new hk)
  have HQ := Lib.hid (fun j (hj : j < X.length) => show X[j].q.length ≤ 1048576 from hQ (ab X[j]) (List.mem_map_of_mem (List.getElem_mem hj)))
  obtain ⟨n, hn⟩ : ∃ n, n = X.length := ⟨_, rfl⟩
  rw [← hn] at c0 hb
  have hL' : n ≤ 1048576 := by rw [hn]; simpa using hL
  rw [List.length_map, ← hn, show (X.map ab).map (·.1) = X.map (·.own) by simp [ab], show (X.map ab).map (·.2) = X.map (·.q) by simp [ab]]
  have HN := Lib.hid hn
  clear hn
  clear hp h1 h2 h3 h4 hL hQ
  go_enter Try.func11, Try.ntmps11
  go_wp2_with fail
  go_loopw [4, 5, 13] (fun s t i wr => ∃ (j : Nat) (ro : Option Nat) (Ao : Option Addr) (co : Nat) (rq : Option Nat) (Aq : Option Addr) (cq : Nat) (Y : List Lk), j ≤ n ∧ i = .int .i64 j ∧ s = .slice Ao j co ∧ t = .slice Aq j cq ∧ Y.length = j ∧
    Told w.heap.size wr j j ro Ao co rq Aq cq ((X.take j).map (·.own)) Y ∧ Y.map (·.q) = (X.take j).map (·.q) ∧ New w wr) (fun _ _ i _ => (n - intOf i).toNat)
  case atStart => exact ⟨0, none, none, 0, none, none, 0, [], Nat.zero_le _, rfl, rfl, rfl, rfl, ⟨Row.nil _ _, Row.nil _ _, by simp, by simp, by simp, by simp, by simp, by simp, fun i j hi => absurd hi (by simp)⟩, rfl, Kept.refl _ _⟩
  case round =>
    obtain ⟨j, ro, Ao, co, rq, Aq, cq, Y, hj, rfl, rfl, rfl, hYl, ht, hYq, hnr⟩ := hrel
    by_cases hlt : j < n
    · have hjX : j < X.length := by rw [← HN.out]; exact hlt
      have hp := HP.out wr hnr
      obtain ⟨g, o, -, rfl, x0, x1, -, -⟩ := hp.at_ j hjX
      have hr := hp.qs X[j] (List.getElem_mem hjX)
      have hql := HQ.out j hjX
      have hst := List.take_succ_eq_append_getElem hjX
      generalize hx : X[j] = x at *
      have hbo := ht.ow.bound
      have hbq := ht.qu.bound
      have hrb := hr.bound
      obtain ⟨m, hm⟩ : ∃ m, m = x.q.length := ⟨_, rfl⟩
      obtain ⟨ow, how⟩ : ∃ m, m = x.own := ⟨_, rfl⟩
      obtain ⟨xA, hxA⟩ : ∃ m, m = x.A := ⟨_, rfl⟩
      obtain ⟨xc, hxc⟩ : ∃ m, m = x.c := ⟨_, rfl⟩
      rw [← hm] at x1 hr hrb hql
      rw [← hxA] at x1 hr
      rw [← hxc] at x1 hr hrb
      rw [← how] at x0
      have hk4 : New wr (wr.alloc (.cells #[.int .i64 ow, .slice xA m xc] 56)) := (Kept.refl _ _).alloc _
      have hb4 := Blk.made wr 56 #[.int .i64 ow, .slice xA m xc]
      have hr4 := hr.new (by decide) hk4
      have ht4 := ht.new hk4
      have hro := ht.ow.lt (by decide)
      have hxr := fun k (h : x.r = some k) => (((HP.out w (Kept.refl _ _)).qs X[j] (List.getElem_mem hjX)).lt (by decide) k (by rw [hx]; exact h))
      have hn4 := hnr.trans hk4
      have HN4 := Lib.hid hn4
      have HR4 := Lib.hid hr4
      have HB4 := Lib.hid hb4
      have HP := Lib.hid hp
      have HST := Lib.hid hst
      have HM := Lib.hid hm
      have HOW := Lib.hid how
      have HXA := Lib.hid hxA
      have HXC := Lib.hid hxc
      have HX := Lib.hid hx
      have HT4 := Lib.hid ht4
      have HYL := Lib.hid hYl
      have HYQ := Lib.hid hYq
      have HRO := Lib.hid hro
      have HXR := Lib.hid hxr
      clear hn4 hr4 hb4 hp hst hm how hxA hxc hx ht4 hYl hYq hro hxr
      clear hk4 hnr hr ht
      go_upto_region 6 with (fail)
      generalize wr.alloc (.cells #[.int .i64 ow, .slice xA m xc] 56) = W4 at *
      have z0 := HB4.out.cell 0
      simp only [List.getElem?_toArray, List.getElem?_cons_zero] at z0
      go_wp2_with (at_builtin; refine wpList_append_one (cs := [.int .i64 ow]) tyInts rfl (.tmp 17) (.tmp 20) rfl rfl HT4.out.ow rfl rfl rfl (by simp [Value.oneCell']) (by unfold maxLen; omega) (by omega) ?_; intro r2 A2 c2' w2 hr2 hk2 hn2; have hb5 := HB4.out.kept hk2 (fun e => Nat.lt_irrefl _ (HRO.out _ e)); have z1 := hb5.cell 1; simp only [List.getElem?_toArray, List.getElem?_cons_zero, List.getElem?_cons_succ] at z1; have HR2 := Lib.hid hr2; have HK2 := Lib.hid hk2; have HN2 := Lib.hid hn2; clear hr2 hk2 hn2 hb5)
      have ht5 := HT4.out.push_own (by exact HN4.out.size) (v := ow) HR2.out HK2.out HN2.out
      have hr5 := HR4.out.of_kept (by decide) HK2.out (fun k h e => by have := HXR.out k h; have := HT4.out.fo k e; omega)
      have hcl := clone_any hr5 hql
      have hn5 : New w w2 := HN4.out.step HK2.out fun k hk e => absurd (HT4.out.fo k e) (Nat.not_le.2 hk)
      have HT5 := Lib.hid ht5
      have HR5 := Lib.hid hr5
      have HCL := Lib.hid hcl
      have HN5 := Lib.hid hn5
      clear ht5 hr5 hcl hn5
      refine HCL.out.mono ?_
      rintro e w3 ⟨r3, A3, c3, rfl, hr3, hf3, hk3⟩
      have ht6 := HT5.out.new hk3
      have hn6 := HN5.out.trans hk3
      have hb3 := hr3.bound
      have HT6 := Lib.hid ht6
      have HR3 := Lib.hid hr3
      have HF3 := Lib.hid hf3
      have HK3 := Lib.hid hk3
      have HN6 := Lib.hid hn6
      clear ht6 hr3 hf3 hk3 hn6
      go_wp2_with (at_builtin; refine wpList_append_one (cs := [.slice A3 m c3]) tyQueues rfl (.tmp 22) (.tmp 26) rfl rfl HT6.out.qu rfl rfl rfl (by simp [Value.oneCell']) (by unfold maxLen; omega) (by omega) ?_; intro r7 A7 c7 w7 hr7 hk7 hn7; have HR7 := Lib.hid hr7; have HK7 := Lib.hid hk7; have HN7 := Lib.hid hn7; clear hr7 hk7 hn7)
      have ht8 := HT6.out.push_queue (y := ⟨ow, r3, A3, c3, x.q⟩) HN6.out.size HYL.out (by rw [← HM.out]; exact HR3.out) (fun k hk => Nat.le_trans HN5.out.size (HF3.out k hk)) (fun k hk => ?_) (by rw [show slC ⟨ow, r3, A3, c3, x.q⟩ = .slice A3 m c3 by simp [slC, HM.out]]; exact HR7.out) HK7.out HN7.out
      go_roundw
      case rel =>
        refine ⟨j + 1, r2, A2, c2', r7, A7, c7, Y ++ [⟨ow, r3, A3, c3, x.q⟩], by omega, by go_num, rfl, rfl, by rw [List.length_append, HYL.out]; rfl, ?_, ?_, ?_⟩
        · rw [HST.out, List.map_append]; rw [show List.map (fun x => x.own) [x] = [ow] by rw [HOW.out]; rfl]; exact ht8
        · rw [HST.out, List.map_append, List.map_append, HYQ.out]; rfl
        · exact HN6.out.step HK7.out fun k hk e => absurd (HT6.out.fq k e) (Nat.not_le.2 hk)
      case measure => simp [intOf]; omega
      have hk' := HF3.out k hk
      refine ⟨fun e => ?_, fun e => ?_, fun z hz e => ?_⟩
      · have := HR2.out.lt (by decide) k e; omega
      · have := HT5.out.qu.lt (by decide) k e; omega
      · have := (HT5.out.el z hz).lt (by decide) k e; omega
    · obtain rfl : j = n := by omega
      have e : X.take j = X := by rw [HN.out]; exact List.take_length
      rw [e] at ht hYq
      have HNR := Lib.hid hnr
      have HT := Lib.hid ht
      have HYQ := Lib.hid hYq
      clear hnr ht hYq
      go_wp2_with fail
      go_ret2
      first
        | exact ⟨ro, Ao, co, rq, Aq, cq, Y, rfl, HT.out, HYQ.out, HNR.out⟩
        | exact ⟨ro, Ao, co, rq, Aq, cq, rfl, Y, HT.out, HYQ.out, HNR.out⟩
        | exact ⟨ro, Ao, co, rq, Aq, cq, rfl, ⟨Y, HT.out, HYQ.out⟩, HNR.out⟩
end Go.Proofs.Ytjjlemkmdldljaa.Locks
