/- What the reference's writes do to how its locks lie; the walk of its hand (layer 12). -/
import Derived.Test.YtjjlemkmdldljaaLocksK
import Derived.Deep.DrawnRows
namespace Go.Proofs.Ytjjlemkmdldljaa.Locks
open Go.RowKit Go.Fb
set_option linter.unusedVariables false
theorem run_from1 {P : Program} (T E s : Nat) (hT : P.underlying T = some (.slice E)) (hs : ∀ W, (sizeOf E).run P W = .ok s W) (g o n c : Nat) (hc : n + 1 ≤ c) :
    ∃ A1, (A1 = some ⟨g, o + s, none⟩ ∨ n = 0) ∧ ∀ W, (Instr.slice T (.slice (some ⟨g, o, none⟩) (n + 1) c) (some (.int .i64 1)) none none).run P W = .ok (.slice A1 n (c - 1)) W := by
  have he : P.elem T = E := by simp [Program.elem, hT]
  refine ⟨if c = 1 then some ⟨g, o, none⟩ else some ⟨g, o + s, none⟩, ?_, fun W => ?_⟩
  · by_cases h : c = 1
    · exact .inr (by omega)
    · rw [if_neg h]; exact .inl rfl
  · have := run_slice_l (P := P) W T (some ⟨g, o, none⟩) (n + 1) c (by rw [he]; exact hT) .i64 1 (by decide) (by omega)
    rw [this, he, hs]
    simp [Result.andThen, sliced, add_eq]
theorem step_append_row {P : Program} {w : World} {t tx e : TypeId} {size bytes : Nat} (ty : SliceTy P t e size bytes) {ops : Array Oper} {o : Oper} {a : Act} {K : Act → World → Prop} {Q : Exit → Act → World → Prop} {E : Prop} (hgd : o.guard = none) (s x : Operand)
    (ho : o.op = .call { callee := .builtin .append, args := #[s, x], argTypes := #[t, tx] }) {r : Option Nat} {A : Option Addr} {n c : Nat} {xs : List Value} (hs : a.eval s = .slice A n c) (hrow : Row w size r A n c xs)
    {vx : Value} {m : Nat} {news : List Value} (hx : a.eval x = vx) (hsrc : Go.Src P size tx vx m news w) (h63 : n + m ≤ maxLen) (hbytes : (n + m) * bytes ≤ 140737488355328)
    (h : ∀ r' A' c' w', Row w' size r' A' (n + m) c' (xs ++ news) → Kept (fun k => r = some k) w w' → (∀ k, r' = some k → r = some k ∨ w.heap.size ≤ k) → K (a.put o.dst (.slice A' (n + m) c')) w') :
    if Region.wanted o (yielded ops a.tmps) = true then Oper.wp P o a w K Q else E := by
  have hw : Region.wanted o (yielded ops a.tmps) = true := by simp [Region.wanted, hgd]
  rw [if_pos hw]
  obtain ⟨r', A', c', w', hrun, h1, h2, h3⟩ := run_append_row (P := P) ty o.type hrow hsrc h63 hbytes
  unfold Oper.wp
  simp [execOp, ho, resolve, invoke, builtin, hs, hx, hrun, Result.andThen]
  exact h r' A' c' w' h1 h2 h3
theorem step_append_one {P : Program} {W W1 : World} {t e : TypeId} {size bytes : Nat} (ty : SliceTy P t e size bytes) {ops : Array Oper} {o : Oper} {a : Act} {K : Act → World → Prop} {Q : Exit → Act → World → Prop} {E : Prop} (hgd : o.guard = none) (s x : Operand)
    (ho : o.op = .call { callee := .builtin .append, args := #[s, x], argTypes := #[t, t] }) {r : Option Nat} {A : Option Addr} {n c : Nat} {xs : List Value} (hs : a.eval s = .slice A n c) (hrow : Row W size r A n c xs)
    {g c0 : Nat} {cs : List Value} {T : TypeId} {fr : Nat × Nat} (hW1 : W1 = W.alloc (.cells cs.toArray T fr)) (hg : g = W.heap.size) (hx : a.eval x = .slice (some ⟨g, 0, none⟩) 1 c0) (hl : cs.length = size) (h1 : ∀ u ∈ cs, u.oneCell' = true) (h63 : n + 1 ≤ maxLen) (hbytes : (n + 1) * bytes ≤ 140737488355328)
    (h : ∀ r' A' c' w', Row w' size r' A' (n + 1) c' (xs ++ cs) → Kept (fun k => r = some k) W w' → (∀ k, r' = some k → r = some k ∨ W.heap.size ≤ k) → K (a.put o.dst (.slice A' (n + 1) c')) w') :
    if Region.wanted o (yielded ops a.tmps) = true then Oper.wp P o a W1 K Q else E := by
  subst hW1
  have hk : New W (W.alloc (.cells cs.toArray T fr)) := (Kept.refl _ _).alloc _
  refine step_append_row ty hgd s x ho hs (hrow.new ty.pos hk) hx (Go.Src.ofSlice _ ty.under _ 1 c0 cs (by omega) (fun j u hj => ?_) h1) h63 hbytes ?_
  · have hb : (W.alloc (.cells cs.toArray T fr)).heap[W.heap.size]? = some (.cells cs.toArray T fr) := by
      show (W.heap.push _)[W.heap.size]? = _
      simp
    rw [add_eq, Nat.zero_add, hg]
    unfold World.cell?
    simp only [hb]
    simpa using hj
  · intro r' A' c' w' h1 h2 h3
    refine h r' A' c' w' h1 ((hk.mono fun _ _ h => h.elim).trans h2) fun k hk => (h3 k hk).imp id fun h => ?_
    have := (Kept.refl (fun _ => False) W).alloc (.cells cs.toArray T fr) |>.size
    omega
/-- A slice of numbers that is appended, nil too. -/
theorem row_src' {P : Program} {T E : TypeId} (hT : P.underlying T = some (.slice E)) {w : World} {r : Option Nat} {A : Option Addr} {n c : Nat} {q : List Int} (h : Row w 1 r A n c (q.map (Value.int .i64))) : Go.Src P 1 T (.slice A n c) n (q.map (Value.int .i64)) w := by
  cases A with
  | some ad => exact row_src hT h
  | none =>
    have hz : n = 0 := by
      rcases h.lies with ⟨_, h1, _⟩ | ⟨_, _, _, _, e, _⟩
      · exact h1
      · cases e
    have hl := h.length
    subst hz
    rw [show q.map (Value.int .i64) = [] from List.eq_nil_of_length_eq_zero (by rw [hl])]
    exact Go.Src.ofNil w hT c
theorem row_nil (w : World) (size : Nat) (A : Option Addr) : Row w size none A 0 0 [] := ⟨by simp, .inl ⟨rfl, rfl, rfl⟩⟩
/-- All but the first, appended. -/
theorem tail_src {P : Program} {T E : TypeId} (hT : P.underlying T = some (.slice E)) {w : World} {r : Option Nat} {gq oq m c c' : Nat} {y : Int} {ys : List Int} {A1 : Option Addr} (h : Row w 1 r (some ⟨gq, oq, none⟩) (m + 1) c ((y :: ys).map (Value.int .i64))) (hm : m = ys.length) (hA1 : A1 = some ⟨gq, oq + 1, none⟩ ∨ m = 0) :
    Go.Src P 1 T (.slice A1 m c') m (ys.map (Value.int .i64)) w := by
  by_cases h0 : m = 0
  · have e2 : ys = [] := List.eq_nil_of_length_eq_zero (by omega)
    subst h0; subst e2
    cases A1 with
    | none => exact Go.Src.ofNil w hT c'
    | some ad => exact Go.Src.ofSlice w hT ad 0 c' [] (by simp) (by simp) (by simp)
  · rcases hA1 with rfl | e
    · obtain ⟨g, o, e1, e2, h5, -⟩ := h.at_pos (by have := h.le; omega)
      injection e2 with e2
      injection e2 with e3 e4
      subst e3; subst e4
      refine Go.Src.ofSlice w hT _ m c' _ (by simp; omega) (fun j u hj => ?_) (by intro u hu; obtain ⟨x, -, rfl⟩ := List.mem_map.1 hu; simp [Value.oneCell'])
      have hjl : j < (ys.map (Value.int .i64)).length := by
        rcases Nat.lt_or_ge j (ys.map (Value.int .i64)).length with h | h
        · exact h
        · rw [List.getElem?_eq_none h] at hj; cases hj
      rw [List.length_map] at hjl
      rw [add_eq, Nat.add_assoc, h5 (1 + j) (by omega), ← hj, Nat.add_comm 1 j]
      rfl
    · omega
theorem mem_set' {Y : List Lk} {k : Nat} {y z : Lk} (h : z ∈ Y.set k y) (hk : k < Y.length) : z = y ∨ ∃ i, ∃ hi : i < Y.length, i ≠ k ∧ Y[i] = z := by
  obtain ⟨i, hi, e⟩ := List.mem_iff_getElem.1 h
  by_cases g : i = k
  · subst g; rw [List.getElem_set_self] at e; exact .inl e.symm
  · rw [List.getElem_set_ne (Ne.symm g)] at e; exact .inr ⟨i, by simpa using hi, g, e⟩
section
variable {B : Nat} {w w2 w' : World} {b n no nq : Nat} {F : Nat → Prop} {ro : Option Nat} {Ao : Option Addr} {co : Nat} {rq : Option Nat} {Aq : Option Addr} {cq : Nat} {os : List Int} {Y : List Lk} {L : List (Int × List Int)}
theorem Told.set_own (h : Told B w no nq ro Ao co rq Aq cq os Y) {g o : Nat} (hr : ro = some g) (hA : Ao = some ⟨g, o, none⟩) (k : Nat) (hk : k < no) (v : Int) : Told B (w.setCell ⟨g, o + k, none⟩ (.int .i64 v)) no nq ro Ao co rq Aq cq (os.set k v) Y := by
  have hset := Kept.set1 w g (o + k) (.int .i64 v)
  have := h.ow.set hA (j := k) (by omega) (.int .i64 v)
  rw [← List.map_set] at this
  exact ⟨this, h.qu.of_kept (by decide) hset (fun k' e e' => by subst e'; exact h.d1 k' hr e), fun y hy => (h.el y hy).of_kept (by decide) hset (fun k' e e' => by subst e'; exact (h.d2 y hy k' e).1 hr), h.fo, h.fq, h.fe, h.d1, h.d2, h.d3⟩
theorem Told.set_queue (h : Told B w no nq ro Ao co rq Aq cq os Y) (hB : B ≤ w.heap.size) (hY : Y.length = nq) {g o : Nat} (hr : rq = some g) (hA : Aq = some ⟨g, o, none⟩) (k : Nat) (hk : k < nq) (hn : New w w2) {y : Lk} (hy : Row w2 1 y.r y.A y.q.length y.c (y.q.map (Value.int .i64))) (hf : ∀ j, y.r = some j → w.heap.size ≤ j) :
    Told B (w2.setCell ⟨g, o + k, none⟩ (slC y)) no nq ro Ao co rq Aq cq os (Y.set k y) := by
  have hset := Kept.set1 w2 g (o + k) (slC y)
  have hn2 := h.new hn
  have lo := h.ow.lt (by decide)
  have lq := h.qu.lt (by decide)
  have le : ∀ z ∈ Y, ∀ j, z.r = some j → j < w.heap.size := fun z hz j hj => (h.el z hz).lt (by decide) j hj
  have hkY : k < Y.length := by omega
  have hq := hn2.qu.set hA (j := k) (by omega) (slC y)
  rw [← List.map_set] at hq
  refine ⟨hn2.ow.of_kept (by decide) hset (fun k' e e' => by subst e'; exact h.d1 k' e hr), hq, ?_, h.fo, h.fq, ?_, h.d1, ?_, ?_⟩
  · intro z hz
    rcases mem_set' hz hkY with rfl | ⟨i, hi, g', rfl⟩
    · exact hy.of_kept (by decide) hset fun j e e' => by subst e'; have := hf j e; have := lq j hr; omega
    · exact (hn2.el _ (List.getElem_mem hi)).of_kept (by decide) hset fun j e e' => by subst e'; exact (h.d2 _ (List.getElem_mem hi) j e).2 hr
  · intro z hz j e
    rcases mem_set' hz hkY with rfl | ⟨i, hi, g', rfl⟩
    · have := hf j e; omega
    · exact h.fe _ (List.getElem_mem hi) j e
  · intro z hz j e
    rcases mem_set' hz hkY with rfl | ⟨i, hi, g', rfl⟩
    · have := hf j e
      exact ⟨fun e' => by have := lo j e'; omega, fun e' => by have := lq j e'; omega⟩
    · exact h.d2 _ (List.getElem_mem hi) j e
  · intro i1 i2 h1 h2 h12 j e1 e2
    have l1 : i1 < Y.length := by simpa using h1
    have l2 : i2 < Y.length := by simpa using h2
    by_cases g1 : i1 = k
    · subst g1
      rw [List.getElem_set_self] at e1
      rw [List.getElem_set_ne h12] at e2
      have := hf j e1
      have := le _ (List.getElem_mem l2) j e2
      omega
    · rw [List.getElem_set_ne (Ne.symm g1)] at e1
      by_cases g2 : i2 = k
      · subst g2
        rw [List.getElem_set_self] at e2
        have := hf j e2
        have := le _ (List.getElem_mem l1) j e1
        omega
      · rw [List.getElem_set_ne (Ne.symm g2)] at e2
        exact h.d3 i1 i2 l1 l2 h12 j e1 e2
theorem RParts.set_own (h : RParts w b F n ro Ao co rq Aq cq os Y) {g o : Nat} (hr : ro = some g) (hA : Ao = some ⟨g, o, none⟩) (k : Nat) (hk : k < n) (v : Int) : RParts (w.setCell ⟨g, o + k, none⟩ (.int .i64 v)) b F n ro Ao co rq Aq cq (os.set k v) Y :=
  ⟨h.blk.kept (Kept.set1 w g (o + k) (.int .i64 v)) (fun e => h.b1 (by rw [hr, e])), h.told.set_own hr hA k hk v, by rw [List.length_set]; exact h.lo, h.ly, h.b1, h.b2, h.b3, h.f1, h.f2, h.f3, h.fb⟩
theorem RParts.set_queue (h : RParts w b F n ro Ao co rq Aq cq os Y) {g o : Nat} (hr : rq = some g) (hA : Aq = some ⟨g, o, none⟩) (k : Nat) (hk : k < n) (hn : New w w2) {y : Lk} (hy : Row w2 1 y.r y.A y.q.length y.c (y.q.map (Value.int .i64))) (hf : ∀ j, y.r = some j → w.heap.size ≤ j)
    {G : Nat → Prop} (hFG : ∀ j, F j → G j) (hyG : ∀ j, y.r = some j → G j) : RParts (w2.setCell ⟨g, o + k, none⟩ (slC y)) b G n ro Ao co rq Aq cq os (Y.set k y) := by
  have hkY : k < Y.length := by rw [h.ly]; exact hk
  refine ⟨(h.blk.kept hn id).kept (Kept.set1 w2 g (o + k) (slC y)) (fun e => h.b2 (by rw [hr, e])), h.told.set_queue (Nat.zero_le _) h.ly hr hA k hk hn hy hf, h.lo, by rw [List.length_set]; exact h.ly, h.b1, h.b2, ?_, fun j e => hFG j (h.f1 j e), fun j e => hFG j (h.f2 j e), ?_, hFG b h.fb⟩
  · intro z hz e
    rcases mem_set' hz hkY with rfl | ⟨i, hi, g', rfl⟩
    · have := hf b e; have := h.blk.lt; omega
    · exact h.b3 _ (List.getElem_mem hi) e
  · intro z hz j e
    rcases mem_set' hz hkY with rfl | ⟨i, hi, g', rfl⟩
    · exact hyG j e
    · exact hFG j (h.f3 _ (List.getElem_mem hi) j e)
/-- A method's end: the reference's locks stand so, and nothing else has turned. -/
def REnds (w : World) (b : Nat) (F : Nat → Prop) (L : List (Int × List Int)) (v : Value) (e : Ending) (w' : World) : Prop := e = .returned v ∧ RAt w' b (grow F w w') L ∧ Kept F w w'
theorem RParts.ends {w : World} (h : RAt w b F L) {n' : Nat} {Y' : List Lk} {os' : List Int} {L' : List (Int × List Int)} (hp : RParts w' b (fun k => F k ∨ w.heap.size ≤ k) n' ro Ao co rq Aq cq os' Y') (hn : n' = L'.length) (ho : os' = L'.map (·.1)) (hY : Y'.map (·.q) = L'.map (·.2)) : RAt w' b (grow F w w') L' := by
  subst hn; subst ho
  refine ⟨⟨ro, Ao, co, rq, Aq, cq, Y', ⟨hp.blk, hp.told, hp.lo, hp.ly, hp.b1, hp.b2, hp.b3, fun k e => ⟨hp.f1 k e, hp.told.ow.lt (by decide) k e⟩, fun k e => ⟨hp.f2 k e, hp.told.qu.lt (by decide) k e⟩, fun y hy k e => ⟨hp.f3 y hy k e, (hp.told.el y hy).lt (by decide) k e⟩, ⟨hp.fb, hp.blk.lt⟩⟩, hY⟩, fun k hk => hk.2⟩
theorem REnds.now {v : Value} (h : RAt w b F L) (hk : New w w') : REnds w b F L v (.returned v) w' := ⟨rfl, h.still hk, hk.mono fun _ _ h => h.elim⟩
theorem RAt.q_at (hp : RParts w b F L.length ro Ao co rq Aq cq (L.map (·.1)) Y) (hY : Y.map (·.q) = L.map (·.2)) (k : Nat) (hk : k < L.length) : ∃ (hy : k < Y.length), Y[k].q = L[k].2 := by
  have hy : k < Y.length := by rw [hp.ly]; exact hk
  refine ⟨hy, ?_⟩
  have := congrArg (fun l => l[k]?) hY
  simp only [List.getElem?_map, List.getElem?_eq_getElem hk, List.getElem?_eq_getElem hy, Option.map_some, Option.some.injEq] at this
  exact this
theorem map_own_getD (L : List (Int × List Int)) (k : Nat) (hk : k < L.length) : (L.map (·.1)).getD k 0 = L[k].1 := by rw [getD_nat _ _ _ (by simpa using hk), List.getElem_map]
def handAt (x : Int × List Int) : Int × List Int := match x.2 with
  | [] => (-1, [])
  | y :: ys => (y, ys)
theorem map_set1 (L : List (Int × List Int)) (k : Nat) (x : Int × List Int) : (L.set k x).map (·.1) = (L.map (·.1)).set k x.1 := by rw [List.map_set]
theorem map_set2 (L : List (Int × List Int)) (Y : List Lk) (hY : Y.map (·.q) = L.map (·.2)) (k : Nat) (x : Int × List Int) (y : Lk) (h : y.q = x.2) : (Y.set k y).map (·.q) = (L.set k x).map (·.2) := by rw [List.map_set, List.map_set, hY, h]
theorem map_same2 (L : List (Int × List Int)) (k : Nat) (hk : k < L.length) (x : Int × List Int) (h : x.2 = L[k].2) : (L.set k x).map (·.2) = L.map (·.2) := by
  rw [List.map_set, h]
  have : L[k].2 = (L.map (·.2))[k]'(by simpa using hk) := by simp
  rw [this, List.set_getElem_self]
set_option maxHeartbeats 2000000 in
theorem hand_any (h : RAt w b F L) (k : Nat) (hk : k < L.length) (hql : L[k].2.length ≤ 1048576) : Calls Try.prog 36 #[.pointer (some ⟨b, 0, none⟩), .int .i64 (k : Int)] w (REnds w b F (L.set k (handAt L[k])) (.tuple #[])) := by
  have H := Lib.hid h
  obtain ⟨⟨ro, Ao, co, rq, Aq, cq, Y, hp, hY⟩, h4⟩ := h
  obtain ⟨y0, y1, -, -, b1, b2, b3, b4⟩ := hp.cells
  obtain ⟨g, o, hro, rfl, x0, xf⟩ := hp.own_at k hk
  obtain ⟨g2, o2, hy, hrq, rfl, x2, x2f⟩ := hp.queue_at k hk
  have hpk := hp.set_own hro rfl k hk (-1)
  obtain ⟨_, hqk⟩ := RAt.q_at hp hY k hk
  have hgb : ¬ g = b := fun e => hp.b1 (by rw [hro, e])
  have hg2b : ¬ g2 = b := fun e => hp.b2 (by rw [hrq, e])
  have hgg : ¬ g = g2 := fun e => hp.told.d1 g hro (by rw [hrq, e])
  have hk0 : Kept F w (w.setCell ⟨g, o + k, none⟩ (.int .i64 (-1))) := (Kept.refl _ _).setCell (.inr (hp.f1 g hro)) _
  obtain ⟨N, hN⟩ : ∃ N, N = L.length := ⟨_, rfl⟩
  have hkN : k < N := by omega
  rw [← hN] at y0 y1 b1 b3
  have e2 : (0 : Int) ≤ (k : Int) := by omega
  have e3 : (k : Int) < (N : Int) := by omega
  cases hq : Y[k].q with
  | nil =>
    have ht : handAt L[k] = (-1, []) := by unfold handAt; rw [← hqk, hq]
    rw [hq, List.length_nil] at x2
    have hend : RAt (w.setCell ⟨g, o + k, none⟩ (.int .i64 (-1))) b (grow F w (w.setCell ⟨g, o + k, none⟩ (.int .i64 (-1)))) (L.set k (handAt L[k])) := by
      rw [ht]
      refine RParts.ends H.out (hpk.mono fun j hj => .inl hj) (by simp) (map_set1 L k (-1, [])).symm ?_
      rw [hY, map_same2 L k hk (-1, []) (by rw [← hqk, hq])]
    have HEND := Lib.hid hend
    have HK0 := Lib.hid hk0
    have HP := Lib.hid hp
    have HY := Lib.hid hY
    have HN := Lib.hid hN
    have HRO := Lib.hid hro
    have HRQ := Lib.hid hrq
    have HPK := Lib.hid hpk
    have HQ := Lib.hid hq
    have HQK := Lib.hid hqk
    have HT := Lib.hid ht
    have H4 := Lib.hid h4
    clear hend hk0 hp hY hN hro hrq hpk hq hqk ht h4
    go_enter Try.func36, Try.ntmps36
    go_wp2_with fail
    go_end0
    exact ⟨rfl, HEND.out, HK0.out⟩
  | cons y ys =>
    have ht : handAt L[k] = (y, ys) := by unfold handAt; rw [← hqk, hq]
    have hl1 : ys.length ≤ 1048576 := by rw [← hqk, hq, List.length_cons] at hql; omega
    rw [hq, List.length_cons] at x2
    have hqrow := hp.told.el _ (List.getElem_mem hy)
    rw [hq, List.length_cons] at hqrow
    have hqb := hqrow.bound
    obtain ⟨gq, oq, hrr, hAA, hce, -⟩ := hqrow.at_pos (by omega)
    rw [hAA] at x2 hqrow
    have z0 : w.cell? ⟨gq, oq, none⟩ = some (.int .i64 y) := by have := hce 0 (by omega); simpa using this
    have hgq : ¬ gq = g := fun e => (hp.told.d2 _ (List.getElem_mem hy) gq hrr).1 (by rw [hro, e])
    have hgq' : ¬ g = gq := fun e => hgq e.symm
    have hgq2 : ¬ gq = g2 := fun e => (hp.told.d2 _ (List.getElem_mem hy) gq hrr).2 (by rw [hrq, e])
    have hgqb : ¬ gq = b := fun e => hp.b3 _ (List.getElem_mem hy) (by rw [hrr, e])
    obtain ⟨m, hm⟩ : ∃ m, m = ys.length := ⟨_, rfl⟩
    rw [← hm] at x2 hqrow hqb hl1
    generalize hcq : Y[k].c = cc at *
    obtain ⟨A1, hA1, hsl⟩ := run_from1 (P := Try.prog) 35 3 1 Try.underlying35 (fun W => by kernel_rfl) gq oq m cc hqb.1
    have hkw := Kept.set1 w g (o + k) (.int .i64 (-1))
    have y0' := (hkw.cell (p := ⟨b, 0, none⟩) (lt_of_cell y0).1 (Ne.symm hgb)).trans y0
    have y1' := (hkw.cell (p := ⟨b, 1, none⟩) (lt_of_cell y1).1 (Ne.symm hgb)).trans y1
    have x2' := (hkw.cell (p := ⟨g2, o2 + k, none⟩) (lt_of_cell x2).1 (Ne.symm hgg)).trans x2
    have z0' := (hkw.cell (p := ⟨gq, oq, none⟩) (lt_of_cell z0).1 hgq).trans z0
    have hqrow' := hqrow.of_kept (by decide) hkw (fun j e e' => by subst e'; rw [hrr] at e; injection e with e; exact hgq e)
    have xf' := (hpk.own_at k hk)
    obtain ⟨g', o', hr', hA', x0', xf'⟩ := xf'
    injection hA' with hA'
    injection hA' with h1 h2
    subst h1; subst h2
    have HK0 := Lib.hid hk0
    have HP := Lib.hid hp
    have HY := Lib.hid hY
    have HN := Lib.hid hN
    have HRO := Lib.hid hro
    have HRQ := Lib.hid hrq
    have HPK := Lib.hid hpk
    have HQ := Lib.hid hq
    have HQK := Lib.hid hqk
    have HT := Lib.hid ht
    have H4 := Lib.hid h4
    have HKW := Lib.hid hkw
    have HQROW := Lib.hid hqrow
    have HQROW' := Lib.hid hqrow'
    have HM := Lib.hid hm
    have HA1 := Lib.hid hA1
    have HSL := Lib.hid hsl
    have HCQ := Lib.hid hcq
    have HRR := Lib.hid hrr
    have HAA := Lib.hid hAA
    have HR' := Lib.hid hr'
    clear hk0 hp hY hN hro hrq hpk hq hqk ht h4 hkw hqrow hqrow' hm hA1 hsl hcq hrr hAA hr'
    clear hce
    go_enter Try.func36, Try.ntmps36
    go_upto_region 2 with (fail)
    generalize w.setCell ⟨g, o + k, none⟩ (.int .i64 (-1)) = W1 at *
    clear y0 y1 x2 z0 x0 xf x2f
    go_region_held3 (fun W => W.cell? ⟨b, 0, none⟩ = some (.slice (some ⟨g, o, none⟩) N co) ∧ W.cell? ⟨b, 1, none⟩ = some (.slice (some ⟨g2, o2, none⟩) N cq) ∧ W.cell? ⟨g2, o2 + k, none⟩ = some (.slice (some ⟨gq, oq, none⟩) (m + 1) cc) ∧ W.cell? ⟨gq, oq, none⟩ = some (.int .i64 y)) (first | assumption | go_keep) (fail)
    have hp2 := (HPK.out.set_own HRO.out rfl k (by rw [← HN.out]; exact hkN) y).kept ((Kept.refl (fun _ => False) _).drew) (fun _ _ h => h)
    rw [List.set_set] at hp2
    have hkk := (HK0.out.setCell (p := ⟨g, o + k, none⟩) (.inr (HP.out.f1 g HRO.out)) (.int .i64 y)).drew
    have hw1 : Kept (fun j => j = g) W1 (W1.setCell ⟨g, o + k, none⟩ (.int .i64 y)).drew := (Kept.set1 W1 g (o + k) (.int .i64 y)).drew
    have hqrow2 := HQROW'.out.of_kept (by decide) hw1 (fun j e e' => by subst e'; have h := HRR.out; rw [e] at h; injection h with h; exact hgq h.symm)
    obtain ⟨-, v1, -, -, -, -, -, -⟩ := hp2.cells
    rw [← HN.out] at v1
    obtain ⟨g2', o2', hy2, hrq', hA2', v2, v3⟩ := hp2.queue_at k (by rw [← HN.out]; exact hkN)
    injection hA2' with hA2'
    injection hA2' with h1 h2
    subst h1; subst h2
    rw [HAA.out, HQ.out, List.length_cons, ← HM.out, HCQ.out] at v2
    have HP2 := Lib.hid hp2
    have HKK := Lib.hid hkk
    have HQROW2 := Lib.hid hqrow2
    clear hp2 hkk hqrow2
    clear hw1
    generalize (W1.setCell ⟨g, o + k, none⟩ (.int .i64 y)).drew = W2 at *
    have HSRC := Lib.hid (fun W (hW : New W2 W) => tail_src (P := Try.prog) (T := 35) (c' := cc - 1) Try.underlying35 (HQROW2.out.new (by decide) hW) HM.out HA1.out)
    have hsl := HSL.out
    have n1 := World.new_ne W2 _ v1
    have n2 := World.new_ne W2 _ v2
    have hlt2 := (lt_of_cell v2).1
    clear y0' y1' x2' z0'
    go_upto_region 3 with (fail)
    have HALL := Lib.hid (fun W (hW : New W2 W) => And.intro ((hW.cell (p := ⟨b, 1, none⟩) (lt_of_cell v1).1 id).trans v1) (And.intro ((hW.cell (p := ⟨g2, o2 + k, none⟩) hlt2 id).trans v2) ((hW.frozen (p := ⟨g2, o2 + k, none⟩) hlt2 id).trans v3)))
    obtain ⟨pA1, pA2, pA3⟩ := HALL.out _ ((Kept.refl _ _).alloc (.cells #[] 3))
    go_region_law (first | (refine step_append_row tyInts (by rfl) (.tmp 39) (.tmp 47) (by rfl) (by rfl) (row_nil _ 1 (some ⟨W2.heap.size, 0, none⟩)) (by rfl) (HSRC.out _ ((Kept.refl _ _).alloc _).drew) (by unfold maxLen; omega) (by omega) ?_; intro r3 A3 c3 w3 hr3 hk3 hn3; have HN3 : Hid (New W2 w3) := Lib.hid ((((Kept.refl (fun _ => False) W2).alloc (.cells #[] 3)).drew).step hk3 (fun _ _ h => by cases h)); obtain ⟨q1, q2, q3⟩ := HALL.out w3 HN3.out; have HR3 := Lib.hid hr3; have HF3 := Lib.hid hn3; clear hr3 hn3 hk3) | fail)
    all_goals
      have hys : Row w3 1 r3 A3 ys.length c3 (ys.map (Value.int .i64)) := by have := HR3.out; rw [Nat.zero_add, List.nil_append] at this; rw [← HM.out]; exact this
      have hfr : ∀ j, r3 = some j → W2.heap.size ≤ j := fun j e => by
        rcases HF3.out j e with h | h
        · cases h
        · have h := h
          simp at h
          omega
      have hsz := HKK.out.size
      have hp3 := HP2.out.set_queue HRQ.out rfl k (by rw [← HN.out]; exact hkN) HN3.out (y := ⟨0, r3, A3, c3, ys⟩) hys hfr (G := fun j => F j ∨ w.heap.size ≤ j) (fun j h => .inl h) (fun j h => .inr (Nat.le_trans hsz (hfr j h)))
      have hkf : Kept F w (w3.setCell ⟨g2, o2 + k, none⟩ (slC ⟨0, r3, A3, c3, ys⟩)) := (HKK.out.step HN3.out fun _ _ h => h.elim).setCell (.inr (HP.out.f2 g2 HRQ.out)) _
      have hend := RParts.ends (L' := L.set k (handAt L[k])) H.out hp3 (by simp) (by rw [map_set1, HT.out]) (map_set2 L Y HY.out k _ _ (by rw [HT.out]))
      rw [show slC ⟨0, r3, A3, c3, ys⟩ = .slice A3 m c3 by simp [slC, HM.out]] at hkf hend
      have HEND := Lib.hid hend
      have HKF := Lib.hid hkf
      clear hend hkf
      clear hp3 hys hfr hsz
      go_end0
      exact ⟨rfl, HEND.out, HKF.out⟩
end
end Go.Proofs.Ytjjlemkmdldljaa.Locks
