/- The walk of package lane's Take (layer 9). -/
import Derived.Test.YtnfaafdgfafcjaaLaneT
namespace Go.Proofs.Ytnfaafdgfafcjaa.Lane
open Go.RowKit Go.Fb
set_option linter.unusedVariables false
theorem run_from1 {P : Program} (T E s : Nat) (hT : P.underlying T = some (.slice E)) (hs : ∀ W, (sizeOf E).run P W = .ok s W) (g o n c : Nat) (hc : n + 1 ≤ c) :
    ∃ A1, (A1 = some ⟨g, o + s, none⟩ ∨ n = 0) ∧ ∀ W, (Instr.slice T (.slice (some ⟨g, o, none⟩) (n + 1) c) (some (.int .i64 1)) none none).run P W = .ok (.slice A1 n (c - 1)) W := by
  have he : P.elem T = E := by simp [Program.elem, hT]
  refine ⟨if c = 1 then some ⟨g, o, none⟩ else some ⟨g, o + s, none⟩, ?_, fun W => ?_⟩
  · by_cases h : c = 1
    · exact .inr (by omega)
    · rw [if_neg h]; exact .inl rfl
  · have := run_slice_l (P := P) W T (some ⟨g, o, none⟩) (n + 1) c (by rw [he]; exact hT) .i64 1 (by decide) (by omega)
    rw [this, he, hs]
    simp [Result.andThen, sliced, add_eq]
theorem run_from1m {P : Program} (T E s : Nat) (hT : P.underlying T = some (.slice E)) (hs : ∀ W, (sizeOf E).run P W = .ok s W) (g o n c : Nat) (hc : n + 1 ≤ c) :
    ∃ A1, (A1 = some ⟨g, o + s, none⟩ ∨ n = 0) ∧ ∀ W, (Instr.slice T (.slice (some ⟨g, o, none⟩) (n + 1) c) (some (.int .i64 1)) (some (.int .i64 ((n : Int) + 1))) (some (.int .i64 ((n : Int) + 1)))).run P W = .ok (.slice A1 n n) W := by
  have he : P.elem T = E := by simp [Program.elem, hT]
  refine ⟨if n = 0 then some ⟨g, o, none⟩ else some ⟨g, o + s, none⟩, ?_, fun W => ?_⟩
  · by_cases h : n = 0
    · exact .inr h
    · rw [if_neg h]; exact .inl rfl
  · have := run_slice_lhm (P := P) W T (some ⟨g, o, none⟩) (n + 1) c (by rw [he]; exact hT) .i64 .i64 .i64 1 ((n : Int) + 1) ((n : Int) + 1) (by decide) (by omega) (by omega) (by omega)
    have e1 : ((n : Int) + 1).toNat = n + 1 := by omega
    rw [this, he, hs]
    simp [Result.andThen, sliced, add_eq, e1]
/-- append, as one step of a region that draws. -/
theorem step_append_row {P : Program} {w : World} {t tx e : TypeId} {size bytes : Nat} (ty : SliceTy P t e size bytes) {ops : Array Oper} {o : Oper} {a : Act} {K : Act → World → Prop} {Q : Exit → Act → World → Prop} {E : Prop} (hgd : o.guard = none) (s x : Operand)
    (ho : o.op = .call { callee := .builtin .append, args := #[s, x], argTypes := #[t, tx] }) {r : Option Nat} {A : Option Addr} {n c : Nat} {xs : List Value} (hs : a.eval s = .slice A n c) (hrow : Row w size r A n c xs)
    {vx : Value} {m : Nat} {news : List Value} (hx : a.eval x = vx) (hsrc : Go.Src P size tx vx m news w) (h63 : n + m ≤ maxLen) (hbytes : (n + m) * bytes ≤ 140737488355328)
    (h : ∀ r' A' c' w', Row w' size r' A' (n + m) c' (xs ++ news) → Kept (fun k => r = some k) w w' → (∀ k, r' = some k → r = some k ∨ w.heap.size ≤ k) → K (a.put o.dst (.slice A' (n + m) c')) w') :
    if Region.wanted o (yielded ops a.tmps) = true then Oper.wp P o a w K Q else E := by
  have hw : Region.wanted o (yielded ops a.tmps) = true := by simp [Region.wanted, hgd]
  rw [if_pos hw]
  obtain ⟨r', A', c', w', hrun, h1, h2, h3⟩ := run_append_row (P := P) ty o.type hrow hsrc h63 hbytes
  unfold Oper.wp
  simp [execOp, ho, resolve, invoke, builtin, hs, hx, hrun, Result.andThen]
  exact h r' A' c' w' h1 h2 h3
/-- append of a thing that was just built, as one step of a region that draws. -/
theorem step_append_one {P : Program} {W W1 : World} {t e : TypeId} {size bytes : Nat} (ty : SliceTy P t e size bytes) {ops : Array Oper} {o : Oper} {a : Act} {K : Act → World → Prop} {Q : Exit → Act → World → Prop} {E : Prop} (hgd : o.guard = none) (s x : Operand)
    (ho : o.op = .call { callee := .builtin .append, args := #[s, x], argTypes := #[t, t] }) {r : Option Nat} {A : Option Addr} {n c : Nat} {xs : List Value} (hs : a.eval s = .slice A n c) (hrow : Row W size r A n c xs)
    {g c0 : Nat} {cs : List Value} {T : TypeId} {fr : Nat × Nat} (hW1 : W1 = W.alloc (.cells cs.toArray T fr)) (hg : g = W.heap.size) (hx : a.eval x = .slice (some ⟨g, 0, none⟩) 1 c0) (hl : cs.length = size) (h1 : ∀ u ∈ cs, u.oneCell' = true) (h63 : n + 1 ≤ maxLen) (hbytes : (n + 1) * bytes ≤ 140737488355328)
    (h : ∀ r' A' c' w', Row w' size r' A' (n + 1) c' (xs ++ cs) → Kept (fun k => r = some k) W w' → (∀ k, r' = some k → r = some k ∨ W.heap.size ≤ k) → K (a.put o.dst (.slice A' (n + 1) c')) w') :
    if Region.wanted o (yielded ops a.tmps) = true then Oper.wp P o a W1 K Q else E := by
  subst hW1
  have hk : New W (W.alloc (.cells cs.toArray T fr)) := (Kept.refl _ _).alloc _
  refine step_append_row ty hgd s x ho hs (hrow.new ty.pos hk) hx (Go.Src.ofSlice _ ty.under _ 1 c0 cs (by omega) (fun j u hj => ?_) h1) h63 hbytes ?_
  · have hb : (W.alloc (.cells cs.toArray T fr)).heap[W.heap.size]? = some (.cells cs.toArray T fr) := by
      show (W.heap.push _)[W.heap.size]? = _
      simp
    rw [add_eq, Nat.zero_add, hg]
    unfold World.cell?
    simp only [hb]
    simpa using hj
  · intro r' A' c' w' h1 h2 h3
    refine h r' A' c' w' h1 ((hk.mono fun _ _ h => h.elim).trans h2) fun k hk => (h3 k hk).imp id fun h => ?_
    have := (Kept.refl (fun _ => False) W).alloc (.cells cs.toArray T fr) |>.size
    omega
section
variable {w : World} {b : Nat} {F : Nat → Prop} {L : Lane}
def tookV (v : Int) (q : Int × Int) (lt : Bool) (e : Int) : Value := .tuple #[.int .i64 v, .agg #[.int .i64 q.1, .int .i64 q.2], .bool lt, .int .i64 e]
theorem take_none (h : At w b F L) (hv : L.vals = []) : Calls Try.prog 25 #[.pointer (some ⟨b, 0, none⟩)] w (Ends w b F L (tookV 0 (0, 0) false 21)) := by
  have hA := h.still ((Kept.refl (fun _ => False) w).alloc (.cells #[.int .i64 0, .int .i64 0] 36))
  have hA2 := h.new ((Kept.refl (fun _ => False) w).alloc (.cells #[.int .i64 0, .int .i64 0] 36))
  obtain ⟨⟨rv, Av, cv, rw, Aw, cw, hp, h1, h2⟩, h3, h4⟩ := hA2
  obtain ⟨c0, c1, c2, c3, c4⟩ := hp.cells
  rw [hv] at c1
  have hb := hp.vals.bound
  have HA := Lib.hid hA
  clear hA
  clear hp h1 h2 h3 h4 h hv hb
  go_enter Try.func25, Try.ntmps25
  go_wp2_with fail
  refine bodyPost_ret (v := tookV 0 (0, 0) false 21) (by simp [results, Try.results25, go_sem, tookV]) rfl ⟨rfl, HA.out, (Kept.refl _ _).alloc _⟩
/-- The end of Take: the result is laid into its cells. -/
theorem take_fin {w W3 : World} {b : Nat} {F : Nat → Prop} {L L' : Lane} (h : At w b F L) {rv : Option Nat} {Av : Option Addr} {cv : Nat} {rw : Option Nat} {Aw : Option Addr} {cw : Nat} (hp : Parts W3 b L' rv Av cv rw Aw cw)
    (hv : ∀ k, rv = some k → (F k ∨ w.heap.size ≤ k) ∧ k ≠ w.heap.size) (hw : ∀ k, rw = some k → (F k ∨ w.heap.size ≤ k) ∧ k ≠ w.heap.size) (hk : Kept F w W3) {T : TypeId} {c0 c1 : Value} (ht : Blk W3 w.heap.size T #[c0, c1]) (a0 a1 : Value) :
    At (((W3.setCell ⟨w.heap.size, 0, none⟩ a0).setCell ⟨w.heap.size, 1, none⟩ a1).drew) b (grow F w (((W3.setCell ⟨w.heap.size, 0, none⟩ a0).setCell ⟨w.heap.size, 1, none⟩ a1).drew)) L' ∧ Kept F w (((W3.setCell ⟨w.heap.size, 0, none⟩ a0).setCell ⟨w.heap.size, 1, none⟩ a1).drew) ∧
      (((W3.setCell ⟨w.heap.size, 0, none⟩ a0).setCell ⟨w.heap.size, 1, none⟩ a1).drew).cell? ⟨w.heap.size, 0, none⟩ = some a0 ∧ (((W3.setCell ⟨w.heap.size, 0, none⟩ a0).setCell ⟨w.heap.size, 1, none⟩ a1).drew).cell? ⟨w.heap.size, 1, none⟩ = some a1 := by
  have hb := h.lt b h.fb
  have hk1 : Kept (fun k => k = w.heap.size) W3 (((W3.setCell ⟨w.heap.size, 0, none⟩ a0).setCell ⟨w.heap.size, 1, none⟩ a1).drew) := (Kept.setCell (p := ⟨w.heap.size, 1, none⟩) (Kept.setCell (p := ⟨w.heap.size, 0, none⟩) (Kept.refl (fun k => k = w.heap.size) W3) (.inr rfl) a0) (.inr rfl) a1).drew
  have hkk : Kept F w (((W3.setCell ⟨w.heap.size, 0, none⟩ a0).setCell ⟨w.heap.size, 1, none⟩ a1).drew) := hk.step hk1 fun k hk e => by omega
  have hp' := hp.kept hk1 (by omega) (fun k hk => (hv k hk).2) (fun k hk => (hw k hk).2)
  have hb2 := (ht.set (i := 0) a0).set (i := 1) a1
  refine ⟨PartsT.ends h hp' (fun k hk => (hv k hk).1) (fun k hk => (hw k hk).1) hkk.size, hkk, ?_, ?_⟩
  · exact hb2.cell 0
  · exact hb2.cell 1
set_option maxHeartbeats 1000000 in
theorem take_plain (h : At w b F L) (v : Int) (rest : List Int) (hv : L.vals = v :: rest) (hw : L.waits = []) (ht : 0 ≤ L.taken ∧ L.taken ≤ 65535) : Calls Try.prog 25 #[.pointer (some ⟨b, 0, none⟩)] w (Ends w b F { L with vals := rest, taken := min (L.taken + 1) 65535 } (tookV v (0, 0) false 0)) := by
  have hA2 := h.new ((Kept.refl (fun _ => False) w).alloc (.cells #[.int .i64 0, .int .i64 0] 36))
  obtain ⟨⟨rv, Av, cv, rw, Aw, cw, hp, h1, h2⟩, h3, h4⟩ := hA2
  obtain ⟨c0, c1, c2, c3, c4⟩ := hp.cells
  have hvals := hp.vals
  rw [hv, List.length_cons] at c1 hvals
  rw [hw] at c2
  have hbd := hvals.bound
  obtain ⟨g, o, rfl, rfl, hce, -⟩ := hvals.at_pos (by omega)
  have x0 : (w.alloc (.cells #[.int .i64 0, .int .i64 0] 36)).cell? ⟨g, o, none⟩ = some (.int .i64 v) := by have := hce 0 (by omega); simpa using this
  obtain ⟨n, hn⟩ : ∃ n, n = rest.length := ⟨_, rfl⟩
  rw [← hn] at c1 hvals hbd
  have HN := Lib.hid hn
  have hb3 : Blk (w.alloc (.cells #[.int .i64 0, .int .i64 0] 36)) w.heap.size 36 #[.int .i64 0, .int .i64 0] := Blk.made _ _ _
  have hn0 : New w (w.alloc (.cells #[.int .i64 0, .int .i64 0] 36)) := (Kept.refl _ _).alloc _
  have hs0 := size1 w (.cells #[.int .i64 0, .int .i64 0] 36)
  obtain ⟨A1, hA1, hsl⟩ := run_from1 (P := Try.prog) 26 2 1 Try.underlying26 (fun W => by kernel_rfl) g o n cv hbd.1
  have HP := Lib.hid hp
  have H1 := Lib.hid h1
  have H2 := Lib.hid h2
  have H3 := Lib.hid h3
  have H4 := Lib.hid h4
  have HVALS := Lib.hid hvals
  have HB3 := Lib.hid hb3
  have HN0 := Lib.hid hn0
  have HS0 := Lib.hid hs0
  have HA1 := Lib.hid hA1
  clear hp h1 h2 h3 h4 hvals hb3 hn0 hs0 hA1
  have HMORE := Lib.hid (fun W => more_any L.taken W ht.1 ht.2)
  clear hce hn
  go_enter Try.func25, Try.ntmps25
  go_wp2_with fail
  generalize w.alloc (.cells #[.int .i64 0, .int .i64 0] 36) = W0 at *
  obtain ⟨W2, hcopy, hrow2, hk2, hz2⟩ := take_copy (P := Try.prog) (W := W0.drew) (T := 26) (E := 2) Try.underlying26 (by kernel_rfl) (show Row W0.drew 1 (some g) (some ⟨g, o, none⟩) (n + 1) cv _ from Row.drewN HVALS.out 1) HN.out.symm A1 HA1.out
  have hk02 : Kept (fun k => some g = some k) W0 W2 := ((Kept.refl _ _).drew).step hk2 fun k _ h => by rw [h]
  have hgb : ¬ g = b := fun e => HP.out.d1 (by rw [e])
  have hbk2 := HP.out.blk.kept hk02 HP.out.d1
  have hp2 := HP.out.put_vals (vals' := rest) (r' := some g) (A' := some ⟨g, o, none⟩) (c' := cv) (w2 := W2) (by rw [← HN.out]; exact hrow2) hk02 (fun k h => .inl h)
  rw [← HN.out] at hp2
  have y1 := hbk2.cell 1
  have y2 := hbk2.cell 2
  have y3 := hbk2.cell 3
  have yf := hbk2.free
  simp only [laneC, hv, hw, List.length_cons, List.length_nil, List.getElem?_toArray, List.getElem?_cons_zero, List.getElem?_cons_succ] at y1 y2 y3
  rw [← HN.out] at y1
  have hp3 := hp2.put_taken (min (L.taken + 1) 65535)
  have hbw : b < w.heap.size := h.lt b h.fb
  have hgw : g < w.heap.size := h.lt g (H1.out g rfl)
  have ht2 : Blk W2 w.heap.size 36 #[.int .i64 0, .int .i64 0] := HB3.out.kept hk02 (fun e => by injection e with e; omega)
  have hn2 : Kept F w W2 := (HN0.out.mono fun _ _ h => h.elim).step hk02 fun k hk e => by injection e with e; subst e; exact H1.out _ rfl
  have HK2 := Lib.hid hk2
  have HZ2 := Lib.hid hz2
  have HP2 := Lib.hid hp2
  have HP3 := Lib.hid hp3
  have HBK2 := Lib.hid hbk2
  have HT2 := Lib.hid ht2
  have HN2 := Lib.hid hn2
  have HGB := Lib.hid hgb
  clear hk2 hz2 hp2 hp3 hbk2 ht2 hn2 hgb
  clear hrow2 hk02
  go_still_tail 9, (by kernel_rfl)
  change wpList _ _ _ _ _ W0.drew
  go_wp2_with (refine (HMORE.out _).mono ?_; rintro e w' ⟨rfl, rfl⟩)
  generalize hW3 : ((W2.setCell ⟨b, 1, none⟩ (.slice (some ⟨g, o, none⟩) n cv)).setCell ⟨b, 3, none⟩ (.int .i64 (min (L.taken + 1) 65535))) = W3
  have hq3 := HP3.out
  rw [hW3] at hq3
  have ht3 : Blk W3 w.heap.size 36 #[.int .i64 0, .int .i64 0] := by rw [← hW3]; exact (HT2.out.other (p := ⟨b, 1, none⟩) (by show w.heap.size ≠ b; omega) _).other (p := ⟨b, 3, none⟩) (by show w.heap.size ≠ b; omega) _
  have hn3 : Kept F w W3 := by rw [← hW3]; exact (HN2.out.setCell (.inr H3.out) _).setCell (.inr H3.out) _
  have z0 := ht3.cell 0
  have z1 := ht3.cell 1
  have zf := ht3.free
  simp only [List.getElem?_toArray, List.getElem?_cons_zero, List.getElem?_cons_succ] at z0 z1
  have HQ3 := Lib.hid hq3
  have HT3 := Lib.hid ht3
  have HN3 := Lib.hid hn3
  clear hq3 ht3 hn3
  clear hW3 y1 y2 y3 yf c0 c1 c2 c3 c4 x0 hsl hcopy
  go_region
  obtain ⟨e1, e2, e3, e4⟩ := take_fin h HQ3.out (fun k hk => ⟨.inl (H1.out k hk), by have := h.lt k (H1.out k hk); omega⟩) (fun k hk => ⟨.inl (H2.out k hk), by have := h.lt k (H2.out k hk); omega⟩) HN3.out HT3.out (.int .i64 0) (.int .i64 0)
  have E1 := Lib.hid e1
  have E2 := Lib.hid e2
  clear e1 e2
  go_wp2_with fail
  refine bodyPost_ret (v := tookV v (0, 0) false 0) (by simp [results, Try.results25, go_sem, tookV, e3, e4]) rfl ⟨rfl, E1.out, E2.out⟩
set_option maxHeartbeats 2000000 in
theorem take_in (h : At w b F L) (v : Int) (rest : List Int) (hv : L.vals = v :: rest) (q : Int × Int) (ws : List (Int × Int)) (hw : L.waits = q :: ws) (hlen : L.vals.length ≤ 1048576) (ht : 0 ≤ L.taken ∧ L.taken ≤ 65535) : Calls Try.prog 25 #[.pointer (some ⟨b, 0, none⟩)] w (Ends w b F { L with vals := rest ++ [q.2], waits := ws, taken := min (L.taken + 1) 65535 } (tookV v q true 0)) := by
  have hA2 := h.new ((Kept.refl (fun _ => False) w).alloc (.cells #[.int .i64 0, .int .i64 0] 36))
  obtain ⟨⟨rv, Av, cv, rw, Aw, cw, hp, h1, h2⟩, h3, h4⟩ := hA2
  obtain ⟨c0, c1, c2, c3, c4⟩ := hp.cells
  have hvals := hp.vals
  rw [hv, List.length_cons] at c1 hvals
  rw [hw, List.length_cons] at c2
  have hbd := hvals.bound
  obtain ⟨g, o, rfl, rfl, hce, -⟩ := hvals.at_pos (by omega)
  have x0 : (w.alloc (.cells #[.int .i64 0, .int .i64 0] 36)).cell? ⟨g, o, none⟩ = some (.int .i64 v) := by have := hce 0 (by omega); simpa using this
  obtain ⟨n, hn⟩ : ∃ n, n = rest.length := ⟨_, rfl⟩
  rw [← hn] at c1 hvals hbd
  have HN := Lib.hid hn
  have hb3 : Blk (w.alloc (.cells #[.int .i64 0, .int .i64 0] 36)) w.heap.size 36 #[.int .i64 0, .int .i64 0] := Blk.made _ _ _
  have hn0 : New w (w.alloc (.cells #[.int .i64 0, .int .i64 0] 36)) := (Kept.refl _ _).alloc _
  have hs0 := size1 w (.cells #[.int .i64 0, .int .i64 0] 36)
  obtain ⟨A1, hA1, hsl⟩ := run_from1 (P := Try.prog) 26 2 1 Try.underlying26 (fun W => by kernel_rfl) g o n cv hbd.1
  have hwts := hp.waits
  rw [hw, List.length_cons, List.flatMap_cons] at hwts
  have hbw' := hwts.bound
  obtain ⟨gw, ow, rfl, rfl, hcw, -⟩ := hwts.at_pos (by omega)
  obtain ⟨m, hm⟩ : ∃ m, m = ws.length := ⟨_, rfl⟩
  rw [← hm] at c2 hwts hbw'
  have HM := Lib.hid hm
  have q0 : (w.alloc (.cells #[.int .i64 0, .int .i64 0] 36)).cell? ⟨gw, ow, none⟩ = some (.int .i64 q.1) := by have := hcw 0 (by omega); simpa [cellsW] using this
  have q1 : (w.alloc (.cells #[.int .i64 0, .int .i64 0] 36)).cell? ⟨gw, ow + 1, none⟩ = some (.int .i64 q.2) := by have := hcw 1 (by omega); simpa [cellsW] using this
  obtain ⟨A3, hA3, hsl3⟩ := run_from1m (P := Try.prog) 27 36 2 Try.underlying27 (fun W => by kernel_rfl) gw ow m cw hbw'.1
  have hgd3 := hp.d3 g rfl
  have hgwb : ¬ gw = b := fun e => hp.d2 (by rw [e])
  have hggw : ¬ g = gw := fun e => hgd3 (by rw [e])
  have HP := Lib.hid hp
  have H1 := Lib.hid h1
  have H2 := Lib.hid h2
  have H3 := Lib.hid h3
  have H4 := Lib.hid h4
  have HVALS := Lib.hid hvals
  have HB3 := Lib.hid hb3
  have HN0 := Lib.hid hn0
  have HS0 := Lib.hid hs0
  have HA1 := Lib.hid hA1
  have HA3 := Lib.hid hA3
  clear hp h1 h2 h3 h4 hvals hb3 hn0 hs0 hA1 hA3
  have HMORE := Lib.hid (fun W => more_any L.taken W ht.1 ht.2)
  clear hce hn hcw hm
  go_enter Try.func25, Try.ntmps25
  go_wp2_with fail
  generalize w.alloc (.cells #[.int .i64 0, .int .i64 0] 36) = W0 at *
  obtain ⟨W2, hcopy, hrow2, hk2, hz2⟩ := take_copy (P := Try.prog) (W := W0.drew) (T := 26) (E := 2) Try.underlying26 (by kernel_rfl) (show Row W0.drew 1 (some g) (some ⟨g, o, none⟩) (n + 1) cv _ from Row.drewN HVALS.out 1) HN.out.symm A1 HA1.out
  have hk02 : Kept (fun k => some g = some k) W0 W2 := ((Kept.refl _ _).drew).step hk2 fun k _ h => by rw [h]
  have hgb : ¬ g = b := fun e => HP.out.d1 (by rw [e])
  have hbk2 := HP.out.blk.kept hk02 HP.out.d1
  have q2 : W2.cell? ⟨gw, ow, none⟩ = some (.int .i64 q.1) := (hk02.cell (p := ⟨gw, ow, none⟩) (lt_of_cell q0).1 (fun e => hggw (by injection e))).trans q0
  have q3 : W2.cell? ⟨gw, ow + 1, none⟩ = some (.int .i64 q.2) := (hk02.cell (p := ⟨gw, ow + 1, none⟩) (lt_of_cell q1).1 (fun e => hggw (by injection e))).trans q1
  have hp2 := HP.out.put_vals (vals' := rest) (r' := some g) (A' := some ⟨g, o, none⟩) (c' := cv) (w2 := W2) (by rw [← HN.out]; exact hrow2) hk02 (fun k h => .inl h)
  rw [← HN.out] at hp2
  have y1 := hbk2.cell 1
  have y2 := hbk2.cell 2
  have y3 := hbk2.cell 3
  have yf := hbk2.free
  simp only [laneC, hv, hw, List.length_cons, List.length_nil, List.getElem?_toArray, List.getElem?_cons_zero, List.getElem?_cons_succ] at y1 y2 y3
  rw [← HN.out] at y1
  rw [← HM.out] at y2
  have hp3 := hp2.put_taken (min (L.taken + 1) 65535)
  have hbw : b < w.heap.size := h.lt b h.fb
  have ht2' : Blk W2 w.heap.size 36 #[.int .i64 0, .int .i64 0] := HB3.out.kept hk02 (fun e => by injection e with e; have := h.lt g (H1.out g rfl); omega)
  have hgw : g < w.heap.size := h.lt g (H1.out g rfl)
  have hgww : gw < w.heap.size := h.lt gw (H2.out gw rfl)
  have nb1 : b ≠ w.heap.size := by omega
  have nb2 : gw ≠ w.heap.size := by omega
  have nb3 : b ≠ gw := fun e => hgwb e.symm
  have z0 := ht2'.cell 0
  have z1 := ht2'.cell 1
  have zf := ht2'.free
  simp only [List.getElem?_toArray, List.getElem?_cons_zero, List.getElem?_cons_succ] at z0 z1
  have ht2 := ht2'
  have hn2 : Kept F w W2 := (HN0.out.mono fun _ _ h => h.elim).step hk02 fun k hk e => by injection e with e; subst e; exact H1.out _ rfl
  have HK2 := Lib.hid hk2
  have HZ2 := Lib.hid hz2
  have HP2 := Lib.hid hp2
  have HP3 := Lib.hid hp3
  have HBK2 := Lib.hid hbk2
  have HT2 := Lib.hid ht2
  have HN2 := Lib.hid hn2
  have HGB := Lib.hid hgb
  clear hk2 hz2 hp2 hp3 hbk2 ht2 hn2 hgb
  clear hrow2 hk02
  go_still_tail 9, (by kernel_rfl)
  change wpList _ _ _ _ _ W0.drew
  go_wp2_with (refine (HMORE.out _).mono ?_; rintro e w' ⟨rfl, rfl⟩)
  generalize hW3 : ((((W2.setCell ⟨b, 1, none⟩ (.slice (some ⟨g, o, none⟩) n cv)).setCell ⟨b, 3, none⟩ (.int .i64 (min (L.taken + 1) 65535))).setCell ⟨w.heap.size, 0, none⟩ (.int .i64 q.1)).setCell ⟨w.heap.size, 1, none⟩ (.int .i64 q.2)) = W3
  have hk3 : Kept (fun k => k = w.heap.size) ((W2.setCell ⟨b, 1, none⟩ (.slice (some ⟨g, o, none⟩) n cv)).setCell ⟨b, 3, none⟩ (.int .i64 (min (L.taken + 1) 65535))) W3 := by
    rw [← hW3]; exact Kept.setCell (p := ⟨w.heap.size, 1, none⟩) (Kept.setCell (p := ⟨w.heap.size, 0, none⟩) (Kept.refl (fun k => k = w.heap.size) _) (.inr rfl) _) (.inr rfl) _
  have hq3 := HP3.out.kept hk3 nb1 (fun k hk e => by injection hk with hk; omega) (fun k hk e => by injection hk with hk; omega)
  have ht3 : Blk W3 w.heap.size 36 #[.int .i64 q.1, .int .i64 q.2] := by
    have := ((HT2.out.other (p := ⟨b, 1, none⟩) nb1.symm (.slice (some ⟨g, o, none⟩) n cv)).other (p := ⟨b, 3, none⟩) nb1.symm (.int .i64 (min (L.taken + 1) 65535)))
    have := (this.set (i := 0) (.int .i64 q.1)).set (i := 1) (.int .i64 q.2)
    rw [hW3] at this
    simpa using this
  have hn3 : Kept F w W3 := by
    rw [← hW3]
    exact (((HN2.out.setCell (p := ⟨b, 1, none⟩) (.inr H3.out) _).setCell (p := ⟨b, 3, none⟩) (.inr H3.out) _).setCell (p := ⟨w.heap.size, 0, none⟩) (.inl (Nat.le_refl _)) _).setCell (p := ⟨w.heap.size, 1, none⟩) (.inl (Nat.le_refl _)) _
  have hws3 : ∃ r', Row W3 2 r' A3 m m (ws.flatMap cellsW) ∧ ∀ k, r' = some k → k = gw := by
    have hr := hq3.waits
    rw [show ({ L with vals := rest, taken := min (L.taken + 1) 65535 } : Lane).waits = L.waits from rfl, hw, List.length_cons, List.flatMap_cons, ← HM.out] at hr
    rcases HA3.out with e | e
    · by_cases h0 : m = 0
      · have := HM.out
        have e2 : ws = [] := List.eq_nil_of_length_eq_zero (by omega)
        exact ⟨none, ⟨by rw [e2, h0]; rfl, .inl ⟨rfl, h0, h0⟩⟩, by simp⟩
      · obtain ⟨g', o', e1, e2, hr'⟩ := hr.cut (lo := 1) (hi := m + 1) (c' := m) (by omega) (Nat.le_refl _) (by omega) (by omega) (by omega)
        injection e2 with e2
        injection e2 with e3 e4
        subst e3; subst e4
        refine ⟨some gw, ?_, fun k hk => by injection hk with hk; exact hk.symm⟩
        rw [e]
        have hlen : (ws.flatMap cellsW).length = m * 2 := by rw [flatMap_len (size := 2) ws (fun x _ => rfl), ← HM.out]
        rw [show (cellsW q ++ ws.flatMap cellsW).drop (1 * 2) = ws.flatMap cellsW from rfl, show m + 1 - 1 = m by omega, List.take_of_length_le (by omega)] at hr'
        exact hr'
    · have := HM.out
      have e2 : ws = [] := List.eq_nil_of_length_eq_zero (by omega)
      exact ⟨none, ⟨by rw [e2, e]; rfl, .inl ⟨rfl, e, e⟩⟩, by simp⟩
  obtain ⟨rw4, hrw4, hrw5⟩ := hws3
  have hq4 := hq3.put_waits (ws := ws) (r' := rw4) (A' := A3) (c' := m) (w2 := W3.drew) (by rw [← HM.out]; exact Row.drewN hrw4 1) ((Kept.refl _ _).drew) (fun k hk => .inl (by rw [hrw5 k hk]))
  have v1 := hq3.blk.cell 1
  have v2 := hq3.blk.cell 2
  have vf := hq3.blk.free
  simp only [laneC, hw, List.length_cons, List.getElem?_toArray, List.getElem?_cons_zero, List.getElem?_cons_succ] at v1 v2
  rw [← HN.out] at v1
  rw [← HM.out] at v2 hq4
  have z0 := ht3.cell 0
  have z1 := ht3.cell 1
  have zf := ht3.free
  simp only [List.getElem?_toArray, List.getElem?_cons_zero, List.getElem?_cons_succ] at z0 z1
  have HQ3 := Lib.hid hq3
  have HQ4 := Lib.hid hq4
  have HT3 := Lib.hid ht3
  have HN3 := Lib.hid hn3
  have HRW4 := Lib.hid hrw4
  have HRW5 := Lib.hid hrw5
  have HK3 := Lib.hid hk3
  clear hq3 hq4 ht3 hn3 hrw4 hrw5 hk3
  clear hW3 y1 y2 y3 yf c0 c1 c2 c3 c4 x0 hsl hcopy q0 q1 q2 q3
  go_still_tail 18, (by kernel_rfl)
  change wpList _ _ _ _ _ W3.drew
  go_wp2_with fail
  have hq4' : Parts (W3.setCell ⟨b, 2, none⟩ (.slice A3 m m)).drew b _ (some g) (some ⟨g, o, none⟩) cv rw4 A3 m := HQ4.out
  have ht4 : Blk (W3.setCell ⟨b, 2, none⟩ (.slice A3 m m)).drew w.heap.size 36 #[.int .i64 q.1, .int .i64 q.2] := Blk.kept (HT3.out.other (p := ⟨b, 2, none⟩) nb1.symm _) ((Kept.refl (fun _ => False) _).drew) id
  have hn4 : Kept F w (W3.setCell ⟨b, 2, none⟩ (.slice A3 m m)).drew := (HN3.out.setCell (p := ⟨b, 2, none⟩) (.inr H3.out) _).drew
  generalize (W3.setCell ⟨b, 2, none⟩ (.slice A3 m m)).drew = W4 at *
  have v1 := hq4'.blk.cell 1
  have vf := hq4'.blk.free
  simp only [laneC, List.getElem?_toArray, List.getElem?_cons_zero, List.getElem?_cons_succ] at v1
  rw [← HN.out] at v1
  have z0 := ht4.cell 0
  have z1 := ht4.cell 1
  simp only [List.getElem?_toArray, List.getElem?_cons_zero, List.getElem?_cons_succ] at z0 z1
  have zf := ht4.free
  have hrv := hq4'.vals
  rw [← HN.out] at hrv
  have hbmax : n + 1 ≤ 1048576 := by have := HN.out; rw [hv, List.length_cons] at hlen; omega
  have v3 : (W4.alloc (.cells #[.int .i64 q.2] 2)).cell? ⟨b, 1, none⟩ = some (.slice (some ⟨g, o, none⟩) n cv) := (((Kept.refl (fun _ => False) W4).alloc _).cell (p := ⟨b, 1, none⟩) (lt_of_cell v1).1 id).trans v1
  have HQ4' := Lib.hid hq4'
  have HT4 := Lib.hid ht4
  have HN4 := Lib.hid hn4
  have HRV := Lib.hid hrv
  have HBMAX := Lib.hid hbmax
  clear hq4' ht4 hn4 hrv hbmax
  clear hlen
  go_region_law (refine step_append_one (W := W4.drew) (T := 2) (fr := (0, 0)) (cs := [.int .i64 q.2]) tyVals rfl (.tmp 81) (.tmp 84) rfl rfl (Row.drewN HRV.out 1) rfl rfl rfl rfl (by simp [Value.oneCell']) (by have := HBMAX.out; unfold maxLen; omega) (by have := HBMAX.out; omega) ?_; intro r2 A2 c2' w2 hr2 hk2 hn2; have hb2 := HQ4'.out.blk.kept ((Kept.refl _ _).drew.trans hk2) HQ4'.out.d1; have x1 := hb2.cell 1; have x2 := hb2.free; simp only [laneC, List.getElem?_toArray, List.getElem?_cons_zero, List.getElem?_cons_succ] at x1; have HR2 := Lib.hid hr2; have HK2 := Lib.hid hk2; have HN2 := Lib.hid hn2; clear hr2 hk2 hn2 hb2)
  all_goals
    have hkw : Kept (fun k => some g = some k) W4 w2 := ((Kept.refl _ _).drew).trans HK2.out
    have hp5 := HQ4'.out.put_vals (vals' := rest ++ [q.2]) (r' := r2) (A' := A2) (c' := c2') (w2 := w2) (by have := HR2.out; rw [List.length_append, List.map_append, ← HN.out]; exact this) hkw HN2.out
    have el : (rest ++ [q.2]).length = n + 1 := by rw [List.length_append, ← HN.out]; rfl
    rw [el] at hp5
    have hn5 : Kept F w (w2.setCell ⟨b, 1, none⟩ (.slice A2 (n + 1) c2')) := (HN4.out.step hkw fun k hk e => by injection e with e; subst e; exact H1.out _ rfl).setCell (.inr H3.out) _
    have ht5 : Blk (w2.setCell ⟨b, 1, none⟩ (.slice A2 (n + 1) c2')) w.heap.size 36 #[.int .i64 q.1, .int .i64 q.2] := (HT4.out.kept hkw (fun e => by injection e with e; omega)).other (p := ⟨b, 1, none⟩) nb1.symm _
    have hv5 : ∀ k, r2 = some k → (F k ∨ w.heap.size ≤ k) ∧ k ≠ w.heap.size := by
      intro k hk
      have := HN4.out.size
      have hlt := (HT4.out).lt
      rcases HN2.out k hk with e | e
      · injection e with e; subst e; exact ⟨.inl (H1.out _ rfl), by omega⟩
      · have e' : W4.heap.size ≤ k := e
        exact ⟨.inr (by omega), by omega⟩
    generalize hW5 : w2.setCell ⟨b, 1, none⟩ (.slice A2 (n + 1) c2') = W5 at *
    have t0 := ht5.cell 0
    have t1 := ht5.cell 1
    have tf := ht5.free
    simp only [List.getElem?_toArray, List.getElem?_cons_zero, List.getElem?_cons_succ] at t0 t1
    have HP5 := Lib.hid hp5
    have HN5 := Lib.hid hn5
    have HT5 := Lib.hid ht5
    have HV5 := Lib.hid hv5
    clear hp5 hn5 ht5 hv5
    clear hW5 hkw x1 x2 v1 v3 vf z0 z1 zf el
    go_upto_region 11 with (fail)
    go_region
    obtain ⟨e1, e2, e3, e4⟩ := take_fin h HP5.out HV5.out (fun k hk => by have := HRW5.out k hk; subst this; exact ⟨.inl (H2.out _ rfl), nb2⟩) HN5.out HT5.out (.int .i64 q.1) (.int .i64 q.2)
    have E1 := Lib.hid e1
    have E2 := Lib.hid e2
    clear e1 e2
    go_wp2_with fail
    refine bodyPost_ret (v := tookV v q true 0) (by simp [results, Try.results25, go_sem, tookV, e3, e4]) rfl ⟨rfl, E1.out, E2.out⟩
end
end Go.Proofs.Ytnfaafdgfafcjaa.Lane
