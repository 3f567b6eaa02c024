/- append as one step of a region that draws, over rows that may grow. Over any program. -/
import Derived.Test.YtaefgljpdpigeaaOwn
import Derived.Deep.DrawnRows
namespace Go.Fb
open Go.RowKit
set_option linter.unusedVariables false
/-- append, as one step of a region that draws. -/
theorem step_append_row {P : Program} {w : World} {t tx e : TypeId} {size bytes : Nat} (ty : SliceTy P t e size bytes) {ops : Array Oper} {o : Oper} {a : Act} {K : Act → World → Prop} {Q : Exit → Act → World → Prop} {E : Prop} (hgd : o.guard = none) (s x : Operand)
    (ho : o.op = .call { callee := .builtin .append, args := #[s, x], argTypes := #[t, tx] }) {r : Option Nat} {A : Option Addr} {n c : Nat} {xs : List Value} (hs : a.eval s = .slice A n c) (hrow : Row w size r A n c xs)
    {vx : Value} {m : Nat} {news : List Value} (hx : a.eval x = vx) (hsrc : Go.Src P size tx vx m news w) (h63 : n + m ≤ maxLen) (hbytes : (n + m) * bytes ≤ 140737488355328)
    (h : ∀ r' A' c' w', Row w' size r' A' (n + m) c' (xs ++ news) → Kept (fun k => r = some k) w w' → (∀ k, r' = some k → r = some k ∨ w.heap.size ≤ k) → K (a.put o.dst (.slice A' (n + m) c')) w') :
    if Region.wanted o (yielded ops a.tmps) = true then Oper.wp P o a w K Q else E := by
  have hw : Region.wanted o (yielded ops a.tmps) = true := by simp [Region.wanted, hgd]
  rw [if_pos hw]
  obtain ⟨r', A', c', w', hrun, h1, h2, h3⟩ := run_append_row (P := P) ty o.type hrow hsrc h63 hbytes
  unfold Oper.wp
  simp [execOp, ho, resolve, invoke, builtin, hs, hx, hrun, Result.andThen]
  exact h r' A' c' w' h1 h2 h3
/-- append of a thing that was just built, as one step of a region that draws. -/
theorem step_append_one {P : Program} {W W1 : World} {t e : TypeId} {size bytes : Nat} (ty : SliceTy P t e size bytes) {ops : Array Oper} {o : Oper} {a : Act} {K : Act → World → Prop} {Q : Exit → Act → World → Prop} {E : Prop} (hgd : o.guard = none) (s x : Operand)
    (ho : o.op = .call { callee := .builtin .append, args := #[s, x], argTypes := #[t, t] }) {r : Option Nat} {A : Option Addr} {n c : Nat} {xs : List Value} (hs : a.eval s = .slice A n c) (hrow : Row W size r A n c xs)
    {g c0 : Nat} {cs : List Value} {T : TypeId} {fr : Nat × Nat} (hW1 : W1 = W.alloc (.cells cs.toArray T fr)) (hg : g = W.heap.size) (hx : a.eval x = .slice (some ⟨g, 0, none⟩) 1 c0) (hl : cs.length = size) (h1 : ∀ u ∈ cs, u.oneCell' = true) (h63 : n + 1 ≤ maxLen) (hbytes : (n + 1) * bytes ≤ 140737488355328)
    (h : ∀ r' A' c' w', Row w' size r' A' (n + 1) c' (xs ++ cs) → Kept (fun k => r = some k) W w' → (∀ k, r' = some k → r = some k ∨ W.heap.size ≤ k) → K (a.put o.dst (.slice A' (n + 1) c')) w') :
    if Region.wanted o (yielded ops a.tmps) = true then Oper.wp P o a W1 K Q else E := by
  subst hW1
  have hk : New W (W.alloc (.cells cs.toArray T fr)) := (Kept.refl _ _).alloc _
  refine step_append_row ty hgd s x ho hs (hrow.new ty.pos hk) hx (Go.Src.ofSlice _ ty.under _ 1 c0 cs (by omega) (fun j u hj => ?_) h1) h63 hbytes ?_
  · have hb : (W.alloc (.cells cs.toArray T fr)).heap[W.heap.size]? = some (.cells cs.toArray T fr) := by
      show (W.heap.push _)[W.heap.size]? = _
      simp
    rw [add_eq, Nat.zero_add, hg]
    unfold World.cell?
    simp only [hb]
    simpa using hj
  · intro r' A' c' w' h1 h2 h3
    refine h r' A' c' w' h1 ((hk.mono fun _ _ h => h.elim).trans h2) fun k hk => (h3 k hk).imp id fun h => ?_
    have := (Kept.refl (fun _ => False) W).alloc (.cells cs.toArray T fr) |>.size
    omega
/-- A function with a body is entered. -/
theorem enters {P : Program} {f : FuncId} {fn : Func} {c : Code} (hf : P.funcs[f]? = some fn) (hname : (fn.name == "runtime.NumGoroutine") = false) (hb : fn.body = some c) (args : Array Value) (w : World) : (callFunc f args).run P w = .ok (.enter f args) w := by
  have h1 : fn.name ≠ "runtime.NumGoroutine" := by simpa using hname
  simp [callFunc, hf, h1, hb]
/-- A call of a function by its contract, as one step of a region that draws. -/
theorem step_call {P : Program} {w : World} {ops : Array Oper} {o : Oper} {a : Act} {K : Act → World → Prop} {Q : Exit → Act → World → Prop} {E : Prop} {f : FuncId} {vs : Array Value} (hen : ∀ (args : Array Value) (w : World), (callFunc f args).run P w = .ok (.enter f args) w) (xs : Array Operand) (ts : Array TypeId)
    (hgd : o.guard = none) (ho : o.op = .call { callee := .value (.func f), args := xs, argTypes := ts }) (hv : xs.toList.map a.eval = vs.toList) {R : Ending → World → Prop} (hc : Calls P f vs w R) (h : ∀ e w', R e w' → ∃ v, e = .returned v ∧ K (a.put o.dst v) w') :
    if Region.wanted o (yielded ops a.tmps) = true then Oper.wp P o a w K Q else E := by
  have hw : Region.wanted o (yielded ops a.tmps) = true := by simp [Region.wanted, hgd]
  rw [if_pos hw]
  have hrun : (execOp a.eval o).run P w = .ok (.enter f vs) w := by
    simp [execOp, ho, resolve, Deferred.ofValue, Act.eval, invoke, hen]
    exact Array.ext' (by simpa using hv)
  unfold Oper.wp
  rw [hrun, Oper.upon_enter]
  refine hc.mono fun e w' hr => ?_
  obtain ⟨v, rfl, hk⟩ := h e w' hr
  exact hk
end Go.Fb
