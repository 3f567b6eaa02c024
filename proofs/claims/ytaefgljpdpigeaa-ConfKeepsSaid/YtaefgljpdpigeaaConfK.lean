/- The walk of conf's reader's proc (layer 14): a process. -/
import Derived.Test.YtaefgljpdpigeaaConfJ
import Derived.Test.YtaefgljpdpigeaaORepB
namespace Go.Proofs.Ytaefgljpdpigeaa.Conf
open Go.RowKit Go.Fb Go.CodeP Go.BytesP Go.ReaderP
set_option linter.unusedVariables false
/-- Instructions that own no memory. -/
def insO : ORep Ins := ORep.flat 5 (by decide) Code.cellsI (fun _ => rfl) Code.Wf
/-- A process that owns its program's memory. -/
def procO : ORep (Int × List Ins) where
  size := 2
  pos := by decide
  own w F x cs := ∃ A c, cs = [.int .i64 x.1, .slice A x.2.length c] ∧ OSl insO w F A x.2.length c x.2 ∧ (Lit.int .i64 x.1).wf = true
  length h := by obtain ⟨_, _, h, _⟩ := h; rw [h]; rfl
  kept h hk hg := by obtain ⟨A, c, e, h, h2⟩ := h; exact ⟨A, c, e, h.kept hk hg, h2⟩
  mono h hF := by obtain ⟨A, c, e, h, h2⟩ := h; exact ⟨A, c, e, h.mono hF, h2⟩
theorem tyProc : SliceTy Try.prog 24 37 2 32 := by
  obtain ⟨i, hi, hz, hs, hb⟩ := info_parts (P := Try.prog) (e := 37) (z := .agg #[.int .i64 0, .slice none 0 0]) (size := 2) (bytes := 32) (by kernel_rfl)
  exact ⟨Try.underlying24, ⟨i, _, hi, hz, hs, hb, rfl⟩, by decide⟩
/-- How a program stands while it is read: the process lies in block pb. -/
structure CodeSt (base : Nat) (w wr : World) (r pb : Nat) (A : Option Addr) (n c : Nat) (s : St) (rl : Option Nat) (Ac : Option Addr) (cc : Nat) (acc : List Ins) (part : Int) : Prop where
  at_ : RAt wr r A n c s
  blk : Blk wr pb 37 #[.int .i64 part, .slice Ac acc.length cc]
  row : Row wr 5 rl Ac acc.length cc (acc.flatMap Code.cellsI)
  wf : ∀ x ∈ acc, Code.Wf x
  own : ∀ g, rl = some g → base ≤ g ∧ g ≠ r ∧ g ≠ pb
  keep : Kept (fun k => k = r ∨ k = pb) w wr
section
variable {base : Nat} {w wr w5 w6 : World} {r pb : Nat} {A : Option Addr} {n c : Nat} {s s5 : St} {rl r6 : Option Nat} {Ac A6 : Option Addr} {cc c6 : Nat} {acc : List Ins} {part : Int}
theorem CodeSt.push {x : Ins} (h : CodeSt base w wr r pb A n c s rl Ac cc acc part)
    (hcr : pb ≠ r) (hcl : pb < w.heap.size) (hrl : r < w.heap.size) (hw : w.heap.size ≤ base) (hbase : base ≤ wr.heap.size) (hr5 : RAt w5 r A n c s5) (hk5 : Kept (fun k => k = r) wr w5) (hx : Code.Wf x) (hrow : Row w6 5 r6 A6 (acc.length + 1) c6 (acc.flatMap Code.cellsI ++ Code.cellsI x)) (hk6 : Kept (fun k => rl = some k) w5 w6)
    (hn6 : ∀ k, r6 = some k → rl = some k ∨ w5.heap.size ≤ k) : CodeSt base w (w6.setCell ⟨pb, 1, none⟩ (.slice A6 (acc.length + 1) c6)) r pb A n c s5 r6 A6 c6 (acc ++ [x]) part := by
  have hl : (acc ++ [x]).length = acc.length + 1 := by rw [List.length_append]; rfl
  have hs5 := hk5.size
  have hks : Kept (fun k => k = pb) w6 (w6.setCell ⟨pb, 1, none⟩ (.slice A6 (acc.length + 1) c6)) := Kept.set1 _ _ _ _
  have ho : ∀ g, r6 = some g → base ≤ g ∧ g ≠ r ∧ g ≠ pb := fun g hg => by
    rcases hn6 g hg with e | e
    · exact h.own g e
    · exact ⟨by omega, by omega, by omega⟩
  refine ⟨(hr5.kept hk6 (fun e => (h.own r e).2.1 rfl)).kept hks (fun e => hcr e.symm), ?_, ?_, ?_, ho, ?_⟩
  · rw [hl]
    exact ((h.blk.kept hk5 hcr).kept hk6 (fun e => (h.own pb e).2.2 rfl)).set _
  · rw [hl, List.flatMap_append, List.flatMap_singleton]
    exact hrow.of_kept (by decide) hks (fun g hg e => (ho g hg).2.2 e)
  · intro y hy
    rcases List.mem_append.1 hy with hy | hy
    · exact h.wf y hy
    · rw [List.mem_singleton.1 hy]; exact hx
  · refine Kept.setCell (Kept.step (h.keep.trans (hk5.mono fun _ _ h => .inl h)) hk6 fun i hi e => ?_) (.inr (.inr rfl)) _
    have := (h.own i e).1
    omega
end
theorem Run.pure {α : Type} {s : St} {a : α} : Run (fun p => .ok (a, p)) s s a := by cases s with | ok p => exact ⟨rfl, rfl⟩ | error e => rfl
theorem Run.proc {bs : List UInt8} {parts locks : Int} {s s2 s4 s1 : St} {part v4 : Nat} {l : List Ins} (h1 : Run (numD bs 1 (partF parts)) s s2 part) (h2 : Run (numD bs 2 codeF) s2 s4 v4) (h3 : Run (codeD bs v4 locks v4 []) s4 s1 l) : Run (procD bs parts locks) s s1 ((part : Int), l) := by
  refine Run.bind (D1 := numD bs 1 (partF parts)) (D2 := fun q p1 => match numD bs 2 codeF p1 with
    | .error e => .error e
    | .ok (k, p2) => match codeD bs k locks k [] p2 with
      | .error e => .error e
      | .ok (l, p3) => .ok (((q : Int), l), p3)) h1 ?_ (fun p e h => by unfold procD; rw [h]) (fun p a p' h => by unfold procD; rw [h]; rfl)
  refine Run.bind (D1 := numD bs 2 codeF) (D2 := fun k p2 => match codeD bs k locks k [] p2 with
      | .error e => .error e
      | .ok (l, p3) => .ok (((part : Int), l), p3)) h2 ?_ (fun p e h => by simp only [h]) (fun p a p' h => by simp only [h])
  exact Run.bind (D1 := codeD bs v4 locks v4 []) (D2 := fun l p3 => .ok (((part : Int), l), p3)) h3 Run.pure (fun p e h => by simp only [h]) (fun p a p' h => by simp only [h])
/-- The process is laid behind the others. -/
theorem proc_close {w wr w3 w6 : World} {r pb cb : Nat} {A : Option Addr} {n c : Nat} {s1 : St} {rl r0 r6 : Option Nat} {Ac Ap A6 : Option Addr} {cc cp c6 : Nat} {l : List Ins} {acc : List (Int × List Ins)} {F : Nat → Prop} {part : Nat} {xs : List Value} {x0 x1 x2 x3 x4 x5 : Value}
    (hst : CodeSt w3.heap.size w3 wr r pb A n c s1 rl Ac cc l part) (hpt : part < 256) (hF : ∀ k, F k → k ≠ r ∧ k ≠ cb ∧ k < w.heap.size) (hcr : cb ≠ r) (hcl : cb < w.heap.size) (h3 : w.heap.size ≤ w3.heap.size) (hkw : Kept (fun k => k = r) w wr) (hcb : Blk wr cb 26 #[x0, x1, x2, x3, x4, x5, .slice Ap acc.length cp])
    (hr0 : ∀ k, r0 = some k → F k)
    (hclose : ∀ {w' : World} {r' : Option Nat} {A' : Option Addr} {c' : Nat} {x : Int × List Ins} {cs : List Value} {Fx F' : Nat → Prop}, Row w' 2 r' A' (acc.length + 1) c' (xs ++ cs) → Kept (fun k => r0 = some k) wr w' → (∀ k, r' = some k → r0 = some k ∨ wr.heap.size ≤ k) → (∀ k, F k → k < wr.heap.size) →
      procO.own wr Fx x cs → (∀ k, Fx k → ¬ F k ∧ k < wr.heap.size) → (∀ k, F k → F' k) → (∀ k, Fx k → F' k) → (∀ k, r' = some k → F' k) → OSl procO w' F' A' (acc.length + 1) c' (acc ++ [x]))
    (hr6 : Row w6 2 r6 A6 (acc.length + 1) c6 (xs ++ [.int .i64 (part : Int), .slice Ac l.length cc])) (hk6 : Kept (fun k => r0 = some k) wr w6) (hn6 : ∀ k, r6 = some k → r0 = some k ∨ wr.heap.size ≤ k) :
    ∃ F' : Nat → Prop, RAt (w6.setCell ⟨cb, 6, none⟩ (.slice A6 (acc.length + 1) c6)) r A n c s1 ∧ Blk (w6.setCell ⟨cb, 6, none⟩ (.slice A6 (acc.length + 1) c6)) cb 26 #[x0, x1, x2, x3, x4, x5, .slice A6 (acc.length + 1) c6] ∧ OSl procO (w6.setCell ⟨cb, 6, none⟩ (.slice A6 (acc.length + 1) c6)) F' A6 (acc.length + 1) c6 (acc ++ [((part : Int), l)]) ∧
      (∀ k, F' k → (F k ∨ w.heap.size ≤ k) ∧ k ≠ r ∧ k ≠ cb ∧ k < (w6.setCell ⟨cb, 6, none⟩ (.slice A6 (acc.length + 1) c6)).heap.size) ∧ Kept (fun k => k = r ∨ k = cb ∨ F k) w (w6.setCell ⟨cb, 6, none⟩ (.slice A6 (acc.length + 1) c6)) := by
  have hsz := hkw.size
  have hs6 := hk6.size
  have hks : Kept (fun k => k = cb) w6 (w6.setCell ⟨cb, 6, none⟩ (.slice A6 (acc.length + 1) c6)) := Kept.set1 _ _ _ _
  have hsS : (w6.setCell ⟨cb, 6, none⟩ (.slice A6 (acc.length + 1) c6)).heap.size = w6.heap.size := (size_set _ _ _).symm
  have hrl : ∀ k, rl = some k → w3.heap.size ≤ k ∧ k ≠ r ∧ k < wr.heap.size := fun k hk => ⟨(hst.own k hk).1, (hst.own k hk).2.1, hst.row.lt (by decide) k hk⟩
  have hown : procO.own wr (fun k => rl = some k) ((part : Int), l) [.int .i64 (part : Int), .slice Ac l.length cc] :=
    ⟨Ac, cc, rfl, OSl.of_row (O := insO) (f := Code.cellsI) hst.row (fun _ _ => rfl) rfl (fun k hk => hk) (fun x hx => ⟨rfl, hst.wf x hx⟩), by simp [Lit.wf, IntKind.min, IntKind.max, IntKind.signed, IntKind.bits]; omega⟩
  have hos := hclose (F' := fun k => F k ∨ rl = some k ∨ r6 = some k) hr6 hk6 hn6 (fun k hk => by have := (hF k hk).2.2; omega) hown (fun k hk => ⟨fun e => by have := (hF k e).2.2; have := (hrl k hk).1; omega, (hrl k hk).2.2⟩) (fun k hk => .inl hk) (fun k hk => .inr (.inl hk)) (fun k hk => .inr (.inr hk))
  have hF' : ∀ k, (F k ∨ rl = some k ∨ r6 = some k) → (F k ∨ w.heap.size ≤ k) ∧ k ≠ r ∧ k ≠ cb ∧ k < w6.heap.size := by
    have hr := hst.at_.lt
    rintro k (hk | hk | hk)
    · exact ⟨.inl hk, (hF k hk).1, (hF k hk).2.1, by have := (hF k hk).2.2; omega⟩
    · have := hrl k hk; exact ⟨.inr (by omega), this.2.1, by omega, by omega⟩
    · have hlt := hr6.lt (by decide) k hk
      rcases hn6 k hk with e | e
      · have := hF k (hr0 k e); exact ⟨.inl (hr0 k e), this.1, this.2.1, hlt⟩
      · exact ⟨.inr (by omega), by omega, by omega, hlt⟩
  refine ⟨fun k => F k ∨ rl = some k ∨ r6 = some k, (hst.at_.kept hk6 (fun e => (hF r (hr0 r e)).1 rfl)).kept hks (fun e => hcr e.symm), ?_, hos.kept hks (fun k hk e => (hF' k hk).2.2.1 e), fun k hk => ?_, ?_⟩
  · have := (hcb.kept hk6 (fun e => (hF cb (hr0 cb e)).2.1 rfl)).set (i := 6) (.slice A6 (acc.length + 1) c6)
    simpa using this
  · rw [hsS]; exact hF' k hk
  · refine Kept.setCell (Kept.step (hkw.mono fun _ _ h => .inl h) hk6 fun i hi e => .inr (.inr (hr0 i e))) (.inr (.inr (.inl rfl))) _
section
variable {w : World} {r : Nat} {A : Option Addr} {n c : Nat} {s : St} {B : Nat} {bs : List UInt8} {cb : Nat} {x1 x2 x3 x5 : Value} {F : Nat → Prop}
/-- What a process's reading leaves. -/
def ProcR (w w' : World) (r cb : Nat) (A : Option Addr) (n c : Nat) (F : Nat → Prop) (x0 x1 x2 x3 x4 x5 : Value) (acc : List (Int × List Ins)) (D : Nat → Except (Int × Int) ((Int × List Ins) × Nat)) (s : St) : Prop :=
  ∃ (x : Int × List Ins) (s' : St) (Ap : Option Addr) (cp : Nat) (F' : Nat → Prop), RAt w' r A n c s' ∧ Blk w' cb 26 #[x0, x1, x2, x3, x4, x5, .slice Ap (acc.length + 1) cp] ∧ OSl procO w' F' Ap (acc.length + 1) cp (acc ++ [x]) ∧ (∀ k, F' k → (F k ∨ w.heap.size ≤ k) ∧ k ≠ r ∧ k ≠ cb ∧ k < w'.heap.size) ∧
    Run D s s' x ∧ Kept (fun k => k = r ∨ k = cb ∨ F k) w w'
set_option maxRecDepth 100000 in
set_option maxHeartbeats 2000000 in
theorem proc_any {Al Ap : Option Addr} {nl cl cp : Nat} {locks : Int} {acc : List (Int × List Ins)} (hr : RAt w r A n c s) (hb : SliceOf Rep.byte w B A n c bs) (hB : B ≤ r) (hBc : B ≤ cb) (hcr : cb ≠ r) (hcb : Blk w cb 26 #[.slice Al nl cl, x1, x2, x3, .int .i64 locks, x5, .slice Ap acc.length cp])
    (hps : OSl procO w F Ap acc.length cp acc) (hF : ∀ k, F k → B ≤ k ∧ k ≠ r ∧ k ≠ cb ∧ k < w.heap.size) (hlen : acc.length ≤ 1000) :
    Calls Try.prog 35 #[.pointer (some ⟨r, 0, none⟩), .pointer (some ⟨cb, 0, none⟩)] w fun y w' => y = .returned (.tuple #[]) ∧ ProcR w w' r cb A n c F (.slice Al nl cl) x1 x2 x3 (.int .i64 locks) x5 acc (procD bs nl locks) s := by
  unfold ProcR
  have hrl := hr.lt
  have hcl := hcb.lt
  have hpart := partition_any (Al := Al) (nl := nl) (cl := cl) (hcb.cell 0) hcr hr hb (by omega)
  have HPART := Lib.hid hpart
  have HR := Lib.hid hr
  have HB := Lib.hid hb
  have HCB := Lib.hid hcb
  have HPS := Lib.hid hps
  clear hpart hr hb hcb hps
  go_enter Try.func35, Try.ntmps35
  go_upto_region 1 with (go_at_call 59; refine HPART.out.mono ?_; rintro e w2 ⟨part, s2, rfl, hv, hr2, hrun, hk2⟩)
  have hk3 : New w2 (w2.alloc (.cells #[.int .i64 (part : Int), .slice none 0 0] 37)) := (Kept.refl _ _).alloc _
  have hpb := Blk.made w2 37 #[.int .i64 (part : Int), .slice none 0 0]
  have hs2 := hk2.size
  have hr3 := hr2.kept hk3 id
  have hk03 := hk2.trans (hk3.mono fun _ _ h => h.elim)
  have hpr : w2.heap.size ≠ r := by omega
  have hpc : w2.heap.size ≠ cb := by omega
  have hpF : ¬ F w2.heap.size := fun e => by have := (hF _ e).2.2.2; omega
  have hpw : w.heap.size ≤ w2.heap.size := hs2
  clear hk3 hs2 hr2 hk2
  generalize w2.alloc (.cells #[.int .i64 (part : Int), .slice none 0 0] 37) = w3 at *
  generalize w2.heap.size = pb at *
  have hpl := hpb.lt
  have hs3 := hk03.size
  have hb3 : SliceOf Rep.byte w3 B A n c bs := HB.out.kept hk03 (by omega) fun k h1 h2 => by omega
  have hint := many_num hr3 hb3 (by omega)
  have HINT := Lib.hid hint
  have HPB := Lib.hid hpb
  have HK03 := Lib.hid hk03
  have HRUN := Lib.hid hrun
  have HR3 := Lib.hid hr3
  have HB3 := Lib.hid hb3
  clear hint hpb hk03 hrun hr3 hb3
  go_upto_region 2 with (go_at_call 60; refine HINT.out.mono ?_; rintro e w4 ⟨v4, s4, rfl, hv4, hr4, hrun4, hk4⟩; have HR4 := Lib.hid hr4; have HRUN4 := Lib.hid hrun4; have HK4 := Lib.hid hk4; clear hr4 hrun4 hk4)
  have hrl3 : r < w3.heap.size := by omega
  have hv4' : v4 < 65536 := hv4
  clear hv4
  go_wp2_with fail
  go_loopw [6] (fun i wr => ∃ (k : Nat) (s1 : St) (rl : Option Nat) (Ac : Option Addr) (cc : Nat) (l : List Ins), i = .int .i64 k ∧ k ≤ v4 ∧ l.length = k ∧ CodeSt w3.heap.size w3 wr r pb A n c s1 rl Ac cc l part ∧ Hid (∀ s' ls, Run (codeD bs v4 locks (v4 - k) l) s1 s' ls → Run (codeD bs v4 locks v4 []) s4 s' ls)) (fun i _ => (v4 - intOf i).toNat)
  case atStart => exact ⟨0, s4, none, none, 0, [], rfl, Nat.zero_le _, rfl, ⟨HR4.out, HPB.out.kept HK4.out hpr, Row.nil _ _, by simp, by simp, HK4.out.mono fun _ _ h => .inl h⟩, Lib.hid fun s' ls h => h⟩
  case round =>
    obtain ⟨k, s1, rl, Ac, cc, l, rfl, hk, hll, hst, hrest⟩ := hrel
    clear HK4 HR4 HINT
    have hbad := bad_any hst.at_
    have hsw := hst.keep.size
    have hkw : Kept (fun k => k = r) w wr := HK03.out.step hst.keep fun i hi e => by rcases e with e | e; exact e; omega
    have hcbr := HCB.out.kept hkw hcr
    by_cases hlt : k < v4
    · cases s1 with
      | error e =>
        rw [show isErr (.error e) = true from rfl] at hbad
        have hfin := hrest.out (.error e) l rfl
        subst hll
        have hD := Run.proc HRUN.out HRUN4.out hfin
        obtain ⟨r0, xs, hrow0, hr0, hclose⟩ := (HPS.out.kept hkw (fun k hk => (hF k hk).2.1)).rows
        have ka : New wr (wr.alloc (.cells #[.int .i64 (part : Int), .slice Ac l.length cc] 37)) := (Kept.refl _ _).alloc _
        have y0 := hst.blk.cell 0
        have y1 := hst.blk.cell 1
        have y6 := hcbr.cell 6
        have f6 := hcbr.free 6
        have z6 := (hcbr.kept ka id).cell 6
        have g6 := (hcbr.kept ka id).free 6
        simp only [List.getElem?_toArray, List.getElem?_cons_zero, List.getElem?_cons_succ] at y0 y1 y6 z6
        have HCL2 := Lib.hid (fun (w6 : World) (r6 : Option Nat) (A6 : Option Addr) (c6 : Nat) h1 h2 h3 => proc_close (w6 := w6) (r6 := r6) (A6 := A6) (c6 := c6) hst (by omega) (fun k hk => (hF k hk).2) hcr hcl hs3 hkw hcbr hr0 hclose h1 h2 h3)
        have hrc : ¬ r0 = some cb := fun e => (hF cb (hr0 cb e)).2.2.1 rfl
        have HST := Lib.hid hst
        have HD := Lib.hid hD
        have HKW := Lib.hid hkw
        have HCBR := Lib.hid hcbr
        have HROW0 := Lib.hid hrow0
        have HBAD := Lib.hid hbad
        have HRC := Lib.hid hrc
        clear hst hD hkw hcbr hrow0 hbad hrc
        clear hrest ka hclose hfin
        go_upto_region 6 with (go_at_call 30; refine HBAD.out.mono ?_; rintro e' w' ⟨rfl, rfl⟩)
        go_region_law (first
          | (refine step_append_one (W := wr.drew) (T := 37) (fr := (0, 0)) (cs := [.int .i64 (part : Int), .slice Ac l.length cc]) tyProc (by rfl) (.tmp 39) (.tmp 41) (by rfl) (by rfl) (Row.drewN HROW0.out 1) (by rfl) (by rfl) (by rfl) (by rfl) (by simp [Value.oneCell']) (by unfold maxLen; omega) (by omega) ?_
             intro r6 A6 c6 w6 hr6 hk6 hn6
             have hk56 := (Kept.refl _ wr).drew.trans hk6
             have hb6 := HCBR.out.kept hk56 HRC.out
             have q1 := hb6.cell 6
             have q2 := hb6.free 6
             simp only [List.getElem?_toArray, List.getElem?_cons_zero, List.getElem?_cons_succ] at q1
             have HR6 := Lib.hid hr6
             have HK6 := Lib.hid hk56
             have HN6 := Lib.hid hn6
             clear hr6 hk6 hn6 hb6 hk56)
          | fail)
        all_goals
          obtain ⟨F', e1, e2, e3, e4, e5⟩ := HCL2.out w6 r6 A6 c6 HR6.out HK6.out HN6.out
          have E1 := Lib.hid e1
          have E2 := Lib.hid e2
          have E3 := Lib.hid e3
          have E4 := Lib.hid e4
          have E5 := Lib.hid e5
          clear e1 e2 e3 e4 e5
          go_wp2_with fail
          go_end0
          exact ⟨rfl, _, _, A6, c6, F', E1.out, E2.out, E3.out, E4.out, HD.out, E5.out⟩
      | ok p =>
        rw [show isErr (.ok p) = false from rfl] at hbad
        have hkd : Kept (fun k => k = r) wr wr.drew := (Kept.refl _ _).drew
        have hbr : SliceOf Rep.byte wr B A n c bs := HB.out.kept hkw (by omega) fun k h1 h2 => by omega
        have hins := ins_any (w := wr.drew) (many := v4) (locks := locks) (hst.at_.drewN 1) (SliceOf.drewN hbr 1) hB
        have HREST := Lib.hid (fun (x : Ins) (s2 : St) (h : Run (insD bs v4 locks) (.ok p) s2 x) (s' : St) (ls : List Ins) (h2 : Run (codeD bs v4 locks (v4 - (k + 1)) (l ++ [x])) s2 s' ls) => hrest.out s' ls (by
          rw [show v4 - k = (v4 - (k + 1)) + 1 by omega]
          exact Run.bind (D1 := insD bs v4 locks) (D2 := fun x => codeD bs v4 locks (v4 - (k + 1)) (l ++ [x])) h h2 (fun p e h => by rw [codeD, h]) (fun p a p' h => by rw [codeD, h])))
        have y1 := hst.blk.cell 1
        have y2 := hst.blk.free 1
        have z4 := hcbr.cell 4
        simp only [List.getElem?_toArray, List.getElem?_cons_zero, List.getElem?_cons_succ] at y1 z4
        have HST := Lib.hid hst
        have HINS := Lib.hid hins
        have HBAD := Lib.hid hbad
        have HKD := Lib.hid hkd
        have HKW := Lib.hid hkw
        have HCBR := Lib.hid hcbr
        clear hst hins hbad hkd hkw hcbr
        clear hrest hbr
        go_upto_region 5 with (go_at_call 30; refine HBAD.out.mono ?_; rintro e' w' ⟨rfl, rfl⟩)
        have hne : ∀ g, rl = some g → g ≠ pb := fun g hg => (HST.out.own g hg).2.2
        have HNE := Lib.hid hne
        clear hne
        subst hll
        go_region_law (first
          | (refine step_call (f := 64) (enters Try.func64 rfl rfl) #[.tmp 25, .tmp 26, .tmp 30] #[53, 3, 3] (by rfl) (by rfl) (by rfl) HINS.out ?_
             rintro e w5 ⟨x5', s5, rfl, hx5, hr5, hrun5, hk5d⟩
             obtain ⟨o5, a5, b5, d5, i5⟩ := x5'
             have hk5 := HKD.out.trans hk5d
             have hb5 := HST.out.blk.kept hk5 hpr
             have hrow5 := HST.out.row.of_kept (by decide) hk5 (fun g hg e => (HST.out.own g hg).2.1 e)
             have ka : New w5 (w5.alloc (.cells #[.int .i64 o5, .int .i64 a5, .int .i64 b5, .int .i64 d5, .int .i64 i5] 62)) := (Kept.refl _ _).alloc _
             have p1 := hb5.cell 1
             have p2 := hb5.free 1
             have z1 := (hb5.kept ka id).cell 1
             have z2 := (hb5.kept ka id).free 1
             simp only [List.getElem?_toArray, List.getElem?_cons_zero, List.getElem?_cons_succ] at p1 z1
             have HR5 := Lib.hid hr5
             have HRUN5 := Lib.hid hrun5
             have HK5 := Lib.hid hk5
             have HB5 := Lib.hid hb5
             have HROW5 := Lib.hid hrow5
             have HX5 := Lib.hid hx5
             clear hr5 hrun5 hk5 hk5d hb5 hrow5 ka hx5
             refine ⟨.agg #[.int .i64 o5, .int .i64 a5, .int .i64 b5, .int .i64 d5, .int .i64 i5], rfl, ?_⟩)
          | (refine step_append_one (W := w5) (T := 62) (fr := (0, 0)) (cs := [.int .i64 o5, .int .i64 a5, .int .i64 b5, .int .i64 d5, .int .i64 i5]) Code.tyIns (by rfl) (.tmp 24) (.tmp 32) (by rfl) (by rfl) HROW5.out (by rfl) (by rfl) (by rfl) (by rfl) (by simp [Value.oneCell']) (by unfold maxLen; omega) (by omega) ?_
             intro r6 A6 c6 w6 hr6 hk6 hn6
             have hb6 := HB5.out.kept hk6 (fun e => HNE.out _ e rfl)
             have q1 := hb6.cell 1
             have q2 := hb6.free 1
             simp only [List.getElem?_toArray, List.getElem?_cons_zero, List.getElem?_cons_succ] at q1
             have HR6 := Lib.hid hr6
             have HK6 := Lib.hid hk6
             have HN6 := Lib.hid hn6
             clear hr6 hk6 hn6 hb6)
          | fail)
        all_goals
          have hpush := HST.out.push hpr hpl hrl3 (Nat.le_refl _) hsw HR5.out HK5.out HX5.out HR6.out HK6.out HN6.out
          have HPUSH := Lib.hid hpush
          clear hpush
          go_wp2_with fail
          exact ⟨⟨l.length + 1, s5, r6, A6, c6, l ++ [⟨o5, a5, b5, d5, i5⟩], by go_num, by omega, by rw [List.length_append]; rfl, HPUSH.out, Lib.hid fun s' ls h2 => HREST.out _ s5 HRUN5.out s' ls h2⟩, by simp [intOf]; omega⟩
    · obtain rfl : k = v4 := by omega
      have hfin := hrest.out s1 l (by rw [Nat.sub_self]; exact Run.pure)
      subst hll
      have hD := Run.proc HRUN.out HRUN4.out hfin
      obtain ⟨r0, xs, hrow0, hr0, hclose⟩ := (HPS.out.kept hkw (fun k hk => (hF k hk).2.1)).rows
      have ka : New wr (wr.alloc (.cells #[.int .i64 (part : Int), .slice Ac l.length cc] 37)) := (Kept.refl _ _).alloc _
      have y0 := hst.blk.cell 0
      have y1 := hst.blk.cell 1
      have y6 := hcbr.cell 6
      have f6 := hcbr.free 6
      have z6 := (hcbr.kept ka id).cell 6
      have g6 := (hcbr.kept ka id).free 6
      simp only [List.getElem?_toArray, List.getElem?_cons_zero, List.getElem?_cons_succ] at y0 y1 y6 z6
      have HCL2 := Lib.hid (fun (w6 : World) (r6 : Option Nat) (A6 : Option Addr) (c6 : Nat) h1 h2 h3 => proc_close (w6 := w6) (r6 := r6) (A6 := A6) (c6 := c6) hst (by omega) (fun k hk => (hF k hk).2) hcr hcl hs3 hkw hcbr hr0 hclose h1 h2 h3)
      have hrc : ¬ r0 = some cb := fun e => (hF cb (hr0 cb e)).2.2.1 rfl
      have HST := Lib.hid hst
      have HD := Lib.hid hD
      have HKW := Lib.hid hkw
      have HCBR := Lib.hid hcbr
      have HROW0 := Lib.hid hrow0
      have HBAD := Lib.hid hbad
      have HRC := Lib.hid hrc
      clear hst hD hkw hcbr hrow0 hbad hrc
      clear hrest ka hclose hfin
      go_upto_region 6 with (fail)
      go_region_law (first
        | (refine step_append_one (W := wr.drew) (T := 37) (fr := (0, 0)) (cs := [.int .i64 (part : Int), .slice Ac l.length cc]) tyProc (by rfl) (.tmp 39) (.tmp 41) (by rfl) (by rfl) (Row.drewN HROW0.out 1) (by rfl) (by rfl) (by rfl) (by rfl) (by simp [Value.oneCell']) (by unfold maxLen; omega) (by omega) ?_
           intro r6 A6 c6 w6 hr6 hk6 hn6
           have hk56 := (Kept.refl _ wr).drew.trans hk6
           have hb6 := HCBR.out.kept hk56 HRC.out
           have q1 := hb6.cell 6
           have q2 := hb6.free 6
           simp only [List.getElem?_toArray, List.getElem?_cons_zero, List.getElem?_cons_succ] at q1
           have HR6 := Lib.hid hr6
           have HK6 := Lib.hid hk56
           have HN6 := Lib.hid hn6
           clear hr6 hk6 hn6 hb6 hk56)
        | fail)
      all_goals
        obtain ⟨F', e1, e2, e3, e4, e5⟩ := HCL2.out w6 r6 A6 c6 HR6.out HK6.out HN6.out
        have E1 := Lib.hid e1
        have E2 := Lib.hid e2
        have E3 := Lib.hid e3
        have E4 := Lib.hid e4
        have E5 := Lib.hid e5
        clear e1 e2 e3 e4 e5
        go_wp2_with fail
        go_end0
        exact ⟨rfl, _, _, A6, c6, F', E1.out, E2.out, E3.out, E4.out, HD.out, E5.out⟩
end
end Go.Proofs.Ytaefgljpdpigeaa.Conf
