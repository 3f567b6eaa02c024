/- What owns its memory (layer 18); the walks of slices.Clone. -/
import Derived.Test.YtgdmajockejpgaaViewP
import Derived.Test.YtgdmajockejpgaaORep
namespace Go.Proofs.Ytgdmajockejpgaa.View
open Go.RowKit Go.Fb
set_option linter.unusedVariables false
def intO : ORep Int := ORep.flat 1 (by decide) (fun x => [.int .i64 x]) (fun _ => rfl) wfI
def entC (x : Entry) : List Value := [.int .i64 x.tick, .int .i64 x.proc, .int .i64 x.value]
def waiC (x : Waiter) : List Value := [.int .i64 x.proc, .int .i64 x.value]
def entO : ORep Entry := ORep.flat 3 (by decide) entC (fun _ => rfl) fun x => wfI x.tick ∧ wfI x.proc ∧ wfI x.value
def waiO : ORep Waiter := ORep.flat 2 (by decide) waiC (fun _ => rfl) fun x => wfI x.proc ∧ wfI x.value
def laneO : ORep Lane where
  size := 4
  pos := by decide
  own w F x cs := ∃ Av nv cv Aw nw cw, ∃ F1 F2 : Nat → Prop, cs = [.slice Av nv cv, .slice Aw nw cw, .int .i64 x.taken, .int .i64 x.dropped] ∧ OSl intO w F1 Av nv cv x.values ∧ OSl waiO w F2 Aw nw cw x.waiters ∧ wfI x.taken ∧ wfI x.dropped ∧ (∀ k, F1 k → F k ∧ ¬ F2 k) ∧ ∀ k, F2 k → F k
  length h := by obtain ⟨_, _, _, _, _, _, _, _, h, _⟩ := h; rw [h]; rfl
  kept h hk hg := by
    obtain ⟨a1, a2, a3, a4, a5, a6, F1, F2, h, h1, h2, h3, h4, h5, h6⟩ := h
    exact ⟨a1, a2, a3, a4, a5, a6, F1, F2, h, h1.kept hk fun k e => hg k (h5 k e).1, h2.kept hk fun k e => hg k (h6 k e), h3, h4, h5, h6⟩
  mono h hF := by
    obtain ⟨a1, a2, a3, a4, a5, a6, F1, F2, h, h1, h2, h3, h4, h5, h6⟩ := h
    exact ⟨a1, a2, a3, a4, a5, a6, F1, F2, h, h1, h2, h3, h4, fun k e => ⟨hF k (h5 k e).1, (h5 k e).2⟩, fun k e => hF k (h6 k e)⟩
def procC (x : Process) (v : Value) : List Value := [.int .i64 x.state, .int .i64 x.pc, .int .i64 x.r0, .int .i64 x.r1, .int .i64 x.r2, .int .i64 x.r3, .int .i64 x.r4, .int .i64 x.r5, .int .i64 x.r6, .int .i64 x.r7, .int .i64 x.cursor, .int .i64 x.timer, .bool x.fired, .int .i64 x.wake, v]
def procO : ORep Process where
  size := 15
  pos := by decide
  own w F x cs := ∃ A n c, cs = procC x (.slice A n c) ∧ OSl laneO w F A n c x.lanes
  length h := by obtain ⟨_, _, _, h, _⟩ := h; rw [h]; rfl
  kept h hk hg := by obtain ⟨a1, a2, a3, h, h1⟩ := h; exact ⟨a1, a2, a3, h, h1.kept hk hg⟩
  mono h hF := by obtain ⟨a1, a2, a3, h, h1⟩ := h; exact ⟨a1, a2, a3, h, h1.mono hF⟩
def partC (x : Part) (v1 v2 v3 : Value) : List Value := [.int .i64 x.cursor, v1, .int .i64 x.lost, .int .i64 x.forbidden, v2, v3]
def partO : ORep Part where
  size := 6
  pos := by decide
  own w F x cs := ∃ Al nl cl Ao no co Aq nq cq, ∃ F1 F2 F3 : Nat → Prop, cs = partC x (.slice Al nl cl) (.slice Ao no co) (.slice Aq nq cq) ∧ OSl entO w F1 Al nl cl x.log ∧ OSl intO w F2 Ao no co x.owners ∧ OSl intO.slice w F3 Aq nq cq x.queues ∧ (∀ k, F1 k → F k ∧ ¬ F2 k ∧ ¬ F3 k) ∧ (∀ k, F2 k → F k ∧ ¬ F3 k) ∧ ∀ k, F3 k → F k
  length h := by obtain ⟨_, _, _, _, _, _, _, _, _, _, _, _, h, _⟩ := h; rw [h]; rfl
  kept h hk hg := by
    obtain ⟨a1, a2, a3, a4, a5, a6, a7, a8, a9, F1, F2, F3, h, h1, h2, h3, h4, h5, h6⟩ := h
    exact ⟨a1, a2, a3, a4, a5, a6, a7, a8, a9, F1, F2, F3, h, h1.kept hk fun k e => hg k (h4 k e).1, h2.kept hk fun k e => hg k (h5 k e).1, h3.kept hk fun k e => hg k (h6 k e), h4, h5, h6⟩
  mono h hF := by
    obtain ⟨a1, a2, a3, a4, a5, a6, a7, a8, a9, F1, F2, F3, h, h1, h2, h3, h4, h5, h6⟩ := h
    exact ⟨a1, a2, a3, a4, a5, a6, a7, a8, a9, F1, F2, F3, h, h1, h2, h3, fun k e => ⟨hF k (h4 k e).1, (h4 k e).2⟩, fun k e => ⟨hF k (h5 k e).1, (h5 k e).2⟩, fun k e => hF k (h6 k e)⟩
theorem int_reads : Reads intO (Rep.int .i64) := ⟨rfl, fun h => h⟩
theorem ent_reads : Reads entO repEntry := ⟨rfl, fun h => h⟩
theorem wai_reads : Reads waiO repWaiter := ⟨rfl, fun h => h⟩
theorem lane_reads : Reads laneO repLane := ⟨rfl, fun {w F x cs} h => by
  obtain ⟨a1, a2, a3, a4, a5, a6, F1, F2, h, h1, h2, h3, h4, h5, h6⟩ := h
  exact ⟨a1, a2, a3, a4, a5, a6, h, h1.read int_reads, h2.read wai_reads, h3, h4⟩⟩
theorem proc_reads : Reads procO repProc := ⟨rfl, fun {w F x cs} h => by
  obtain ⟨a1, a2, a3, h, h1⟩ := h
  exact ⟨a1, a2, a3, h, h1.read lane_reads⟩⟩
theorem part_reads : Reads partO repPart := ⟨rfl, fun {w F x cs} h => by
  obtain ⟨a1, a2, a3, a4, a5, a6, a7, a8, a9, F1, F2, F3, h, h1, h2, h3, -⟩ := h
  exact ⟨a1, a2, a3, a4, a5, a6, a7, a8, a9, h, h1.read ent_reads, h2.read int_reads, h3.read int_reads.slice⟩⟩
theorem flat_known {α : Type} {R : Rep α} {f : α → List Value} {w : World} {B : Nat} {A : Option Addr} {n c : Nat} {lp : List (α × List Value)} (h : SliceOf R.known w B A n c lp) (hf : ∀ {x cs}, R.cells w B x cs → cs = f x) : lp.flatMap (·.2) = (lp.map (·.1)).flatMap f := by
  have : ∀ x ∈ lp, x.2 = f x.1 := fun x hx => by
    obtain ⟨es, _, g⟩ := h.cells_mem x hx
    exact hf g
  clear h
  induction lp with
  | nil => rfl
  | cons x l ih => simp only [List.flatMap_cons, List.map_cons]; rw [this x (List.mem_cons_self ..), ih fun y hy => this y (List.mem_cons_of_mem _ hy)]
theorem tyInts : SliceTy Try.prog 23 3 1 8 := by
  have h : (Try.prog.info? 3).map (fun i => (i.zero.map (·.cells.size), i.size, i.bytes)) = some (some 1, 1, 8) := by kernel_rfl
  refine ⟨Try.underlying23, ?_, by decide⟩
  cases hi : Try.prog.info? 3 with
  | none => rw [hi] at h; cases h
  | some i =>
    rw [hi] at h
    simp only [Option.map_some, Option.some.injEq, Prod.mk.injEq] at h
    obtain ⟨h1, h2, h3⟩ := h
    cases hz : i.zero with
    | none => rw [hz] at h1; cases h1
    | some z =>
      rw [hz] at h1
      simp only [Option.map_some, Option.some.injEq] at h1
      exact ⟨i, z, rfl, hz, h2, h3, h1⟩
theorem oneInts {w : World} {B : Nat} {x : Int} {cs : List Value} (h : (Rep.int .i64).cells w B x cs) : ∀ u ∈ cs, u.oneCell' = true := by
  intro u hu
  rw [h.1] at hu; rw [List.mem_singleton.1 hu]; rfl
set_option maxHeartbeats 1000000 in
theorem cloneInts {w : World} {B : Nat} {A : Option Addr} {n c : Nat} {lp : List (Int × List Value)} (h : SliceOf (Rep.int .i64).known w B A n c lp) (hB : B ≤ w.heap.size) (hn : n ≤ 1048576) :
    Calls Try.prog 29 #[.slice A n c] w fun e w' => ∃ r' A' c', e = .returned (.slice A' n c') ∧ Row w' 1 r' A' n c' (lp.flatMap (·.2)) ∧ (∀ k, r' = some k → w.heap.size ≤ k) ∧ New w w' := by
  have hl := h.len
  have hb := h.bound
  cases A with
  | none =>
    obtain rfl : n = 0 := by
      rcases h.2.2.2 with h | ⟨_, _, e, _⟩
      · exact h
      · cases e
    have e : lp.flatMap (·.2) = [] := by rw [List.eq_nil_of_length_eq_zero hl.symm]; rfl
    rw [e]
    have hq := fun (w : World) => Lib.run_eql_slice_nil (P := Try.prog) w 23 3 none 0 c 0 0 Try.underlying23
    clear e h hl
    go_enter Try.func29, Try.ntmps29
    go_wp2
    go_ret
    exact ⟨none, none, 0, rfl, Row.nil _ _, by simp, Kept.refl _ _⟩
  | some ad =>
    have hk0 : New w (w.alloc (.cells #[] 3)) := (Kept.refl _ _).alloc _
    have hsrc := (h.kept hk0 hB fun _ _ h => h).src_known (P := Try.prog) (t := 23) (e := 3) Try.underlying23 oneInts
    have hq := fun (w : World) => Lib.run_eql_slice_nil (P := Try.prog) w 23 3 (some ad) n c 0 0 Try.underlying23
    have hrow0 : Row (w.alloc (.cells #[] 3)) 1 none (some ⟨w.heap.size, 0, none⟩) 0 0 [] := ⟨rfl, .inl ⟨rfl, rfl, rfl⟩⟩
    change Go.Src Try.prog 1 _ _ _ _ _ at hsrc
    clear hk0 h hl
    have HSRC := Lib.hid hsrc
    have HROW0 := Lib.hid hrow0
    clear hsrc hrow0
    go_enter Try.func29, Try.ntmps29
    go_wp2_with (at_builtin; refine wpList_append_row tyInts rfl (.tmp 5) (.tmp 6) rfl rfl HROW0.out rfl HSRC.out (by unfold maxLen; omega) (by omega) ?_; intro r2 A2 c2 w2 hr2 hk2 hn2; rw [Nat.zero_add, List.nil_append] at hr2; have HR2 := Lib.hid hr2; have HK2 := Lib.hid hk2; have HN2 := Lib.hid hn2; clear hr2 hk2 hn2)
    go_ret
    refine ⟨r2, A2, c2, by simp [Array.getD], HR2.out, fun k hk => ?_, ((Kept.refl _ _).alloc _).step HK2.out fun i hi e => by cases e⟩
    rcases HN2.out k hk with h | h
    · cases h
    · rw [← size1] at h; omega
theorem tyVals : SliceTy Try.prog 50 2 1 8 := by
  have h : (Try.prog.info? 2).map (fun i => (i.zero.map (·.cells.size), i.size, i.bytes)) = some (some 1, 1, 8) := by kernel_rfl
  refine ⟨Try.underlying50, ?_, by decide⟩
  cases hi : Try.prog.info? 2 with
  | none => rw [hi] at h; cases h
  | some i =>
    rw [hi] at h
    simp only [Option.map_some, Option.some.injEq, Prod.mk.injEq] at h
    obtain ⟨h1, h2, h3⟩ := h
    cases hz : i.zero with
    | none => rw [hz] at h1; cases h1
    | some z =>
      rw [hz] at h1
      simp only [Option.map_some, Option.some.injEq] at h1
      exact ⟨i, z, rfl, hz, h2, h3, h1⟩
theorem oneVals {w : World} {B : Nat} {x : Int} {cs : List Value} (h : (Rep.int .i64).cells w B x cs) : ∀ u ∈ cs, u.oneCell' = true := by
  intro u hu
  rw [h.1] at hu; rw [List.mem_singleton.1 hu]; rfl
set_option maxHeartbeats 1000000 in
theorem cloneVals {w : World} {B : Nat} {A : Option Addr} {n c : Nat} {lp : List (Int × List Value)} (h : SliceOf (Rep.int .i64).known w B A n c lp) (hB : B ≤ w.heap.size) (hn : n ≤ 1048576) :
    Calls Try.prog 32 #[.slice A n c] w fun e w' => ∃ r' A' c', e = .returned (.slice A' n c') ∧ Row w' 1 r' A' n c' (lp.flatMap (·.2)) ∧ (∀ k, r' = some k → w.heap.size ≤ k) ∧ New w w' := by
  have hl := h.len
  have hb := h.bound
  cases A with
  | none =>
    obtain rfl : n = 0 := by
      rcases h.2.2.2 with h | ⟨_, _, e, _⟩
      · exact h
      · cases e
    have e : lp.flatMap (·.2) = [] := by rw [List.eq_nil_of_length_eq_zero hl.symm]; rfl
    rw [e]
    have hq := fun (w : World) => Lib.run_eql_slice_nil (P := Try.prog) w 50 2 none 0 c 0 0 Try.underlying50
    clear e h hl
    go_enter Try.func32, Try.ntmps32
    go_wp2
    go_ret
    exact ⟨none, none, 0, rfl, Row.nil _ _, by simp, Kept.refl _ _⟩
  | some ad =>
    have hk0 : New w (w.alloc (.cells #[] 2)) := (Kept.refl _ _).alloc _
    have hsrc := (h.kept hk0 hB fun _ _ h => h).src_known (P := Try.prog) (t := 50) (e := 2) Try.underlying50 oneVals
    have hq := fun (w : World) => Lib.run_eql_slice_nil (P := Try.prog) w 50 2 (some ad) n c 0 0 Try.underlying50
    have hrow0 : Row (w.alloc (.cells #[] 2)) 1 none (some ⟨w.heap.size, 0, none⟩) 0 0 [] := ⟨rfl, .inl ⟨rfl, rfl, rfl⟩⟩
    change Go.Src Try.prog 1 _ _ _ _ _ at hsrc
    clear hk0 h hl
    have HSRC := Lib.hid hsrc
    have HROW0 := Lib.hid hrow0
    clear hsrc hrow0
    go_enter Try.func32, Try.ntmps32
    go_wp2_with (at_builtin; refine wpList_append_row tyVals rfl (.tmp 5) (.tmp 6) rfl rfl HROW0.out rfl HSRC.out (by unfold maxLen; omega) (by omega) ?_; intro r2 A2 c2 w2 hr2 hk2 hn2; rw [Nat.zero_add, List.nil_append] at hr2; have HR2 := Lib.hid hr2; have HK2 := Lib.hid hk2; have HN2 := Lib.hid hn2; clear hr2 hk2 hn2)
    go_ret
    refine ⟨r2, A2, c2, by simp [Array.getD], HR2.out, fun k hk => ?_, ((Kept.refl _ _).alloc _).step HK2.out fun i hi e => by cases e⟩
    rcases HN2.out k hk with h | h
    · cases h
    · rw [← size1] at h; omega
theorem tyWaits : SliceTy Try.prog 51 55 2 16 := by
  have h : (Try.prog.info? 55).map (fun i => (i.zero.map (·.cells.size), i.size, i.bytes)) = some (some 2, 2, 16) := by kernel_rfl
  refine ⟨Try.underlying51, ?_, by decide⟩
  cases hi : Try.prog.info? 55 with
  | none => rw [hi] at h; cases h
  | some i =>
    rw [hi] at h
    simp only [Option.map_some, Option.some.injEq, Prod.mk.injEq] at h
    obtain ⟨h1, h2, h3⟩ := h
    cases hz : i.zero with
    | none => rw [hz] at h1; cases h1
    | some z =>
      rw [hz] at h1
      simp only [Option.map_some, Option.some.injEq] at h1
      exact ⟨i, z, rfl, hz, h2, h3, h1⟩
theorem oneWaits {w : World} {B : Nat} {x : Waiter} {cs : List Value} (h : repWaiter.cells w B x cs) : ∀ u ∈ cs, u.oneCell' = true := by
  intro u hu
  rw [h.1] at hu; simp only [List.mem_cons, List.not_mem_nil, or_false] at hu; rcases hu with rfl | rfl <;> rfl
set_option maxHeartbeats 1000000 in
theorem cloneWaits {w : World} {B : Nat} {A : Option Addr} {n c : Nat} {lp : List (Waiter × List Value)} (h : SliceOf repWaiter.known w B A n c lp) (hB : B ≤ w.heap.size) (hn : n ≤ 1048576) :
    Calls Try.prog 33 #[.slice A n c] w fun e w' => ∃ r' A' c', e = .returned (.slice A' n c') ∧ Row w' 2 r' A' n c' (lp.flatMap (·.2)) ∧ (∀ k, r' = some k → w.heap.size ≤ k) ∧ New w w' := by
  have hl := h.len
  have hb := h.bound
  cases A with
  | none =>
    obtain rfl : n = 0 := by
      rcases h.2.2.2 with h | ⟨_, _, e, _⟩
      · exact h
      · cases e
    have e : lp.flatMap (·.2) = [] := by rw [List.eq_nil_of_length_eq_zero hl.symm]; rfl
    rw [e]
    have hq := fun (w : World) => Lib.run_eql_slice_nil (P := Try.prog) w 51 55 none 0 c 0 0 Try.underlying51
    clear e h hl
    go_enter Try.func33, Try.ntmps33
    go_wp2
    go_ret
    exact ⟨none, none, 0, rfl, Row.nil _ _, by simp, Kept.refl _ _⟩
  | some ad =>
    have hk0 : New w (w.alloc (.cells #[] 55)) := (Kept.refl _ _).alloc _
    have hsrc := (h.kept hk0 hB fun _ _ h => h).src_known (P := Try.prog) (t := 51) (e := 55) Try.underlying51 oneWaits
    have hq := fun (w : World) => Lib.run_eql_slice_nil (P := Try.prog) w 51 55 (some ad) n c 0 0 Try.underlying51
    have hrow0 : Row (w.alloc (.cells #[] 55)) 2 none (some ⟨w.heap.size, 0, none⟩) 0 0 [] := ⟨rfl, .inl ⟨rfl, rfl, rfl⟩⟩
    change Go.Src Try.prog 2 _ _ _ _ _ at hsrc
    clear hk0 h hl
    have HSRC := Lib.hid hsrc
    have HROW0 := Lib.hid hrow0
    clear hsrc hrow0
    go_enter Try.func33, Try.ntmps33
    go_wp2_with (at_builtin; refine wpList_append_row tyWaits rfl (.tmp 5) (.tmp 6) rfl rfl HROW0.out rfl HSRC.out (by unfold maxLen; omega) (by omega) ?_; intro r2 A2 c2 w2 hr2 hk2 hn2; rw [Nat.zero_add, List.nil_append] at hr2; have HR2 := Lib.hid hr2; have HK2 := Lib.hid hk2; have HN2 := Lib.hid hn2; clear hr2 hk2 hn2)
    go_ret
    refine ⟨r2, A2, c2, by simp [Array.getD], HR2.out, fun k hk => ?_, ((Kept.refl _ _).alloc _).step HK2.out fun i hi e => by cases e⟩
    rcases HN2.out k hk with h | h
    · cases h
    · rw [← size1] at h; omega
theorem tyEnts : SliceTy Try.prog 40 45 3 24 := by
  have h : (Try.prog.info? 45).map (fun i => (i.zero.map (·.cells.size), i.size, i.bytes)) = some (some 3, 3, 24) := by kernel_rfl
  refine ⟨Try.underlying40, ?_, by decide⟩
  cases hi : Try.prog.info? 45 with
  | none => rw [hi] at h; cases h
  | some i =>
    rw [hi] at h
    simp only [Option.map_some, Option.some.injEq, Prod.mk.injEq] at h
    obtain ⟨h1, h2, h3⟩ := h
    cases hz : i.zero with
    | none => rw [hz] at h1; cases h1
    | some z =>
      rw [hz] at h1
      simp only [Option.map_some, Option.some.injEq] at h1
      exact ⟨i, z, rfl, hz, h2, h3, h1⟩
theorem oneEnts {w : World} {B : Nat} {x : Entry} {cs : List Value} (h : repEntry.cells w B x cs) : ∀ u ∈ cs, u.oneCell' = true := by
  intro u hu
  rw [h.1] at hu; simp only [List.mem_cons, List.not_mem_nil, or_false] at hu; rcases hu with rfl | rfl | rfl <;> rfl
set_option maxHeartbeats 1000000 in
theorem cloneEnts {w : World} {B : Nat} {A : Option Addr} {n c : Nat} {lp : List (Entry × List Value)} (h : SliceOf repEntry.known w B A n c lp) (hB : B ≤ w.heap.size) (hn : n ≤ 1048576) :
    Calls Try.prog 28 #[.slice A n c] w fun e w' => ∃ r' A' c', e = .returned (.slice A' n c') ∧ Row w' 3 r' A' n c' (lp.flatMap (·.2)) ∧ (∀ k, r' = some k → w.heap.size ≤ k) ∧ New w w' := by
  have hl := h.len
  have hb := h.bound
  cases A with
  | none =>
    obtain rfl : n = 0 := by
      rcases h.2.2.2 with h | ⟨_, _, e, _⟩
      · exact h
      · cases e
    have e : lp.flatMap (·.2) = [] := by rw [List.eq_nil_of_length_eq_zero hl.symm]; rfl
    rw [e]
    have hq := fun (w : World) => Lib.run_eql_slice_nil (P := Try.prog) w 40 45 none 0 c 0 0 Try.underlying40
    clear e h hl
    go_enter Try.func28, Try.ntmps28
    go_wp2
    go_ret
    exact ⟨none, none, 0, rfl, Row.nil _ _, by simp, Kept.refl _ _⟩
  | some ad =>
    have hk0 : New w (w.alloc (.cells #[] 45)) := (Kept.refl _ _).alloc _
    have hsrc := (h.kept hk0 hB fun _ _ h => h).src_known (P := Try.prog) (t := 40) (e := 45) Try.underlying40 oneEnts
    have hq := fun (w : World) => Lib.run_eql_slice_nil (P := Try.prog) w 40 45 (some ad) n c 0 0 Try.underlying40
    have hrow0 : Row (w.alloc (.cells #[] 45)) 3 none (some ⟨w.heap.size, 0, none⟩) 0 0 [] := ⟨rfl, .inl ⟨rfl, rfl, rfl⟩⟩
    change Go.Src Try.prog 3 _ _ _ _ _ at hsrc
    clear hk0 h hl
    have HSRC := Lib.hid hsrc
    have HROW0 := Lib.hid hrow0
    clear hsrc hrow0
    go_enter Try.func28, Try.ntmps28
    go_wp2_with (at_builtin; refine wpList_append_row tyEnts rfl (.tmp 5) (.tmp 6) rfl rfl HROW0.out rfl HSRC.out (by unfold maxLen; omega) (by omega) ?_; intro r2 A2 c2 w2 hr2 hk2 hn2; rw [Nat.zero_add, List.nil_append] at hr2; have HR2 := Lib.hid hr2; have HK2 := Lib.hid hk2; have HN2 := Lib.hid hn2; clear hr2 hk2 hn2)
    go_ret
    refine ⟨r2, A2, c2, by simp [Array.getD], HR2.out, fun k hk => ?_, ((Kept.refl _ _).alloc _).step HK2.out fun i hi e => by cases e⟩
    rcases HN2.out k hk with h | h
    · cases h
    · rw [← size1] at h; omega
theorem tyQus : SliceTy Try.prog 41 23 1 24 := by
  have h : (Try.prog.info? 23).map (fun i => (i.zero.map (·.cells.size), i.size, i.bytes)) = some (some 1, 1, 24) := by kernel_rfl
  refine ⟨Try.underlying41, ?_, by decide⟩
  cases hi : Try.prog.info? 23 with
  | none => rw [hi] at h; cases h
  | some i =>
    rw [hi] at h
    simp only [Option.map_some, Option.some.injEq, Prod.mk.injEq] at h
    obtain ⟨h1, h2, h3⟩ := h
    cases hz : i.zero with
    | none => rw [hz] at h1; cases h1
    | some z =>
      rw [hz] at h1
      simp only [Option.map_some, Option.some.injEq] at h1
      exact ⟨i, z, rfl, hz, h2, h3, h1⟩
theorem oneQus {w : World} {B : Nat} {x : (List Int)} {cs : List Value} (h : (Rep.int .i64).slice.cells w B x cs) : ∀ u ∈ cs, u.oneCell' = true := by
  intro u hu
  obtain ⟨_, _, _, rfl, _⟩ := h; rw [List.mem_singleton.1 hu]; rfl
set_option maxHeartbeats 1000000 in
theorem cloneQus {w : World} {B : Nat} {A : Option Addr} {n c : Nat} {lp : List ((List Int) × List Value)} (h : SliceOf (Rep.int .i64).slice.known w B A n c lp) (hB : B ≤ w.heap.size) (hn : n ≤ 1048576) :
    Calls Try.prog 30 #[.slice A n c] w fun e w' => ∃ r' A' c', e = .returned (.slice A' n c') ∧ Row w' 1 r' A' n c' (lp.flatMap (·.2)) ∧ (∀ k, r' = some k → w.heap.size ≤ k) ∧ New w w' := by
  have hl := h.len
  have hb := h.bound
  cases A with
  | none =>
    obtain rfl : n = 0 := by
      rcases h.2.2.2 with h | ⟨_, _, e, _⟩
      · exact h
      · cases e
    have e : lp.flatMap (·.2) = [] := by rw [List.eq_nil_of_length_eq_zero hl.symm]; rfl
    rw [e]
    have hq := fun (w : World) => Lib.run_eql_slice_nil (P := Try.prog) w 41 23 none 0 c 0 0 Try.underlying41
    clear e h hl
    go_enter Try.func30, Try.ntmps30
    go_wp2
    go_ret
    exact ⟨none, none, 0, rfl, Row.nil _ _, by simp, Kept.refl _ _⟩
  | some ad =>
    have hk0 : New w (w.alloc (.cells #[] 23)) := (Kept.refl _ _).alloc _
    have hsrc := (h.kept hk0 hB fun _ _ h => h).src_known (P := Try.prog) (t := 41) (e := 23) Try.underlying41 oneQus
    have hq := fun (w : World) => Lib.run_eql_slice_nil (P := Try.prog) w 41 23 (some ad) n c 0 0 Try.underlying41
    have hrow0 : Row (w.alloc (.cells #[] 23)) 1 none (some ⟨w.heap.size, 0, none⟩) 0 0 [] := ⟨rfl, .inl ⟨rfl, rfl, rfl⟩⟩
    change Go.Src Try.prog 1 _ _ _ _ _ at hsrc
    clear hk0 h hl
    have HSRC := Lib.hid hsrc
    have HROW0 := Lib.hid hrow0
    clear hsrc hrow0
    go_enter Try.func30, Try.ntmps30
    go_wp2_with (at_builtin; refine wpList_append_row tyQus rfl (.tmp 5) (.tmp 6) rfl rfl HROW0.out rfl HSRC.out (by unfold maxLen; omega) (by omega) ?_; intro r2 A2 c2 w2 hr2 hk2 hn2; rw [Nat.zero_add, List.nil_append] at hr2; have HR2 := Lib.hid hr2; have HK2 := Lib.hid hk2; have HN2 := Lib.hid hn2; clear hr2 hk2 hn2)
    go_ret
    refine ⟨r2, A2, c2, by simp [Array.getD], HR2.out, fun k hk => ?_, ((Kept.refl _ _).alloc _).step HK2.out fun i hi e => by cases e⟩
    rcases HN2.out k hk with h | h
    · cases h
    · rw [← size1] at h; omega
theorem tyLanes : SliceTy Try.prog 47 53 4 64 := by
  have h : (Try.prog.info? 53).map (fun i => (i.zero.map (·.cells.size), i.size, i.bytes)) = some (some 4, 4, 64) := by kernel_rfl
  refine ⟨Try.underlying47, ?_, by decide⟩
  cases hi : Try.prog.info? 53 with
  | none => rw [hi] at h; cases h
  | some i =>
    rw [hi] at h
    simp only [Option.map_some, Option.some.injEq, Prod.mk.injEq] at h
    obtain ⟨h1, h2, h3⟩ := h
    cases hz : i.zero with
    | none => rw [hz] at h1; cases h1
    | some z =>
      rw [hz] at h1
      simp only [Option.map_some, Option.some.injEq] at h1
      exact ⟨i, z, rfl, hz, h2, h3, h1⟩
theorem oneLanes {w : World} {B : Nat} {x : Lane} {cs : List Value} (h : repLane.cells w B x cs) : ∀ u ∈ cs, u.oneCell' = true := by
  intro u hu
  obtain ⟨_, _, _, _, _, _, rfl, _⟩ := h; simp only [List.mem_cons, List.not_mem_nil, or_false] at hu; rcases hu with rfl | rfl | rfl | rfl <;> rfl
set_option maxHeartbeats 1000000 in
theorem cloneLanes {w : World} {B : Nat} {A : Option Addr} {n c : Nat} {lp : List (Lane × List Value)} (h : SliceOf repLane.known w B A n c lp) (hB : B ≤ w.heap.size) (hn : n ≤ 1048576) :
    Calls Try.prog 31 #[.slice A n c] w fun e w' => ∃ r' A' c', e = .returned (.slice A' n c') ∧ Row w' 4 r' A' n c' (lp.flatMap (·.2)) ∧ (∀ k, r' = some k → w.heap.size ≤ k) ∧ New w w' := by
  have hl := h.len
  have hb := h.bound
  cases A with
  | none =>
    obtain rfl : n = 0 := by
      rcases h.2.2.2 with h | ⟨_, _, e, _⟩
      · exact h
      · cases e
    have e : lp.flatMap (·.2) = [] := by rw [List.eq_nil_of_length_eq_zero hl.symm]; rfl
    rw [e]
    have hq := fun (w : World) => Lib.run_eql_slice_nil (P := Try.prog) w 47 53 none 0 c 0 0 Try.underlying47
    clear e h hl
    go_enter Try.func31, Try.ntmps31
    go_wp2
    go_ret
    exact ⟨none, none, 0, rfl, Row.nil _ _, by simp, Kept.refl _ _⟩
  | some ad =>
    have hk0 : New w (w.alloc (.cells #[] 53)) := (Kept.refl _ _).alloc _
    have hsrc := (h.kept hk0 hB fun _ _ h => h).src_known (P := Try.prog) (t := 47) (e := 53) Try.underlying47 oneLanes
    have hq := fun (w : World) => Lib.run_eql_slice_nil (P := Try.prog) w 47 53 (some ad) n c 0 0 Try.underlying47
    have hrow0 : Row (w.alloc (.cells #[] 53)) 4 none (some ⟨w.heap.size, 0, none⟩) 0 0 [] := ⟨rfl, .inl ⟨rfl, rfl, rfl⟩⟩
    change Go.Src Try.prog 4 _ _ _ _ _ at hsrc
    clear hk0 h hl
    have HSRC := Lib.hid hsrc
    have HROW0 := Lib.hid hrow0
    clear hsrc hrow0
    go_enter Try.func31, Try.ntmps31
    go_wp2_with (at_builtin; refine wpList_append_row tyLanes rfl (.tmp 5) (.tmp 6) rfl rfl HROW0.out rfl HSRC.out (by unfold maxLen; omega) (by omega) ?_; intro r2 A2 c2 w2 hr2 hk2 hn2; rw [Nat.zero_add, List.nil_append] at hr2; have HR2 := Lib.hid hr2; have HK2 := Lib.hid hk2; have HN2 := Lib.hid hn2; clear hr2 hk2 hn2)
    go_ret
    refine ⟨r2, A2, c2, by simp [Array.getD], HR2.out, fun k hk => ?_, ((Kept.refl _ _).alloc _).step HK2.out fun i hi e => by cases e⟩
    rcases HN2.out k hk with h | h
    · cases h
    · rw [← size1] at h; omega
theorem tyParts : SliceTy Try.prog 27 43 6 96 := by
  have h : (Try.prog.info? 43).map (fun i => (i.zero.map (·.cells.size), i.size, i.bytes)) = some (some 6, 6, 96) := by kernel_rfl
  refine ⟨Try.underlying27, ?_, by decide⟩
  cases hi : Try.prog.info? 43 with
  | none => rw [hi] at h; cases h
  | some i =>
    rw [hi] at h
    simp only [Option.map_some, Option.some.injEq, Prod.mk.injEq] at h
    obtain ⟨h1, h2, h3⟩ := h
    cases hz : i.zero with
    | none => rw [hz] at h1; cases h1
    | some z =>
      rw [hz] at h1
      simp only [Option.map_some, Option.some.injEq] at h1
      exact ⟨i, z, rfl, hz, h2, h3, h1⟩
theorem oneParts {w : World} {B : Nat} {x : Part} {cs : List Value} (h : repPart.cells w B x cs) : ∀ u ∈ cs, u.oneCell' = true := by
  intro u hu
  obtain ⟨_, _, _, _, _, _, _, _, _, rfl, _⟩ := h; simp only [List.mem_cons, List.not_mem_nil, or_false] at hu; rcases hu with rfl | rfl | rfl | rfl | rfl | rfl <;> rfl
theorem tyProcs : SliceTy Try.prog 28 49 15 136 := by
  have h : (Try.prog.info? 49).map (fun i => (i.zero.map (·.cells.size), i.size, i.bytes)) = some (some 15, 15, 136) := by kernel_rfl
  refine ⟨Try.underlying28, ?_, by decide⟩
  cases hi : Try.prog.info? 49 with
  | none => rw [hi] at h; cases h
  | some i =>
    rw [hi] at h
    simp only [Option.map_some, Option.some.injEq, Prod.mk.injEq] at h
    obtain ⟨h1, h2, h3⟩ := h
    cases hz : i.zero with
    | none => rw [hz] at h1; cases h1
    | some z =>
      rw [hz] at h1
      simp only [Option.map_some, Option.some.injEq] at h1
      exact ⟨i, z, rfl, hz, h2, h3, h1⟩
theorem oneProcs {w : World} {B : Nat} {x : Process} {cs : List Value} (h : repProc.cells w B x cs) : ∀ u ∈ cs, u.oneCell' = true := by
  intro u hu
  obtain ⟨_, _, _, rfl, _⟩ := h; simp only [List.mem_cons, List.not_mem_nil, or_false] at hu; rcases hu with rfl | rfl | rfl | rfl | rfl | rfl | rfl | rfl | rfl | rfl | rfl | rfl | rfl | rfl | rfl <;> rfl
theorem ownInts {w : World} {B : Nat} {A : Option Addr} {n c : Nat} {l : List (Int)} (h : SliceOf (Rep.int .i64) w B A n c l) (hB : B ≤ w.heap.size) (hn : n ≤ 1048576) :
    Calls Try.prog 29 #[.slice A n c] w fun e w' => ∃ r' A' c', e = .returned (.slice A' n c') ∧ OSl intO w' (fun k => r' = some k) A' n c' l ∧ (∀ k, r' = some k → w.heap.size ≤ k ∧ k < w'.heap.size) ∧ New w w' := by
  obtain ⟨lp, hlp, hk⟩ := h.known
  have hf := flat_known (f := fun x => [Value.int .i64 x]) hk fun h => h.1
  refine (cloneInts hk hB hn).mono ?_
  rintro e w' ⟨r', A', c', rfl, hr, hf', hm⟩
  rw [hf, hlp] at hr
  refine ⟨r', A', c', rfl, OSl.of_row (O := intO) hr (fun _ _ => rfl) h.len (fun _ h => h) (fun x hx => ?_), fun k e => ⟨hf' k e, hr.lt (by decide) k e⟩, hm⟩
  obtain ⟨es, h1, h2⟩ := h.cells_mem x hx
  exact ⟨rfl, h2⟩
theorem ownVals {w : World} {B : Nat} {A : Option Addr} {n c : Nat} {l : List (Int)} (h : SliceOf (Rep.int .i64) w B A n c l) (hB : B ≤ w.heap.size) (hn : n ≤ 1048576) :
    Calls Try.prog 32 #[.slice A n c] w fun e w' => ∃ r' A' c', e = .returned (.slice A' n c') ∧ OSl intO w' (fun k => r' = some k) A' n c' l ∧ (∀ k, r' = some k → w.heap.size ≤ k ∧ k < w'.heap.size) ∧ New w w' := by
  obtain ⟨lp, hlp, hk⟩ := h.known
  have hf := flat_known (f := fun x => [Value.int .i64 x]) hk fun h => h.1
  refine (cloneVals hk hB hn).mono ?_
  rintro e w' ⟨r', A', c', rfl, hr, hf', hm⟩
  rw [hf, hlp] at hr
  refine ⟨r', A', c', rfl, OSl.of_row (O := intO) hr (fun _ _ => rfl) h.len (fun _ h => h) (fun x hx => ?_), fun k e => ⟨hf' k e, hr.lt (by decide) k e⟩, hm⟩
  obtain ⟨es, h1, h2⟩ := h.cells_mem x hx
  exact ⟨rfl, h2⟩
theorem ownWaits {w : World} {B : Nat} {A : Option Addr} {n c : Nat} {l : List (Waiter)} (h : SliceOf repWaiter w B A n c l) (hB : B ≤ w.heap.size) (hn : n ≤ 1048576) :
    Calls Try.prog 33 #[.slice A n c] w fun e w' => ∃ r' A' c', e = .returned (.slice A' n c') ∧ OSl waiO w' (fun k => r' = some k) A' n c' l ∧ (∀ k, r' = some k → w.heap.size ≤ k ∧ k < w'.heap.size) ∧ New w w' := by
  obtain ⟨lp, hlp, hk⟩ := h.known
  have hf := flat_known (f := waiC) hk fun h => h.1
  refine (cloneWaits hk hB hn).mono ?_
  rintro e w' ⟨r', A', c', rfl, hr, hf', hm⟩
  rw [hf, hlp] at hr
  refine ⟨r', A', c', rfl, OSl.of_row (O := waiO) hr (fun _ _ => rfl) h.len (fun _ h => h) (fun x hx => ?_), fun k e => ⟨hf' k e, hr.lt (by decide) k e⟩, hm⟩
  obtain ⟨es, h1, h2⟩ := h.cells_mem x hx
  exact ⟨rfl, h2⟩
theorem ownEnts {w : World} {B : Nat} {A : Option Addr} {n c : Nat} {l : List (Entry)} (h : SliceOf repEntry w B A n c l) (hB : B ≤ w.heap.size) (hn : n ≤ 1048576) :
    Calls Try.prog 28 #[.slice A n c] w fun e w' => ∃ r' A' c', e = .returned (.slice A' n c') ∧ OSl entO w' (fun k => r' = some k) A' n c' l ∧ (∀ k, r' = some k → w.heap.size ≤ k ∧ k < w'.heap.size) ∧ New w w' := by
  obtain ⟨lp, hlp, hk⟩ := h.known
  have hf := flat_known (f := entC) hk fun h => h.1
  refine (cloneEnts hk hB hn).mono ?_
  rintro e w' ⟨r', A', c', rfl, hr, hf', hm⟩
  rw [hf, hlp] at hr
  refine ⟨r', A', c', rfl, OSl.of_row (O := entO) hr (fun _ _ => rfl) h.len (fun _ h => h) (fun x hx => ?_), fun k e => ⟨hf' k e, hr.lt (by decide) k e⟩, hm⟩
  obtain ⟨es, h1, h2⟩ := h.cells_mem x hx
  exact ⟨rfl, h2⟩
theorem mix_set {α γ : Type} (f g : α → γ) (l : List α) (i : Nat) (hi : i < l.length) : (((l.take i).map f) ++ ((l.drop i).map g)).set i (f l[i]) = ((l.take (i + 1)).map f) ++ ((l.drop (i + 1)).map g) := by
  rw [List.set_append_right _ _ (by simp; omega), List.length_map, List.length_take, Nat.min_eq_left (by omega), Nat.sub_self, List.drop_eq_getElem_cons hi, List.map_cons, List.set_cons_zero, List.take_succ_eq_append_getElem hi, List.map_append, List.append_assoc]
  rfl
end Go.Proofs.Ytgdmajockejpgaa.View
