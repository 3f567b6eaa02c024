/- How a post stands behind each step, plainly (layer 10). -/
import Derived.Test.YtnfaafdgfafcjaaPostPb
namespace Go.Proofs.Ytnfaafdgfafcjaa.Lane
open Go.RowKit Go.Fb
set_option linter.unusedVariables false
def waitsAll (Ls : List Lane) : Nat := (Ls.flatMap (·.waits)).length
structure OkP (room : Int) (M : Nat) (Ls : List Lane) (cur : Int) : Prop where
  len : 1 ≤ Ls.length ∧ Ls.length ≤ 9
  cur : 0 ≤ cur ∧ cur < (Ls.length : Int)
  rm : 1 ≤ room ∧ room ≤ 64
  ok : ∀ L ∈ Ls, OkL M L ∧ L.room = room
  sum : waitsAll Ls ≤ M
theorem waits_set {Ls : List Lane} {i : Nat} (hi : i < Ls.length) (L' : Lane) : waitsAll (Ls.set i L') + Ls[i].waits.length = waitsAll Ls + L'.waits.length := by
  unfold waitsAll
  induction Ls generalizing i with
  | nil => cases hi
  | cons L Ls ih =>
    cases i with
    | zero => simp only [List.set_cons_zero, List.flatMap_cons, List.length_append, List.getElem_cons_zero]; omega
    | succ i =>
      have := ih (i := i) (by simpa using hi)
      simp only [List.set_cons_succ, List.flatMap_cons, List.length_append, List.getElem_cons_succ]
      omega
theorem waits_map {Ls : List Lane} {f : Lane → Lane} (h : ∀ L, (f L).waits.length ≤ L.waits.length) : waitsAll (Ls.map f) ≤ waitsAll Ls := by
  unfold waitsAll
  induction Ls with
  | nil => exact Nat.le_refl _
  | cons L Ls ih =>
    have := h L
    simp only [List.map_cons, List.flatMap_cons, List.length_append]
    omega
theorem waits_one {Ls : List Lane} {L : Lane} (h : L ∈ Ls) : L.waits.length ≤ waitsAll Ls := by
  unfold waitsAll
  induction Ls with
  | nil => cases h
  | cons L0 Ls ih =>
    simp only [List.flatMap_cons, List.length_append]
    rcases List.mem_cons.1 h with rfl | h
    · omega
    · have := ih h; omega
section
variable {room : Int} {M : Nat} {Ls : List Lane} {cur : Int}
theorem OkP.mono {M' : Nat} (h : OkP room M Ls cur) (hM : M ≤ M') : OkP room M' Ls cur := ⟨h.len, h.cur, h.rm, fun L hL => ⟨(h.ok L hL).1.mono hM, (h.ok L hL).2⟩, Nat.le_trans h.sum hM⟩
theorem OkP.set (h : OkP room M Ls cur) {i : Nat} (hi : i < Ls.length) {L' : Lane} (h1 : OkL (M + 1) L') (h2 : L'.room = Ls[i].room) (h3 : L'.waits.length ≤ Ls[i].waits.length + 1) {cur' : Int} (hc : 0 ≤ cur' ∧ cur' < (Ls.length : Int)) : OkP room (M + 1) (Ls.set i L') cur' := by
  refine ⟨by rw [List.length_set]; exact h.len, by rw [List.length_set]; exact hc, h.rm, fun L hL => ?_, ?_⟩
  · rcases List.mem_or_eq_of_mem_set hL with hL | rfl
    · exact ⟨(h.ok L hL).1.mono (by omega), (h.ok L hL).2⟩
    · exact ⟨h1, h2.trans (h.ok _ (List.getElem_mem hi)).2⟩
  · have := waits_set hi L'
    have := h.sum
    omega
theorem OkP.map (h : OkP room M Ls cur) {f : Lane → Lane} (h1 : ∀ L, OkL M L → OkL M (f L)) (h2 : ∀ L, (f L).room = L.room) (h3 : ∀ L, (f L).waits.length ≤ L.waits.length) : OkP room M (Ls.map f) cur := by
  refine ⟨by rw [List.length_map]; exact h.len, by rw [List.length_map]; exact h.cur, h.rm, fun L hL => ?_, Nat.le_trans (waits_map h3) h.sum⟩
  obtain ⟨L0, hL0, rfl⟩ := List.mem_map.1 hL
  exact ⟨h1 _ (h.ok L0 hL0).1, (h2 L0).trans (h.ok L0 hL0).2⟩
def stepP (Ls : List Lane) (cur k l p v : Int) : List Lane × Int :=
  if k = 1 then ((putP Ls l v).1, cur) else if k = 2 then (dropP Ls l, cur) else if k = 3 then ((takeP Ls cur).1, (takeP Ls cur).2.1) else if k = 4 then ((waitP Ls l p v).1, cur)
  else if k = 5 then ((leaveP Ls p).1, cur) else if k = 6 then ((endP Ls).1, cur) else (Ls, cur)
theorem putL_room (L : Lane) (v : Int) : (putL L v).1.room = L.room := by unfold putL; split <;> rfl
theorem putL_waits (L : Lane) (v : Int) : (putL L v).1.waits = L.waits := by unfold putL; split <;> rfl
theorem waitL_room (L : Lane) (p v : Int) : (waitL L p v).1.room = L.room := by
  unfold waitL
  repeat' split
  all_goals rfl
theorem waitL_waits (L : Lane) (p v : Int) : (waitL L p v).1.waits.length ≤ L.waits.length + 1 := by
  unfold waitL
  repeat' split
  all_goals simp
theorem takeL_room (L : Lane) : (takeL L).1.room = L.room := by
  unfold takeL
  repeat' split
  all_goals rfl
theorem takeL_waits (L : Lane) : (takeL L).1.waits.length ≤ L.waits.length := by
  unfold takeL
  split
  · exact Nat.le_refl _
  · exact Nat.le_refl _
  · rename_i hw
    rw [hw]
    simp
theorem leaveL_room (L : Lane) (p : Int) : (leaveL L p).1.room = L.room := by
  unfold leaveL
  repeat' split
  all_goals rfl
theorem leaveL_waits (L : Lane) (p : Int) : (leaveL L p).1.waits.length ≤ L.waits.length := by
  unfold leaveL
  split
  · exact Nat.le_refl _
  · exact List.length_eraseIdx_le _ _
theorem OkP.step (h : OkP room M Ls cur) (k l p v : Int) (hp : (Lit.int .i64 p).wf = true) : OkP room (M + 1) (stepP Ls cur k l p v).1 (stepP Ls cur k l p v).2 := by
  have hat : ∀ n : Int, 0 ≤ n ∧ n < (Ls.length : Int) → ∃ i : Nat, ∃ hi : i < Ls.length, n = i ∧ laneAt Ls n = Ls[i] := fun n hn => ⟨n.toNat, by omega, by omega, by
    obtain ⟨i, rfl⟩ : ∃ i : Nat, n = i := ⟨n.toNat, by omega⟩
    exact laneAt_eq (by omega)⟩
  unfold stepP
  split
  · unfold putP
    by_cases hr : 0 ≤ l ∧ l < (Ls.length : Int)
    · rw [if_pos hr]
      obtain ⟨i, hi, rfl, he⟩ := hat l hr
      rw [he, Int.toNat_natCast]
      exact h.set hi (((h.ok _ (List.getElem_mem hi)).1.put v).mono (by omega)) (putL_room _ _) (by rw [putL_waits]; omega) h.cur
    · rw [if_neg hr]; exact h.mono (by omega)
  split
  · unfold dropP
    by_cases hr : 0 ≤ l ∧ l < (Ls.length : Int)
    · rw [if_pos hr]
      obtain ⟨i, hi, rfl, he⟩ := hat l hr
      rw [he, Int.toNat_natCast]
      exact h.set hi ((h.ok _ (List.getElem_mem hi)).1.drop.mono (by omega)) rfl (by show Ls[i].waits.length ≤ _; omega) h.cur
    · rw [if_neg hr]; exact h.mono (by omega)
  split
  · unfold takeP
    by_cases hf : findP Ls cur < Ls.length
    · rw [if_pos hf]
      have hn0 : (Ls.length : Int) ≠ 0 := by have := h.len; omega
      have hnp : 0 ≤ nextP Ls cur ∧ nextP Ls cur < (Ls.length : Int) := ⟨Int.emod_nonneg _ hn0, Int.emod_lt_of_pos _ (by have := h.len; omega)⟩
      obtain ⟨i, hi, hie, he⟩ := hat _ hnp
      rw [he, hie, Int.toNat_natCast]
      exact h.set hi ((h.ok _ (List.getElem_mem hi)).1.take.mono (by omega)) (takeL_room _) (by have := takeL_waits Ls[i]; omega) ⟨Int.emod_nonneg _ hn0, Int.emod_lt_of_pos _ (by have := h.len; omega)⟩
    · rw [if_neg hf]; exact h.mono (by omega)
  split
  · unfold waitP
    by_cases hr : 0 ≤ l ∧ l < (Ls.length : Int)
    · rw [if_pos hr]
      by_cases hw : 0 ≤ waitsP Ls p
      · rw [if_pos hw]; exact h.mono (by omega)
      · rw [if_neg hw]
        obtain ⟨i, hi, rfl, he⟩ := hat l hr
        rw [he, Int.toNat_natCast]
        exact h.set hi ((h.ok _ (List.getElem_mem hi)).1.wait p v hp) (waitL_room _ _ _) (waitL_waits _ _ _) h.cur
    · rw [if_neg hr]; exact h.mono (by omega)
  split
  · exact (h.map (fun L hL => hL.leave p) (fun L => leaveL_room L p) (fun L => leaveL_waits L p)).mono (by omega)
  split
  · exact (h.map (fun L hL => hL.noone) (fun L => rfl) (fun L => Nat.zero_le _)).mono (by omega)
  · exact h.mono (by omega)
theorem takeP_form (Ls : List Lane) (cur : Int) : ∃ v i q lt e, (takeP Ls cur).2.2 = tookN v i q lt e := by
  unfold takeP
  split
  · exact ⟨_, _, _, _, _, rfl⟩
  · exact ⟨_, _, _, _, _, rfl⟩
theorem OkP.small (h : OkP room M Ls cur) (hM : M ≤ 8000000000000) : ∀ L ∈ Ls, L.vals.length ≤ 8000000000000 ∧ L.waits.length ≤ 8000000000000 := fun L hL => by
  have h1 := (h.ok L hL).1.vals
  have h2 := (h.ok L hL).1.few
  exact ⟨by omega, by omega⟩
end
/-! ### Both posts. -/
/-- A post and the reference's, each in memory of its own that is new since w; apart from X. -/
def BothPX (X : Nat → Prop) (w wr : World) (b c : Nat) (L1 : List Lane) (c1 : Int) (L2 : List Lane) (c2 : Int) : Prop := ∃ F G, PAt wr b F L1 c1 ∧ PAtR wr c G L2 c2 ∧ (∀ k, F k → w.heap.size ≤ k) ∧ (∀ k, G k → w.heap.size ≤ k) ∧ (∀ k, F k → ¬ G k) ∧ New w wr ∧ (∀ k, F k ∨ G k → ¬ X k) ∧ ∀ k, X k → k < wr.heap.size
abbrev BothP := BothPX (fun _ => False)
section
variable {X Y : Nat → Prop} {w wr w' : World} {b c : Nat} {L1 L2 L' : List Lane} {c1 c2 c' : Int} {v : Value} {e : Ending}
theorem BothPX.fresh (h : BothPX X w wr b c L1 c1 L2 c2) : New w wr := by obtain ⟨F, G, _, _, _, _, _, h, _⟩ := h; exact h
theorem BothPX.new (h : BothPX X w wr b c L1 c1 L2 c2) (hk : New wr w') : BothPX X w w' b c L1 c1 L2 c2 := by
  obtain ⟨F, G, h1, h2, h3, h4, h5, h6, h7, h8⟩ := h
  exact ⟨F, G, h1.new hk, h2.new hk, h3, h4, h5, h6.trans hk, h7, fun k e => Nat.lt_of_lt_of_le (h8 k e) hk.size⟩
theorem BothPX.less (h : BothPX X w wr b c L1 c1 L2 c2) (hY : ∀ k, Y k → X k) : BothPX Y w wr b c L1 c1 L2 c2 := by
  obtain ⟨F, G, h1, h2, h3, h4, h5, h6, h7, h8⟩ := h
  exact ⟨F, G, h1, h2, h3, h4, h5, h6, fun k e e' => h7 k e (hY k e'), fun k e => h8 k (hY k e)⟩
/-- What has been made since is apart, too. -/
theorem BothPX.add (h : BothPX X w wr b c L1 c1 L2 c2) (hk : New wr w') : BothPX (fun k => X k ∨ (wr.heap.size ≤ k ∧ k < w'.heap.size)) w w' b c L1 c1 L2 c2 := by
  obtain ⟨F, G, h1, h2, h3, h4, h5, h6, h7, h8⟩ := h
  refine ⟨F, G, h1.new hk, h2.new hk, h3, h4, h5, h6.trans hk, fun k e e' => ?_, fun k e => ?_⟩
  · rcases e' with e' | e'
    · exact h7 k e e'
    · rcases e with e | e
      · have := h1.lt k e; omega
      · have := h2.lt k e; omega
  · rcases e with e | e
    · exact Nat.lt_of_lt_of_le (h8 k e) hk.size
    · exact e.2
/-- A step of the post. -/
theorem BothPX.left (h : BothPX X w wr b c L1 c1 L2 c2) {k : FuncId} {args : Array Value} (hc : ∀ F, PAt wr b F L1 c1 → Calls Try.prog k args wr (PEnds wr b F L' c' v)) : Calls Try.prog k args wr fun e w' => e = .returned v ∧ BothPX X w w' b c L' c' L2 c2 ∧ Kept (fun k => ¬ X k) wr w' := by
  obtain ⟨F, G, h1, h2, h3, h4, h5, h6, h7, h8⟩ := h
  refine (hc F h1).mono fun e w' ⟨e1, e2, e3⟩ => ⟨e1, ⟨grow F wr w', G, e2, h2.kept e3 (fun k hk hf => h5 k hf hk), fun k hk => ?_, h4, fun k hk hg => ?_, h6.step e3 fun k hk hf => absurd (h3 k hf) (Nat.not_le.2 hk), fun k e hx => ?_, fun k e => Nat.lt_of_lt_of_le (h8 k e) e3.size⟩, e3.mono fun k _ e => h7 k (.inl e)⟩
  · rcases hk.1 with hk | hk
    · exact h3 k hk
    · exact Nat.le_trans h6.size hk
  · rcases hk.1 with hk | hk
    · exact h5 k hk hg
    · exact absurd (h2.lt k hg) (Nat.not_lt.2 hk)
  · rcases e with e | e
    · rcases e.1 with e | e
      · exact h7 k (.inl e) hx
      · exact absurd (h8 k hx) (Nat.not_lt.2 e)
    · exact h7 k (.inr e) hx
/-- A step of the reference. -/
theorem BothPX.right (h : BothPX X w wr b c L1 c1 L2 c2) {k : FuncId} {args : Array Value} (hc : ∀ G, PAtR wr c G L2 c2 → Calls Try.prog k args wr (PEndsR wr c G L' c' v)) : Calls Try.prog k args wr fun e w' => e = .returned v ∧ BothPX X w w' b c L1 c1 L' c' ∧ Kept (fun k => ¬ X k) wr w' := by
  obtain ⟨F, G, h1, h2, h3, h4, h5, h6, h7, h8⟩ := h
  refine (hc G h2).mono fun e w' ⟨e1, e2, e3⟩ => ⟨e1, ⟨F, grow G wr w', h1.kept e3 h5, e2, h3, fun k hk => ?_, fun k hf hk => ?_, h6.step e3 fun k hk hf => absurd (h4 k hf) (Nat.not_le.2 hk), fun k e hx => ?_, fun k e => Nat.lt_of_lt_of_le (h8 k e) e3.size⟩, e3.mono fun k _ e => h7 k (.inr e)⟩
  · rcases hk.1 with hk | hk
    · exact h4 k hk
    · exact Nat.le_trans h6.size hk
  · rcases hk.1 with hk | hk
    · exact h5 k hf hk
    · exact absurd (h1.lt k hf) (Nat.not_lt.2 hk)
  · rcases e with e | e
    · exact h7 k (.inl e) hx
    · rcases e.1 with e | e
      · exact h7 k (.inr e) hx
      · exact absurd (h8 k hx) (Nat.not_lt.2 e)
end
end Go.Proofs.Ytnfaafdgfafcjaa.Lane
