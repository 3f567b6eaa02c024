/- What stays true of a lane, step by step, plainly; a lane and the reference's, side by side (layer 9). -/
import Derived.Test.YtnfaafdgfafcjaaLaneM2
namespace Go.Proofs.Ytnfaafdgfafcjaa.Lane
open Go.RowKit Go.Fb
set_option linter.unusedVariables false
/-- A lane may stand as it does; those who wait are of at most so many. -/
structure OkL (M : Nat) (L : Lane) : Prop where
  room : 1 ≤ L.room ∧ L.room ≤ 64
  may : MayL L.room L
  wf : ∀ q ∈ L.waits, (Lit.int .i64 q.1).wf = true
  few : L.waits.length ≤ M
section
variable {M : Nat} {L : Lane}
theorem OkL.mono {M' : Nat} (h : OkL M L) (hm : M ≤ M') : OkL M' L := ⟨h.room, h.may, h.wf, Nat.le_trans h.few hm⟩
theorem OkL.vals (h : OkL M L) : L.vals.length ≤ 64 := by have := h.room.2; have := h.may.1; omega
theorem OkL.taken (h : OkL M L) : 0 ≤ L.taken ∧ L.taken ≤ 65535 := h.may.2.2.1
theorem OkL.dropped (h : OkL M L) : 0 ≤ L.dropped ∧ L.dropped ≤ 65535 := h.may.2.2.2.1
theorem OkL.err (h : OkL M L) : layErr L.room L = 0 := layErr_ok h.room h.may
theorem dup_iff {l : List (Int × Int)} : dupB l = false ↔ (l.map (·.1)).Nodup := by
  unfold dupB
  rw [decide_eq_false_iff_not, Classical.not_not]
theorem OkL.put (h : OkL M L) (v : Int) : OkL M (putL L v).1 := by
  unfold putL
  split
  · exact h
  · rename_i hf
    obtain ⟨m1, m2, m3, m4, m5⟩ := h.may
    refine ⟨h.room, ⟨?_, ?_, m3, m4, m5⟩, h.wf, h.few⟩
    · show ((L.vals ++ [v]).length : Int) ≤ L.room
      rw [List.length_append, List.length_singleton]; omega
    · show L.waits.length = 0 ∨ L.room ≤ ((L.vals ++ [v]).length : Int)
      rw [List.length_append, List.length_singleton]
      rcases m2 with m2 | m2
      · exact .inl m2
      · omega
theorem OkL.wait (h : OkL M L) (p v : Int) (hp : (Lit.int .i64 p).wf = true) : OkL (M + 1) (waitL L p v).1 := by
  unfold waitL
  split
  · exact h.mono (by omega)
  · rename_i hf
    split
    · exact h.mono (by omega)
    · rename_i hq
      obtain ⟨m1, m2, m3, m4, m5⟩ := h.may
      refine ⟨h.room, ⟨m1, .inr (by simpa using hf), m3, m4, ?_⟩, ?_, ?_⟩
      · show dupB (L.waits ++ [(p, v)]) = false
        rw [dup_iff] at m5 ⊢
        rw [List.map_append, List.nodup_append]
        refine ⟨m5, by simp, fun a ha c hc e => ?_⟩
        simp only [List.map_cons, List.map_nil, List.mem_singleton] at hc
        subst hc; subst e
        obtain ⟨q, hq', rfl⟩ := List.mem_map.1 ha
        have : L.waits.findIdx (fun r => r.1 == q.1) < L.waits.length := List.findIdx_lt_length_of_exists ⟨q, hq', by simp⟩
        unfold placeAt at hq
        rw [if_pos this] at hq
        omega
      · intro q hq
        rcases List.mem_append.1 hq with h1 | h1
        · exact h.wf q h1
        · rw [List.mem_singleton.1 h1]; exact hp
      · show (L.waits ++ [(p, v)]).length ≤ M + 1
        rw [List.length_append, List.length_singleton]; have := h.few; omega
theorem OkL.take (h : OkL M L) : OkL M (takeL L).1 := by
  obtain ⟨m1, m2, m3, m4, m5⟩ := h.may
  unfold takeL
  split
  · exact h
  · rename_i v rest hv hw
    rw [hv, List.length_cons] at m1
    exact ⟨h.room, ⟨by show ((rest.length : Nat) : Int) ≤ L.room; omega, .inl (by show L.waits.length = 0; rw [hw]; rfl), ⟨by show 0 ≤ min (L.taken + 1) 65535; omega, by show min (L.taken + 1) 65535 ≤ 65535; omega⟩, m4, m5⟩, h.wf, h.few⟩
  · rename_i v rest q ws hv hw
    rw [hv, List.length_cons] at m1 m2
    rw [hw, List.length_cons] at m2
    have hfew := h.few
    have hwf := h.wf
    rw [hw] at hfew hwf
    refine ⟨h.room, ⟨?_, .inr ?_, ⟨by show 0 ≤ min (L.taken + 1) 65535; omega, by show min (L.taken + 1) 65535 ≤ 65535; omega⟩, m4, ?_⟩, fun r hr => hwf r (by simp [show r ∈ ws from hr]), ?_⟩
    · show (((rest ++ [q.2]).length : Nat) : Int) ≤ L.room
      rw [List.length_append, List.length_singleton]; omega
    · show L.room ≤ (((rest ++ [q.2]).length : Nat) : Int)
      rw [List.length_append, List.length_singleton]
      rcases m2 with m2 | m2 <;> omega
    · show dupB ws = false
      rw [dup_iff] at m5 ⊢
      rw [hw, List.map_cons, List.nodup_cons] at m5
      exact m5.2
    · show ws.length ≤ M
      rw [List.length_cons] at hfew; omega
theorem OkL.drop (h : OkL M L) : OkL M { L with dropped := min (L.dropped + 1) 65535 } := by
  obtain ⟨m1, m2, m3, m4, m5⟩ := h.may
  exact ⟨h.room, ⟨m1, m2, m3, ⟨by show 0 ≤ min (L.dropped + 1) 65535; omega, by show min (L.dropped + 1) 65535 ≤ 65535; omega⟩, m5⟩, h.wf, h.few⟩
theorem OkL.noone (h : OkL M L) : OkL M { L with waits := [] } := by
  obtain ⟨m1, m2, m3, m4, m5⟩ := h.may
  exact ⟨h.room, ⟨m1, .inl rfl, m3, m4, by show dupB [] = false; exact dup_iff.2 (by simp)⟩, fun q hq => (by cases hq), Nat.zero_le _⟩
theorem OkL.leave (h : OkL M L) (p : Int) : OkL M (leaveL L p).1 := by
  unfold leaveL
  split
  · exact h
  · rename_i hq
    obtain ⟨k, hk, hkl⟩ := place_lt hq
    obtain ⟨m1, m2, m3, m4, m5⟩ := h.may
    rw [hk, Int.toNat_natCast]
    refine ⟨h.room, ⟨m1, .inr (by show L.room ≤ (L.vals.length : Int); rcases m2 with m2 | m2 <;> omega), m3, m4, ?_⟩, fun q hq => h.wf q (List.mem_of_mem_eraseIdx hq), ?_⟩
    · show dupB (L.waits.eraseIdx k) = false
      rw [dup_iff] at m5 ⊢
      exact m5.sublist ((List.eraseIdx_sublist _ _).map _)
    · show (L.waits.eraseIdx k).length ≤ M
      have := List.length_eraseIdx_le L.waits k
      have := h.few
      omega
end
/-- A lane and the reference's, each in memory of its own that is new since w; apart from X. -/
def BothX (X : Nat → Prop) (w wr : World) (b c : Nat) (L1 L2 : Lane) : Prop := ∃ F G, At wr b F L1 ∧ AtR wr c G L2 ∧ (∀ k, F k → w.heap.size ≤ k) ∧ (∀ k, G k → w.heap.size ≤ k) ∧ (∀ k, F k → ¬ G k) ∧ New w wr ∧ (∀ k, F k ∨ G k → ¬ X k) ∧ ∀ k, X k → k < wr.heap.size
abbrev Both := BothX (fun _ => False)
section
variable {X Y : Nat → Prop} {w wr w' : World} {b c : Nat} {L1 L2 L' : Lane} {v : Value} {e : Ending}
theorem BothX.fresh (h : BothX X w wr b c L1 L2) : New w wr := by obtain ⟨F, G, _, _, _, _, _, h, _⟩ := h; exact h
theorem BothX.new (h : BothX X w wr b c L1 L2) (hk : New wr w') : BothX X w w' b c L1 L2 := by
  obtain ⟨F, G, h1, h2, h3, h4, h5, h6, h7, h8⟩ := h
  exact ⟨F, G, h1.new hk, h2.new hk, h3, h4, h5, h6.trans hk, h7, fun k e => Nat.lt_of_lt_of_le (h8 k e) hk.size⟩
theorem BothX.less (h : BothX X w wr b c L1 L2) (hY : ∀ k, Y k → X k) : BothX Y w wr b c L1 L2 := by
  obtain ⟨F, G, h1, h2, h3, h4, h5, h6, h7, h8⟩ := h
  exact ⟨F, G, h1, h2, h3, h4, h5, h6, fun k e e' => h7 k e (hY k e'), fun k e => h8 k (hY k e)⟩
/-- What has been made since is apart, too. -/
theorem BothX.add (h : BothX X w wr b c L1 L2) (hk : New wr w') : BothX (fun k => X k ∨ (wr.heap.size ≤ k ∧ k < w'.heap.size)) w w' b c L1 L2 := by
  obtain ⟨F, G, h1, h2, h3, h4, h5, h6, h7, h8⟩ := h
  refine ⟨F, G, h1.new hk, h2.new hk, h3, h4, h5, h6.trans hk, fun k e e' => ?_, fun k e => ?_⟩
  · rcases e' with e' | e'
    · exact h7 k e e'
    · rcases e with e | e
      · have := h1.lt k e; omega
      · have := h2.lt k e; omega
  · rcases e with e | e
    · exact Nat.lt_of_lt_of_le (h8 k e) hk.size
    · exact e.2
/-- A step of the lane. -/
theorem BothX.left (h : BothX X w wr b c L1 L2) {k : FuncId} {args : Array Value} (hc : ∀ F, At wr b F L1 → Calls Try.prog k args wr (Ends wr b F L' v)) : Calls Try.prog k args wr fun e w' => e = .returned v ∧ BothX X w w' b c L' L2 ∧ Kept (fun k => ¬ X k) wr w' := by
  obtain ⟨F, G, h1, h2, h3, h4, h5, h6, h7, h8⟩ := h
  refine (hc F h1).mono fun e w' ⟨e1, e2, e3⟩ => ⟨e1, ⟨grow F wr w', G, e2, h2.kept e3 (fun k hk hf => h5 k hf hk), fun k hk => ?_, h4, fun k hk hg => ?_, h6.step e3 fun k hk hf => absurd (h3 k hf) (Nat.not_le.2 hk), fun k e hx => ?_, fun k e => Nat.lt_of_lt_of_le (h8 k e) e3.size⟩, e3.mono fun k _ e => h7 k (.inl e)⟩
  · rcases hk.1 with hk | hk
    · exact h3 k hk
    · exact Nat.le_trans h6.size hk
  · rcases hk.1 with hk | hk
    · exact h5 k hk hg
    · exact absurd (h2.lt k hg) (Nat.not_lt.2 hk)
  · rcases e with e | e
    · rcases e.1 with e | e
      · exact h7 k (.inl e) hx
      · exact absurd (h8 k hx) (Nat.not_lt.2 e)
    · exact h7 k (.inr e) hx
/-- A step of the reference. -/
theorem BothX.right (h : BothX X w wr b c L1 L2) {k : FuncId} {args : Array Value} (hc : ∀ G, AtR wr c G L2 → Calls Try.prog k args wr (EndsR wr c G L' v)) : Calls Try.prog k args wr fun e w' => e = .returned v ∧ BothX X w w' b c L1 L' ∧ Kept (fun k => ¬ X k) wr w' := by
  obtain ⟨F, G, h1, h2, h3, h4, h5, h6, h7, h8⟩ := h
  refine (hc G h2).mono fun e w' ⟨e1, e2, e3⟩ => ⟨e1, ⟨F, grow G wr w', h1.kept e3 h5, e2, h3, fun k hk => ?_, fun k hf hk => ?_, h6.step e3 fun k hk hf => absurd (h4 k hf) (Nat.not_le.2 hk), fun k e hx => ?_, fun k e => Nat.lt_of_lt_of_le (h8 k e) e3.size⟩, e3.mono fun k _ e => h7 k (.inr e)⟩
  · rcases hk.1 with hk | hk
    · exact h4 k hk
    · exact Nat.le_trans h6.size hk
  · rcases hk.1 with hk | hk
    · exact h5 k hf hk
    · exact absurd (h1.lt k hf) (Nat.not_lt.2 hk)
  · rcases e with e | e
    · exact h7 k (.inl e) hx
    · rcases e.1 with e | e
      · exact h7 k (.inr e) hx
      · exact absurd (h8 k hx) (Nat.not_lt.2 e)
end
end Go.Proofs.Ytnfaafdgfafcjaa.Lane
