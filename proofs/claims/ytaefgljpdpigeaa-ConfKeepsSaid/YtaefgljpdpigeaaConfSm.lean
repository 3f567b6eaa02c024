/- The walk of the laws' small (layer 14): the document's config. -/
import Derived.Test.YtaefgljpdpigeaaConfRs
import Derived.Deep.RegionHeld3
namespace Go.Proofs.Ytaefgljpdpigeaa.Conf
open Go.RowKit Go.Fb Go.CodeP Go.BytesP Go.ReaderP
set_option linter.unusedVariables false
def smallP : List (Int × List Ins) := [(1, [⟨25, 3, 4, 0, 0⟩])]
def smallC : Cf := ⟨[0, 1], [0, 1], 2, 1, 1, 4, smallP⟩
def smallZ : Cf := ⟨[0, 1], [0, 1], 0, 1, 1, 4, smallP⟩
theorem small_may : mayC smallC = (0, 0) := by decide +kernel
theorem small_mayZ : mayC smallZ = (2, 2) := by decide +kernel
theorem small_enc : encC smallC = encB smallC := by unfold encC; rw [small_may, if_pos rfl]
theorem small_len : (encB smallC).length = 47 := by decide +kernel
theorem small_dec : decD (encB smallC) = .ok smallC := by kernel_rfl
theorem mark_dec : decD [70, 66, 67, 70, 2] = .error (4, 4) := by kernel_rfl
theorem ne_small : skel smallC ≠ skel smallZ := fun h => absurd (congrArg (fun s => s.2.2.1) h) (by decide)
theorem ints_of {k : IntKind} {w : World} {T : TypeId} {g : Nat} {l : List Int} (h : Blk w g T (l.map (Value.int k)).toArray) (hw : ∀ x ∈ l, (Lit.int k x).wf = true) (hl : l.length ≤ 1000) : SliceOf (Rep.int k) w w.heap.size (some ⟨g, 0, none⟩) l.length l.length l := by
  refine ⟨rfl, Nat.le_refl _, by unfold maxLen; omega, .inr ⟨g, 0, rfl, h.lt, fun i hi => ⟨[.int k l[i]], fun j hj => ?_, rfl, hw _ (List.getElem_mem hi)⟩⟩⟩
  have hj0 : j = 0 := Nat.lt_one_iff.1 hj
  subst hj0
  rw [show (0 + i * (Rep.int k).size + 0) = i by show 0 + i * 1 + 0 = i; omega, h.cell]
  simp [hi]
theorem wf_sm : Code.Wf ⟨25, 3, 4, 0, 0⟩ := by refine ⟨?_, ?_, ?_, ?_, ?_⟩ <;> decide
theorem wf_one : (Lit.int .i64 1).wf = true := by decide
set_option maxRecDepth 100000 in
theorem small_any (w : World) : Calls Try.prog 25 #[] w fun e w' => (∃ (Al : Option Addr) (cl : Nat) (At : Option Addr) (ct : Nat) (Ap : Option Addr) (cp : Nat), e = .returned (.agg #[.slice Al 2 cl, .slice At 2 ct, .int .i64 2, .int .i64 1, .int .i64 1, .int .i64 4, .slice Ap 1 cp]) ∧
    SliceOf (Rep.int .u64) w' w'.heap.size Al 2 cl [0, 1] ∧ SliceOf (Rep.int .i64) w' w'.heap.size At 2 ct [0, 1] ∧ SliceOf repProc w' w'.heap.size Ap 1 cp smallP) ∧ New w w' := by
  go_enter Try.func25, Try.ntmps25
  go_wp2_with fail
  have b0 := ((((Blk.made w 26 #[.slice (some ⟨w.heap.size + 1, 0, none⟩) 2 2, .slice (some ⟨w.heap.size + 1 + 1, 0, none⟩) 2 2, .int .i64 2, .int .i64 1, .int .i64 1, .int .i64 4, .slice (some ⟨w.heap.size + 1 + 1 + 1 + 1, 0, none⟩) 1 1]).alloc (.cells #[.int .u64 0, .int .u64 1] 49)).alloc (.cells #[.int .i64 0, .int .i64 1] 3)).alloc (.cells #[.int .i64 25, .int .i64 3, .int .i64 4, .int .i64 0, .int .i64 0] 62)).alloc (.cells #[.int .i64 1, .slice (some ⟨w.heap.size + 1 + 1 + 1, 0, none⟩) 1 1] 37)
  have b1 := (((Blk.made_at (w.alloc (.cells #[.slice (some ⟨w.heap.size + 1, 0, none⟩) 2 2, .slice (some ⟨w.heap.size + 1 + 1, 0, none⟩) 2 2, .int .i64 2, .int .i64 1, .int .i64 1, .int .i64 4, .slice (some ⟨w.heap.size + 1 + 1 + 1 + 1, 0, none⟩) 1 1] 26)) 49 #[.int .u64 0, .int .u64 1] (w.heap.size + 1) (size1 _ _)).alloc (.cells #[.int .i64 0, .int .i64 1] 3)).alloc (.cells #[.int .i64 25, .int .i64 3, .int .i64 4, .int .i64 0, .int .i64 0] 62)).alloc (.cells #[.int .i64 1, .slice (some ⟨w.heap.size + 1 + 1 + 1, 0, none⟩) 1 1] 37)
  have b2 := ((Blk.made_at ((w.alloc (.cells #[.slice (some ⟨w.heap.size + 1, 0, none⟩) 2 2, .slice (some ⟨w.heap.size + 1 + 1, 0, none⟩) 2 2, .int .i64 2, .int .i64 1, .int .i64 1, .int .i64 4, .slice (some ⟨w.heap.size + 1 + 1 + 1 + 1, 0, none⟩) 1 1] 26)).alloc (.cells #[.int .u64 0, .int .u64 1] 49)) 3 #[.int .i64 0, .int .i64 1] (w.heap.size + 1 + 1) (by rw [← size1, ← size1])).alloc (.cells #[.int .i64 25, .int .i64 3, .int .i64 4, .int .i64 0, .int .i64 0] 62)).alloc (.cells #[.int .i64 1, .slice (some ⟨w.heap.size + 1 + 1 + 1, 0, none⟩) 1 1] 37)
  have b3 := (Blk.made_at (((w.alloc (.cells #[.slice (some ⟨w.heap.size + 1, 0, none⟩) 2 2, .slice (some ⟨w.heap.size + 1 + 1, 0, none⟩) 2 2, .int .i64 2, .int .i64 1, .int .i64 1, .int .i64 4, .slice (some ⟨w.heap.size + 1 + 1 + 1 + 1, 0, none⟩) 1 1] 26)).alloc (.cells #[.int .u64 0, .int .u64 1] 49)).alloc (.cells #[.int .i64 0, .int .i64 1] 3)) 62 #[.int .i64 25, .int .i64 3, .int .i64 4, .int .i64 0, .int .i64 0] (w.heap.size + 1 + 1 + 1) (by rw [← size1, ← size1, ← size1])).alloc (.cells #[.int .i64 1, .slice (some ⟨w.heap.size + 1 + 1 + 1, 0, none⟩) 1 1] 37)
  have b4 := Blk.made_at ((((w.alloc (.cells #[.slice (some ⟨w.heap.size + 1, 0, none⟩) 2 2, .slice (some ⟨w.heap.size + 1 + 1, 0, none⟩) 2 2, .int .i64 2, .int .i64 1, .int .i64 1, .int .i64 4, .slice (some ⟨w.heap.size + 1 + 1 + 1 + 1, 0, none⟩) 1 1] 26)).alloc (.cells #[.int .u64 0, .int .u64 1] 49)).alloc (.cells #[.int .i64 0, .int .i64 1] 3)).alloc (.cells #[.int .i64 25, .int .i64 3, .int .i64 4, .int .i64 0, .int .i64 0] 62)) 37 #[.int .i64 1, .slice (some ⟨w.heap.size + 1 + 1 + 1, 0, none⟩) 1 1] (w.heap.size + 1 + 1 + 1 + 1) (by rw [← size1, ← size1, ← size1, ← size1])
  have hk : New w (((((w.alloc (.cells #[.slice (some ⟨w.heap.size + 1, 0, none⟩) 2 2, .slice (some ⟨w.heap.size + 1 + 1, 0, none⟩) 2 2, .int .i64 2, .int .i64 1, .int .i64 1, .int .i64 4, .slice (some ⟨w.heap.size + 1 + 1 + 1 + 1, 0, none⟩) 1 1] 26)).alloc (.cells #[.int .u64 0, .int .u64 1] 49)).alloc (.cells #[.int .i64 0, .int .i64 1] 3)).alloc (.cells #[.int .i64 25, .int .i64 3, .int .i64 4, .int .i64 0, .int .i64 0] 62)).alloc (.cells #[.int .i64 1, .slice (some ⟨w.heap.size + 1 + 1 + 1, 0, none⟩) 1 1] 37)) := (((((Kept.refl _ _).alloc _).alloc _).alloc _).alloc _).alloc _
  have y0 := b0.cell 0
  have y1 := b0.cell 1
  have y2 := b0.cell 2
  have y3 := b0.cell 3
  have y4 := b0.cell 4
  have y5 := b0.cell 5
  have y6 := b0.cell 6
  simp only [List.getElem?_toArray, List.getElem?_cons_zero, List.getElem?_cons_succ] at y0 y1 y2 y3 y4 y5 y6
  generalize ((((w.alloc (.cells #[.slice (some ⟨w.heap.size + 1, 0, none⟩) 2 2, .slice (some ⟨w.heap.size + 1 + 1, 0, none⟩) 2 2, .int .i64 2, .int .i64 1, .int .i64 1, .int .i64 4, .slice (some ⟨w.heap.size + 1 + 1 + 1 + 1, 0, none⟩) 1 1] 26)).alloc (.cells #[.int .u64 0, .int .u64 1] 49)).alloc (.cells #[.int .i64 0, .int .i64 1] 3)).alloc (.cells #[.int .i64 25, .int .i64 3, .int .i64 4, .int .i64 0, .int .i64 0] 62)).alloc (.cells #[.int .i64 1, .slice (some ⟨w.heap.size + 1 + 1 + 1, 0, none⟩) 1 1] 37) = W at *
  refine bodyPost_ret (v := .agg #[.slice (some ⟨w.heap.size + 1, 0, none⟩) 2 2, .slice (some ⟨w.heap.size + 1 + 1, 0, none⟩) 2 2, .int .i64 2, .int .i64 1, .int .i64 1, .int .i64 4, .slice (some ⟨w.heap.size + 1 + 1 + 1 + 1, 0, none⟩) 1 1]) (by simp [results, Try.results25, go_sem, y0, y1, y2, y3, y4, y5, y6]) rfl ?_
  have hi : SliceOf Code.repIns W W.heap.size (some ⟨w.heap.size + 1 + 1 + 1, 0, none⟩) 1 1 [⟨25, 3, 4, 0, 0⟩] := by
    refine ⟨rfl, Nat.le_refl _, by unfold maxLen; omega, .inr ⟨_, 0, rfl, b3.lt, fun i hi => ?_⟩⟩
    obtain rfl : i = 0 := by simpa using hi
    exact ⟨Code.cellsI ⟨25, 3, 4, 0, 0⟩, fun j hj => by rw [show 0 + 0 * Code.repIns.size + j = j by omega, b3.cell j]; simp [Code.cellsI], rfl, wf_sm⟩
  refine ⟨⟨_, 2, _, 2, _, 1, rfl, ints_of (l := [0, 1]) b1 (by decide) (by decide), ints_of (l := [0, 1]) b2 (by decide) (by decide), ?_⟩, hk⟩
  refine ⟨rfl, Nat.le_refl _, by unfold maxLen; omega, .inr ⟨_, 0, rfl, b4.lt, fun i hi' => ?_⟩⟩
  obtain rfl : i = 0 := by simpa [smallP] using hi'
  exact ⟨[.int .i64 1, .slice (some ⟨w.heap.size + 1 + 1 + 1, 0, none⟩) 1 1], fun j hj => by rw [show 0 + 0 * repProc.size + j = j by omega, b4.cell j]; simp, some ⟨w.heap.size + 1 + 1 + 1, 0, none⟩, 1, rfl, hi, wf_one⟩
end Go.Proofs.Ytaefgljpdpigeaa.Conf
