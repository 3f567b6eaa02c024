/- The walks of chapter 6's helpers wide, wideBytes, kept. -/
import Derived.Test.YtfffjlcifokdmaaCodeN
import Derived.Test.YtfffjlcifokdmaaKeep
namespace Go.Proofs.Ytfffjlcifokdmaa.Code
open Go.RowKit Go.Fb Go.BytesP Go.CodeP Go.ReaderP
set_option linter.unusedVariables false

def InsAt (g o : Nat) (x : Ins) (W : World) : Prop := W.cell? ⟨g, o, none⟩ = some (.int .i64 x.op) ∧ W.cell? ⟨g, o + 1, none⟩ = some (.int .i64 x.a) ∧ W.cell? ⟨g, o + 2, none⟩ = some (.int .i64 x.b) ∧ W.cell? ⟨g, o + 3, none⟩ = some (.int .i64 x.c) ∧ W.cell? ⟨g, o + 4, none⟩ = some (.int .i64 x.imm)
theorem insAt_of {g o : Nat} {x : Ins} {W : World} (h : ∀ j, j < 5 → W.cell? ⟨g, o + j, none⟩ = (cellsI x)[j]?) : InsAt g o x W := ⟨h 0 (by decide), h 1 (by decide), h 2 (by decide), h 3 (by decide), h 4 (by decide)⟩
theorem insAt_new {g o : Nat} {x : Ins} {W W' : World} (h : InsAt g o x W) (hb : g < W.heap.size) (hn : New W W') : InsAt g o x W' := by
  obtain ⟨h0, h1, h2, h3, h4⟩ := h
  exact ⟨(hn.cell (p := ⟨g, o, none⟩) hb id).trans h0, (hn.cell (p := ⟨g, o + 1, none⟩) hb id).trans h1, (hn.cell (p := ⟨g, o + 2, none⟩) hb id).trans h2, (hn.cell (p := ⟨g, o + 3, none⟩) hb id).trans h3, (hn.cell (p := ⟨g, o + 4, none⟩) hb id).trans h4⟩
def m77 : Ins := ⟨77, 0, 0, 0, 0⟩
def m78 : Ins := ⟨78, 0, 0, 0, 0⟩
def marksB : List UInt8 := [161, 162, 163]
theorem ins_src {w : World} {B : Nat} {A : Option Addr} {n c : Nat} {l : List Ins} (h : SliceOf repIns w B A n c l) : Go.Src Try.prog 5 31 (.slice A n c) n (l.flatMap cellsI) w :=
  SliceOf.src (R := repIns) (f := cellsI) (fun h => h.1) cellsI_one Try.underlying31 h
theorem wide_any (A : Option Addr) (n c : Nat) (l : List Ins) (w : World) (hl : SliceOf repIns w w.heap.size A n c l) (hn : n ≤ 1048576) :
    Calls Try.prog 24 #[.slice A n c] w fun e w' => ∃ r A' c', e = .returned (.slice A' n c') ∧ Row w' 5 r A' (n + 2) c' ((l ++ [m77, m78]).flatMap cellsI) ∧ (∀ k, r = some k → w.heap.size ≤ k) ∧ New w w' := by
  obtain ⟨z, cs, -, -, hcs, hmk⟩ := run_make_ty (P := Try.prog) tyIns (li := 0) (ci := (n : Int) + 2) 0 (n + 2) rfl (by omega) (by omega) (by omega) (by omega)
  have hbd := hl.bound
  obtain ⟨r0, hrow0, hr0⟩ := Row.of_make (T := 25) (size := 5) w cs (n + 2) hcs (by unfold maxLen; omega)
  have hsrc := ins_src (hl.alloc (Nat.le_refl _) (.cells cs.toArray 25))
  have HCS := Lib.hid hcs
  have HL := Lib.hid hl
  have HROW0 := Lib.hid hrow0
  have HR0 := Lib.hid hr0
  have HSRC := Lib.hid hsrc
  clear hcs hl hrow0 hr0 hsrc
  go_enter Try.func24, Try.ntmps24
  go_wp2_with (first | (at_builtin; refine wpList_append_row tyIns rfl (.tmp 7) (.tmp 8) rfl rfl HROW0.out rfl HSRC.out (by unfold maxLen; omega) (by omega) ?_; intro r2 A2 c2 w2 hr2 hk2 hn2; rw [Nat.zero_add, List.nil_append] at hr2; have HR2 := Lib.hid hr2; have HK2 := Lib.hid hk2; have HN2 := Lib.hid hn2; clear hr2 hk2 hn2) | (at_builtin; refine wpList_append_many (cs := cellsI m77 ++ cellsI m78) tyIns rfl (.tmp 10) (.tmp 13) rfl rfl HR2.out rfl rfl rfl (by simp [cellsI, Value.oneCell']) (by unfold maxLen; omega) (by omega) ?_; intro r3 A3 c3 w3 hr3 hk3 hn3; have hle3 := hr3.bound; have HR3 := Lib.hid hr3; have HK3 := Lib.hid hk3; have HN3 := Lib.hid hn3; clear hr3 hk3 hn3))
  go_ret
  have hw2 : New w w2 := ((Kept.refl _ _).alloc _).step HK2.out fun i hi e => by have := HR0.out i e; omega
  have hr2n : ∀ k, r2 = some k → w.heap.size ≤ k := fun k hk => by
    rcases HN2.out k hk with h | h
    · have := HR0.out k h; omega
    · rw [← size1] at h; omega
  refine ⟨r3, A3, c3, rfl, ?_, fun k hk => ?_, hw2.step HK3.out fun i hi e => by have := hr2n i e; omega⟩
  · have := HR3.out
    rwa [List.flatMap_append]
  · rcases HN3.out k hk with h | h
    · exact hr2n k h
    · have := hw2.size; omega
theorem wideBytes_any (A : Option Addr) (n c : Nat) (l : List UInt8) (w : World) (hl : SliceOf Rep.byte w w.heap.size A n c l) (hn : n ≤ 1048576) :
    Calls Try.prog 25 #[.slice A n c] w fun e w' => ∃ r A' c', e = .returned (.slice A' n c') ∧ RowB w' r A' (n + 3) c' (l ++ marksB) ∧ (∀ k, r = some k → w.heap.size ≤ k) ∧ New w w' := by
  obtain ⟨z, cs, -, -, hcs, hmk⟩ := run_make_ty (P := Try.prog) tyBytes (li := 0) (ci := (n : Int) + 3) 0 (n + 3) rfl (by omega) (by omega) (by omega) (by omega)
  have hbd := hl.bound
  obtain ⟨r0, hrow0, hr0⟩ := Row.of_make (T := 5) (size := 1) w cs (n + 3) hcs (by unfold maxLen; omega)
  have hsrc := (hl.alloc (Nat.le_refl _) (.cells cs.toArray 5)).srcB Try.underlying35
  have HCS := Lib.hid hcs
  have HL := Lib.hid hl
  have HROW0 := Lib.hid hrow0
  have HR0 := Lib.hid hr0
  have HSRC := Lib.hid hsrc
  clear hcs hl hrow0 hr0 hsrc
  go_enter Try.func25, Try.ntmps25
  go_wp2_with (first | (at_builtin; refine wpList_append_row tyBytes rfl (.tmp 7) (.tmp 8) rfl rfl HROW0.out rfl HSRC.out (by unfold maxLen; omega) (by omega) ?_; intro r2 A2 c2 w2 hr2 hk2 hn2; rw [Nat.zero_add, List.nil_append] at hr2; have HR2 := Lib.hid hr2; have HK2 := Lib.hid hk2; have HN2 := Lib.hid hn2; clear hr2 hk2 hn2) | (at_builtin; refine wpList_append_many (cs := marksB.map bv) tyBytes rfl (.tmp 10) (.tmp 11) rfl rfl HR2.out rfl rfl rfl (bv_one _) (by unfold maxLen; omega) (by omega) ?_; intro r3 A3 c3 w3 hr3 hk3 hn3; have hle3 := hr3.bound; have HR3 := Lib.hid hr3; have HK3 := Lib.hid hk3; have HN3 := Lib.hid hn3; clear hr3 hk3 hn3))
  go_ret
  have hw2 : New w w2 := ((Kept.refl _ _).alloc _).step HK2.out fun i hi e => by have := HR0.out i e; omega
  have hr2n : ∀ k, r2 = some k → w.heap.size ≤ k := fun k hk => by
    rcases HN2.out k hk with h | h
    · have := HR0.out k h; omega
    · rw [← size1] at h; omega
  refine ⟨r3, A3, c3, rfl, ?_, fun k hk => ?_, hw2.step HK3.out fun i hi e => by have := hr2n i e; omega⟩
  · have := HR3.out
    unfold RowB
    rwa [List.map_append]
  · rcases HN3.out k hk with h | h
    · exact hr2n k h
    · have := hw2.size; omega
/-- The first ones of a row, read. -/
theorem rowI_head {w : World} {r : Option Nat} {A : Option Addr} {n m c : Nat} {l t : List Ins} (h : Row w 5 r A m c ((l ++ t).flatMap cellsI)) (hn : n = l.length) (hm : n ≤ m) (hw : ∀ x ∈ l, Wf x) : SliceOf repIns w w.heap.size A n c l := by
  have := h.head hm
  have e : ((l ++ t).flatMap cellsI).take (n * 5) = l.flatMap cellsI := by
    rw [List.flatMap_append, List.take_append_of_le_length, List.take_of_length_le] <;> rw [flatMap_len (f := cellsI) (size := 5) l (fun x _ => rfl), hn] <;> exact Nat.le_refl _
  rw [e] at this
  exact this.slice (R := repIns) (by decide) hn.symm fun x hx => ⟨rfl, hw x hx⟩
set_option maxHeartbeats 1000000 in
theorem kept_any (A A' : Option Addr) (n c c' : Nat) (l : List Ins) (r : Option Nat) (w : World) (hw : Row w 5 r A (n + 2) c ((l ++ [m77, m78]).flatMap cellsI)) (hl : SliceOf repIns w w.heap.size A' n c' l) (hn : n ≤ 1048576) :
    Calls Try.prog 26 #[.slice A n c, .slice A' n c'] w fun e w' => e = .returned (.bool true) ∧ New w w' := by
  have hnl := hl.len
  have hwf := ins_wf hl
  have hh := rowI_head hw hnl (by omega) hwf
  have hbd := hw.bound
  obtain ⟨g, o, e1, rfl, h7⟩ := hw.at_index (k := n) (by omega)
  obtain ⟨g', o', e1', e2', h8⟩ := hw.at_index (k := n + 1) (by omega)
  rw [e1] at e1'
  injection e1' with e1'
  injection e2' with e2'
  injection e2' with _ e2'
  subst e1'; subst e2'
  have hg := hw.lt (by decide) g e1
  have f7 : ∀ j, j < 5 → ((l ++ [m77, m78]).flatMap cellsI)[n * 5 + j]? = (cellsI m77)[j]? := fun j hj => by
    have := flatMap_get (f := cellsI) (l ++ [m77, m78]) (fun x _ => rfl) n (by simp; omega) j hj
    rw [this, List.getElem_append_right (by omega)]
    simp [hnl]
  have f8 : ∀ j, j < 5 → ((l ++ [m77, m78]).flatMap cellsI)[(n + 1) * 5 + j]? = (cellsI m78)[j]? := fun j hj => by
    have := flatMap_get (f := cellsI) (l ++ [m77, m78]) (fun x _ => rfl) (n + 1) (by simp; omega) j hj
    rw [this, List.getElem_append_right (by omega)]
    simp [hnl]
  have a7 : InsAt g (o + n * 5) m77 w := insAt_of fun j hj => by
    obtain ⟨v, h1, h2, _⟩ := h7 j hj
    rw [f7 j hj] at h1
    exact h2.trans h1.symm
  have a8 : InsAt g (o + (n + 1) * 5) m78 w := insAt_of fun j hj => by
    obtain ⟨v, h1, h2, _⟩ := h8 j hj
    rw [f8 j hj] at h1
    exact h2.trans h1.symm
  have hc2 : n + 2 ≤ c := by omega
  have HH := Lib.hid hh
  have HL := Lib.hid hl
  have A7 := Lib.hid a7
  have A8 := Lib.hid a8
  clear hh hl a7 a8
  clear hw hnl hwf h7 h8 f7 f8 e1
  go_enter Try.func26, Try.ntmps26
  go_wp2_with (go_at_call 22; refine (same_true _ _ _ _ _ _ _ _ l _ HH.out HL.out).mono ?_; rintro e w1 ⟨rfl, hw1⟩; obtain ⟨b0, b1, b2, b3, b4⟩ := insAt_new A7.out hg hw1; obtain ⟨d0, d1, d2, d3, d4⟩ := insAt_new A8.out hg hw1; have HW1 := Lib.hid hw1; clear hw1; simp only [m77, m78] at b0 b1 b2 b3 b4 d0 d1 d2 d3 d4)
  go_ret
  exact ⟨rfl, HW1.out⟩
end Go.Proofs.Ytfffjlcifokdmaa.Code
