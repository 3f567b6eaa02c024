/- How a config stands while the reference reads it (layer 14). Printed by wip/tools/mkRg14.py. -/
import Derived.Test.YtaefgljpdpigeaaConfRc
import Derived.Test.YtaefgljpdpigeaaConfAw
namespace Go.Proofs.Ytaefgljpdpigeaa.Conf
open Go.RowKit Go.Fb Go.CodeP Go.BytesP Go.ReaderP
set_option linter.unusedVariables false
/-- The reader lies in block r, the config in cb, the result in res. -/
structure RefSt (w wr : World) (r cb res : Nat) (A : Option Addr) (n c : Nat) (s : St) (Fl Ft F : Nat → Prop) (Al : Option Addr) (cl : Nat) (At : Option Addr) (ct : Nat) (Ap : Option Addr) (cp : Nat) (ls t : List Int) (x2 x3 x4 x5 : Int) (acc : List (Int × List Ins)) : Prop where
  at_ : Reader.At wr r A n c s
  blk : Blk wr cb 26 #[.slice Al ls.length cl, .slice At t.length ct, .int .i64 x2, .int .i64 x3, .int .i64 x4, .int .i64 x5, .slice Ap acc.length cp]
  resB : Blk wr res 26 zeroC
  labs : OSl u64O wr Fl Al ls.length cl ls
  tab : OSl i64O wr Ft At t.length ct t
  prs : OSl procO wr F Ap acc.length cp acc
  own : ∀ k, Fl k ∨ Ft k ∨ F k → w.heap.size ≤ k ∧ k ≠ cb ∧ k ≠ res ∧ k < wr.heap.size
  dis : ∀ k, (Fl k → ¬ Ft k ∧ ¬ F k) ∧ (Ft k → ¬ F k)
  keep : Kept (fun k => k = r) w wr
/-- A number, by the reference, as the plain reading has it. -/
theorem rint_num {w : World} {r m B : Nat} {A : Option Addr} {n c : Nat} {bs : List UInt8} {s : St} {least most low high : Int} {f : Nat → Int} (hf : ∀ v : Nat, f v = if (v : Int) < least then low else if most < (v : Int) then high else 0) (hr : Reader.At w r A n c s) (hb : SliceOf Rep.byte w B A n c bs) (hB : B ≤ r) (hm0 : 0 < m) (hm : m ≤ 2) (hl : low ≠ 0) (hh : high ≠ 0) (hlm : least ≤ most) :
    Calls Try.prog 70 #[.pointer (some ⟨r, 0, none⟩), .int .i64 m, .int .i64 least, .int .i64 most, .int .i64 low, .int .i64 high] w fun x w' =>
      ∃ (v : Nat) (s' : St), x = .returned (.int .i64 v) ∧ v < 256 ^ m ∧ Reader.At w' r A n c s' ∧ Run (numD bs m f) s s' v ∧ Kept (fun k => k = r) w w' := by
  refine (Reader.int_any r m B A n c bs s w least most low high hr hb hB hm0 hm hl hh hlm).mono fun x w' ⟨h1, h2, h3⟩ => ?_
  have h4 := run_int (b := bs) (m := m) (f := f) hl hh hf s
  have h5 : ∃ v : Nat, (rInt bs s m least most low high).1 = v ∧ v < 256 ^ m := by
    cases s with
    | error e => exact ⟨0, rfl, Nat.pow_pos (by decide)⟩
    | ok p =>
      unfold rInt
      simp only
      by_cases h : bs.length < p + m
      · rw [if_pos h]; exact ⟨0, rfl, Nat.pow_pos (by decide)⟩
      · rw [if_neg h]; exact ⟨_, rfl, numV_lt _ _ _⟩
  obtain ⟨v, e, hv⟩ := h5
  rw [e] at h1 h4
  exact ⟨v, _, h1, hv, h2, h4, h3⟩
/-- .. and where something was wrong. -/
theorem rint_err {w : World} {r m B : Nat} {A : Option Addr} {n c : Nat} {bs : List UInt8} {e : Int × Int} {least most low high : Int} (hr : Reader.At w r A n c (.error e)) (hb : SliceOf Rep.byte w B A n c bs) (hB : B ≤ r) (hm0 : 0 < m) (hm : m ≤ 2) (hl : low ≠ 0) (hh : high ≠ 0) (hlm : least ≤ most) :
    Calls Try.prog 70 #[.pointer (some ⟨r, 0, none⟩), .int .i64 m, .int .i64 least, .int .i64 most, .int .i64 low, .int .i64 high] w fun x w' =>
      x = .returned (.int .i64 0) ∧ Reader.At w' r A n c (.error e) ∧ Kept (fun k => k = r) w w' :=
  Reader.int_any r m B A n c bs (.error e) w least most low high hr hb hB hm0 hm hl hh hlm
theorem Run.ok_of {α : Type} {D : Nat → Except (Int × Int) (α × Nat)} {s : St} {p : Nat} {a : α} (h : Run D s (.ok p) a) : ∃ q, s = .ok q := by
  cases s with
  | ok q => exact ⟨q, rfl⟩
  | error e => cases h
theorem Run.num_ok {b : List UInt8} {m : Nat} {f : Nat → Int} {s : St} {p v : Nat} (h : Run (numD b m f) s (.ok p) v) : f v = 0 := by
  obtain ⟨q, rfl⟩ := Run.ok_of h
  unfold Run numD at h
  simp only at h
  by_cases h1 : b.length < q + m
  · rw [if_pos h1] at h; cases h
  · rw [if_neg h1] at h
    by_cases h2 : f (numV b q m) = 0
    · rw [if_pos h2] at h
      obtain ⟨-, rfl⟩ := h
      exact h2
    · rw [if_neg h2] at h; cases h
theorem count_num (most : Int) (h0 : 1 ≤ most) (v : Nat) : countF most v = if (v : Int) < 1 then 1 else if most < (v : Int) then 3 else 0 := by
  unfold countF manyE
  by_cases h : (v : Int) = 0
  · rw [if_pos h, if_pos (by omega)]
  · rw [if_neg h, if_neg (show ¬ (v : Int) < 1 by omega)]
theorem part_num (parts : Int) (v : Nat) : partF parts v = if (v : Int) < 0 then 2 else if parts - 1 < (v : Int) then 2 else 0 := by
  unfold partF
  rw [if_neg (show ¬ (v : Int) < 0 by omega)]
  by_cases h : parts ≤ v
  · rw [if_pos h, if_pos (by omega)]
  · rw [if_neg h, if_neg (by omega)]
theorem code_num (v : Nat) : codeF v = if (v : Int) < 0 then 3 else if 256 < (v : Int) then 3 else 0 := by
  unfold codeF
  rw [if_neg (show ¬ (v : Int) < 0 by omega)]
  by_cases h : 256 < v
  · rw [if_pos h, if_pos (by omega)]
  · rw [if_neg h, if_neg (by omega)]
theorem within_num (a b : Int) (v : Nat) : (if withinB v a b then (0 : Int) else 2) = if (v : Int) < a then 2 else if b < (v : Int) then 2 else 0 := by
  unfold withinB
  by_cases h1 : (v : Int) < a
  · rw [if_pos h1, decide_eq_false (by omega)]; rfl
  · by_cases h2 : b < (v : Int)
    · rw [if_neg h1, if_pos h2, decide_eq_false (by omega)]; rfl
    · rw [if_neg h1, if_neg h2, decide_eq_true (by omega)]; rfl
theorem range2_num (v : Nat) : rangeF 2 v = if (v : Int) < 1 then 2 else if 256 < (v : Int) then 2 else 0 := within_num 1 256 v
theorem range3_num (v : Nat) : rangeF 3 v = if (v : Int) < 1 then 2 else if 64 < (v : Int) then 2 else 0 := within_num 1 64 v
theorem range4_num (v : Nat) : rangeF 4 v = if (v : Int) < 0 then 2 else if 8 < (v : Int) then 2 else 0 := within_num 0 8 v
theorem range5_num (v : Nat) : rangeF 5 v = if (v : Int) < 0 then 2 else if 4096 < (v : Int) then 2 else 0 := within_num 0 4096 v
section
variable {w wr w2 : World} {r cb res : Nat} {A : Option Addr} {n c : Nat} {s s2 : St} {Fl Ft F : Nat → Prop} {Al : Option Addr} {cl : Nat} {At : Option Addr} {ct : Nat} {Ap : Option Addr} {cp : Nat} {ls t : List Int} {x2 x3 x4 x5 : Int} {acc : List (Int × List Ins)}
theorem RefSt.bytes (h : RefSt w wr r cb res A n c s Fl Ft F Al cl At ct Ap cp ls t x2 x3 x4 x5 acc) {B : Nat} {bs : List UInt8} (hb : SliceOf Rep.byte w B A n c bs) (hB : B ≤ r) (hrl : r < w.heap.size) : SliceOf Rep.byte wr B A n c bs := hb.kept h.keep (by omega) fun k h1 h2 => by omega
/-- The reader alone has gone on. -/
theorem RefSt.went (h : RefSt w wr r cb res A n c s Fl Ft F Al cl At ct Ap cp ls t x2 x3 x4 x5 acc) (hr : Reader.At w2 r A n c s2) (hk : Kept (fun k => k = r) wr w2) (hrl : r < w.heap.size) (hcw : w.heap.size ≤ cb) (hrw : w.heap.size ≤ res) : RefSt w w2 r cb res A n c s2 Fl Ft F Al cl At ct Ap cp ls t x2 x3 x4 x5 acc :=
  ⟨hr, h.blk.kept hk (by omega), h.resB.kept hk (by omega), h.labs.kept hk (fun k e => by have := (h.own k (.inl e)).1; omega), h.tab.kept hk (fun k e => by have := (h.own k (.inr (.inl e))).1; omega), h.prs.kept hk (fun k e => by have := (h.own k (.inr (.inr e))).1; omega),
    fun k e => by have := h.own k e; have := hk.size; exact ⟨by omega, by omega, by omega, by omega⟩, h.dis, h.keep.trans hk⟩
theorem RefSt.put (h : RefSt w wr r cb res A n c s Fl Ft F Al cl At ct Ap cp ls t x2 x3 x4 x5 acc) (hrl : r < w.heap.size) (hcw : w.heap.size ≤ cb) (hre : res ≠ cb) (j : Nat) (v : Value) :
    Reader.At (wr.setCell ⟨cb, j, none⟩ v) r A n c s ∧ Blk (wr.setCell ⟨cb, j, none⟩ v) res 26 zeroC ∧ OSl u64O (wr.setCell ⟨cb, j, none⟩ v) Fl Al ls.length cl ls ∧ OSl i64O (wr.setCell ⟨cb, j, none⟩ v) Ft At t.length ct t ∧ OSl procO (wr.setCell ⟨cb, j, none⟩ v) F Ap acc.length cp acc ∧
      (∀ k, Fl k ∨ Ft k ∨ F k → w.heap.size ≤ k ∧ k ≠ cb ∧ k ≠ res ∧ k < (wr.setCell ⟨cb, j, none⟩ v).heap.size) ∧ Kept (fun k => k = r) w (wr.setCell ⟨cb, j, none⟩ v) := by
  have hk := Kept.set1 wr cb j v
  refine ⟨h.at_.kept hk (fun e => by omega), h.resB.kept hk hre, h.labs.kept hk (fun k e => (h.own k (.inl e)).2.1), h.tab.kept hk (fun k e => (h.own k (.inr (.inl e))).2.1), h.prs.kept hk (fun k e => (h.own k (.inr (.inr e))).2.1), fun k e => ?_, h.keep.step hk fun i hi e => by omega⟩
  have := h.own k e
  have := hk.size
  exact ⟨by omega, by omega, by omega, by omega⟩
theorem RefSt.set2 (h : RefSt w wr r cb res A n c s Fl Ft F Al cl At ct Ap cp ls t x2 x3 x4 x5 acc) (hrl : r < w.heap.size) (hcw : w.heap.size ≤ cb) (hre : res ≠ cb) (v : Int) : RefSt w (wr.setCell ⟨cb, 2, none⟩ (.int .i64 v)) r cb res A n c s Fl Ft F Al cl At ct Ap cp ls t v x3 x4 x5 acc := by
  have hb := h.blk.set (i := 2) (.int .i64 v)
  obtain ⟨h1, h2, h3, h4, h5, h6, h7⟩ := h.put hrl hcw hre 2 (.int .i64 v)
  exact ⟨h1, by simpa using hb, h2, h3, h4, h5, h6, h.dis, h7⟩
theorem RefSt.set3 (h : RefSt w wr r cb res A n c s Fl Ft F Al cl At ct Ap cp ls t x2 x3 x4 x5 acc) (hrl : r < w.heap.size) (hcw : w.heap.size ≤ cb) (hre : res ≠ cb) (v : Int) : RefSt w (wr.setCell ⟨cb, 3, none⟩ (.int .i64 v)) r cb res A n c s Fl Ft F Al cl At ct Ap cp ls t x2 v x4 x5 acc := by
  have hb := h.blk.set (i := 3) (.int .i64 v)
  obtain ⟨h1, h2, h3, h4, h5, h6, h7⟩ := h.put hrl hcw hre 3 (.int .i64 v)
  exact ⟨h1, by simpa using hb, h2, h3, h4, h5, h6, h.dis, h7⟩
theorem RefSt.set4 (h : RefSt w wr r cb res A n c s Fl Ft F Al cl At ct Ap cp ls t x2 x3 x4 x5 acc) (hrl : r < w.heap.size) (hcw : w.heap.size ≤ cb) (hre : res ≠ cb) (v : Int) : RefSt w (wr.setCell ⟨cb, 4, none⟩ (.int .i64 v)) r cb res A n c s Fl Ft F Al cl At ct Ap cp ls t x2 x3 v x5 acc := by
  have hb := h.blk.set (i := 4) (.int .i64 v)
  obtain ⟨h1, h2, h3, h4, h5, h6, h7⟩ := h.put hrl hcw hre 4 (.int .i64 v)
  exact ⟨h1, by simpa using hb, h2, h3, h4, h5, h6, h.dis, h7⟩
theorem RefSt.set5 (h : RefSt w wr r cb res A n c s Fl Ft F Al cl At ct Ap cp ls t x2 x3 x4 x5 acc) (hrl : r < w.heap.size) (hcw : w.heap.size ≤ cb) (hre : res ≠ cb) (v : Int) : RefSt w (wr.setCell ⟨cb, 5, none⟩ (.int .i64 v)) r cb res A n c s Fl Ft F Al cl At ct Ap cp ls t x2 x3 x4 v acc := by
  have hb := h.blk.set (i := 5) (.int .i64 v)
  obtain ⟨h1, h2, h3, h4, h5, h6, h7⟩ := h.put hrl hcw hre 5 (.int .i64 v)
  exact ⟨h1, by simpa using hb, h2, h3, h4, h5, h6, h.dis, h7⟩
/-- One thing more: labs. -/
theorem RefSt.rowL (h : RefSt w wr r cb res A n c s Fl Ft F Al cl At ct Ap cp ls t x2 x3 x4 x5 acc) (hrl : r < w.heap.size) (hcw : w.heap.size ≤ cb) (hrw : w.heap.size ≤ res) (hre : res ≠ cb) :
    ∃ r0 xs, Row wr 1 r0 Al ls.length cl xs ∧ (∀ g, r0 = some g → g ≠ cb) ∧ ∀ (w6 : World) (r6 rx : Option Nat) (A6 : Option Addr) (c6 : Nat) (x : Int) (cs : List Value), u64O.own wr (fun k => rx = some k) x cs → (∀ k, rx = some k → ¬ Fl k ∧ ¬ Ft k ∧ ¬ F k ∧ w.heap.size ≤ k ∧ k ≠ cb ∧ k ≠ res ∧ k < wr.heap.size) → Row w6 1 r6 A6 (ls.length + 1) c6 (xs ++ cs) → Kept (fun k => r0 = some k) wr w6 → (∀ k, r6 = some k → r0 = some k ∨ wr.heap.size ≤ k) →
      ∃ F6, RefSt w (w6.setCell ⟨cb, 0, none⟩ (.slice A6 (ls.length + 1) c6)) r cb res A n c s F6 Ft F A6 c6 At ct Ap cp (ls ++ [x]) t x2 x3 x4 x5 acc := by
  obtain ⟨r0, xs, h1, h2, h3⟩ := h.labs.rows
  have ho := h.own
  have hwr := h.keep.size
  have hbl := h.blk.lt
  have hrb := h.resB.lt
  refine ⟨r0, xs, h1, fun g e => (ho g (.inl (h2 g e))).2.1, fun w6 r6 rx A6 c6 x cs hx hrx hr6 hk6 hn6 => ⟨fun k => Fl k ∨ rx = some k ∨ r6 = some k, ?_⟩⟩
  have hs6 := hk6.size
  have hcb := h.blk.kept hk6 (fun e => (ho cb (.inl (h2 cb e))).2.1 rfl)
  have hlab := h3 (F' := fun k => Fl k ∨ rx = some k ∨ r6 = some k) hr6 hk6 hn6 (fun k e => (ho k (.inl e)).2.2.2) hx (fun k e => ⟨(hrx k e).1, (hrx k e).2.2.2.2.2.2⟩) (fun k e => .inl e) (fun k e => .inr (.inl e)) (fun k e => .inr (.inr e))
  have hks : Kept (fun k => k = cb) w6 (w6.setCell ⟨cb, 0, none⟩ (.slice A6 (ls.length + 1) c6)) := Kept.set1 _ _ _ _
  have hsS : (w6.setCell ⟨cb, 0, none⟩ (.slice A6 (ls.length + 1) c6)).heap.size = w6.heap.size := (size_set _ _ _).symm
  have hl : (ls ++ [x]).length = ls.length + 1 := by rw [List.length_append]; rfl
  have hF : ∀ k, Fl k ∨ rx = some k ∨ r6 = some k → w.heap.size ≤ k ∧ k ≠ cb ∧ k ≠ res ∧ k < w6.heap.size := by
    rintro k (e | e | e)
    · have := ho k (.inl e); exact ⟨this.1, this.2.1, this.2.2.1, by omega⟩
    · have := hrx k e; exact ⟨this.2.2.2.1, this.2.2.2.2.1, this.2.2.2.2.2.1, by omega⟩
    · have hlt := hr6.lt (by decide) k e
      rcases hn6 k e with e' | e'
      · have := ho k (.inl (h2 k e')); exact ⟨this.1, this.2.1, this.2.2.1, hlt⟩
      · exact ⟨by omega, by omega, by omega, hlt⟩
  refine ⟨(h.at_.kept hk6 (fun e => by have := (ho r (.inl (h2 r e))).1; omega)).kept hks (fun e => by omega), ?_, (h.resB.kept hk6 (fun e => (ho res (.inl (h2 res e))).2.2.1 rfl)).kept hks hre,
    by rw [hl]; exact hlab.kept hks (fun k e => (hF k e).2.1), (h.tab.kept hk6 (fun k e e' => ((h.dis k).1 (h2 k e')).1 e)).kept hks (fun k e => (ho k (.inr (.inl e))).2.1), (h.prs.kept hk6 (fun k e e' => ((h.dis k).1 (h2 k e')).2 e)).kept hks (fun k e => (ho k (.inr (.inr e))).2.1), ?_, ?_, ?_⟩
  · have := hcb.set (i := 0) (.slice A6 (ls.length + 1) c6)
    rw [hl]
    simpa using this
  · rw [hsS]
    rintro k (e | e | e)
    · exact hF k e
    · have := ho k (.inr (.inl e)); exact ⟨this.1, this.2.1, this.2.2.1, by omega⟩
    · have := ho k (.inr (.inr e)); exact ⟨this.1, this.2.1, this.2.2.1, by omega⟩
  · intro k
    have d1 : (Fl k ∨ rx = some k ∨ r6 = some k) → ¬ Ft k := fun e' e => (by rcases e' with e' | e' | e'; exact ((h.dis k).1 e').1 e; exact (hrx k e').2.1 e; rcases hn6 k e' with e2 | e2; exact ((h.dis k).1 (h2 k e2)).1 e; have := (ho k (.inr (.inl e))).2.2.2; omega)
    have d2 : (Fl k ∨ rx = some k ∨ r6 = some k) → ¬ F k := fun e' e => (by rcases e' with e' | e' | e'; exact ((h.dis k).1 e').2 e; exact (hrx k e').2.2.1 e; rcases hn6 k e' with e2 | e2; exact ((h.dis k).1 (h2 k e2)).2 e; have := (ho k (.inr (.inr e))).2.2.2; omega)
    have d3 : Ft k → ¬ F k := fun e e' => (h.dis k).2 e e'
    exact ⟨fun e => ⟨d1 e, d2 e⟩, d3⟩
  · exact Kept.setCell (h.keep.step hk6 fun i hi e => by have := (ho i (.inl (h2 i e))).1; omega) (.inl hcw) _
/-- One thing more: tab. -/
theorem RefSt.rowT (h : RefSt w wr r cb res A n c s Fl Ft F Al cl At ct Ap cp ls t x2 x3 x4 x5 acc) (hrl : r < w.heap.size) (hcw : w.heap.size ≤ cb) (hrw : w.heap.size ≤ res) (hre : res ≠ cb) :
    ∃ r0 xs, Row wr 1 r0 At t.length ct xs ∧ (∀ g, r0 = some g → g ≠ cb) ∧ ∀ (w6 : World) (r6 rx : Option Nat) (A6 : Option Addr) (c6 : Nat) (x : Int) (cs : List Value), i64O.own wr (fun k => rx = some k) x cs → (∀ k, rx = some k → ¬ Fl k ∧ ¬ Ft k ∧ ¬ F k ∧ w.heap.size ≤ k ∧ k ≠ cb ∧ k ≠ res ∧ k < wr.heap.size) → Row w6 1 r6 A6 (t.length + 1) c6 (xs ++ cs) → Kept (fun k => r0 = some k) wr w6 → (∀ k, r6 = some k → r0 = some k ∨ wr.heap.size ≤ k) →
      ∃ F6, RefSt w (w6.setCell ⟨cb, 1, none⟩ (.slice A6 (t.length + 1) c6)) r cb res A n c s Fl F6 F Al cl A6 c6 Ap cp ls (t ++ [x]) x2 x3 x4 x5 acc := by
  obtain ⟨r0, xs, h1, h2, h3⟩ := h.tab.rows
  have ho := h.own
  have hwr := h.keep.size
  have hbl := h.blk.lt
  have hrb := h.resB.lt
  refine ⟨r0, xs, h1, fun g e => (ho g (.inr (.inl (h2 g e)))).2.1, fun w6 r6 rx A6 c6 x cs hx hrx hr6 hk6 hn6 => ⟨fun k => Ft k ∨ rx = some k ∨ r6 = some k, ?_⟩⟩
  have hs6 := hk6.size
  have hcb := h.blk.kept hk6 (fun e => (ho cb (.inr (.inl (h2 cb e)))).2.1 rfl)
  have hlab := h3 (F' := fun k => Ft k ∨ rx = some k ∨ r6 = some k) hr6 hk6 hn6 (fun k e => (ho k (.inr (.inl e))).2.2.2) hx (fun k e => ⟨(hrx k e).2.1, (hrx k e).2.2.2.2.2.2⟩) (fun k e => .inl e) (fun k e => .inr (.inl e)) (fun k e => .inr (.inr e))
  have hks : Kept (fun k => k = cb) w6 (w6.setCell ⟨cb, 1, none⟩ (.slice A6 (t.length + 1) c6)) := Kept.set1 _ _ _ _
  have hsS : (w6.setCell ⟨cb, 1, none⟩ (.slice A6 (t.length + 1) c6)).heap.size = w6.heap.size := (size_set _ _ _).symm
  have hl : (t ++ [x]).length = t.length + 1 := by rw [List.length_append]; rfl
  have hF : ∀ k, Ft k ∨ rx = some k ∨ r6 = some k → w.heap.size ≤ k ∧ k ≠ cb ∧ k ≠ res ∧ k < w6.heap.size := by
    rintro k (e | e | e)
    · have := ho k (.inr (.inl e)); exact ⟨this.1, this.2.1, this.2.2.1, by omega⟩
    · have := hrx k e; exact ⟨this.2.2.2.1, this.2.2.2.2.1, this.2.2.2.2.2.1, by omega⟩
    · have hlt := hr6.lt (by decide) k e
      rcases hn6 k e with e' | e'
      · have := ho k (.inr (.inl (h2 k e'))); exact ⟨this.1, this.2.1, this.2.2.1, hlt⟩
      · exact ⟨by omega, by omega, by omega, hlt⟩
  refine ⟨(h.at_.kept hk6 (fun e => by have := (ho r (.inr (.inl (h2 r e)))).1; omega)).kept hks (fun e => by omega), ?_, (h.resB.kept hk6 (fun e => (ho res (.inr (.inl (h2 res e)))).2.2.1 rfl)).kept hks hre,
    (h.labs.kept hk6 (fun k e e' => ((h.dis k).1 e).1 (h2 k e'))).kept hks (fun k e => (ho k (.inl e)).2.1), by rw [hl]; exact hlab.kept hks (fun k e => (hF k e).2.1), (h.prs.kept hk6 (fun k e e' => (h.dis k).2 (h2 k e') e)).kept hks (fun k e => (ho k (.inr (.inr e))).2.1), ?_, ?_, ?_⟩
  · have := hcb.set (i := 1) (.slice A6 (t.length + 1) c6)
    rw [hl]
    simpa using this
  · rw [hsS]
    rintro k (e | e | e)
    · have := ho k (.inl e); exact ⟨this.1, this.2.1, this.2.2.1, by omega⟩
    · exact hF k e
    · have := ho k (.inr (.inr e)); exact ⟨this.1, this.2.1, this.2.2.1, by omega⟩
  · intro k
    have d1 : Fl k → ¬ (Ft k ∨ rx = some k ∨ r6 = some k) := fun e e' => (by rcases e' with e' | e' | e'; exact ((h.dis k).1 e).1 e'; exact (hrx k e').1 e; rcases hn6 k e' with e2 | e2; exact ((h.dis k).1 e).1 (h2 k e2); have := (ho k (.inl e)).2.2.2; omega)
    have d2 : Fl k → ¬ F k := fun e e' => ((h.dis k).1 e).2 e'
    have d3 : (Ft k ∨ rx = some k ∨ r6 = some k) → ¬ F k := fun e' e => (by rcases e' with e' | e' | e'; exact (h.dis k).2 e' e; exact (hrx k e').2.2.1 e; rcases hn6 k e' with e2 | e2; exact (h.dis k).2 (h2 k e2) e; have := (ho k (.inr (.inr e))).2.2.2; omega)
    exact ⟨fun e => ⟨d1 e, d2 e⟩, d3⟩
  · exact Kept.setCell (h.keep.step hk6 fun i hi e => by have := (ho i (.inr (.inl (h2 i e)))).1; omega) (.inl hcw) _
/-- One thing more: prs. -/
theorem RefSt.rowP (h : RefSt w wr r cb res A n c s Fl Ft F Al cl At ct Ap cp ls t x2 x3 x4 x5 acc) (hrl : r < w.heap.size) (hcw : w.heap.size ≤ cb) (hrw : w.heap.size ≤ res) (hre : res ≠ cb) :
    ∃ r0 xs, Row wr 2 r0 Ap acc.length cp xs ∧ (∀ g, r0 = some g → g ≠ cb) ∧ ∀ (w6 : World) (r6 rx : Option Nat) (A6 : Option Addr) (c6 : Nat) (x : Int × List Ins) (cs : List Value), procO.own wr (fun k => rx = some k) x cs → (∀ k, rx = some k → ¬ Fl k ∧ ¬ Ft k ∧ ¬ F k ∧ w.heap.size ≤ k ∧ k ≠ cb ∧ k ≠ res ∧ k < wr.heap.size) → Row w6 2 r6 A6 (acc.length + 1) c6 (xs ++ cs) → Kept (fun k => r0 = some k) wr w6 → (∀ k, r6 = some k → r0 = some k ∨ wr.heap.size ≤ k) →
      ∃ F6, RefSt w (w6.setCell ⟨cb, 6, none⟩ (.slice A6 (acc.length + 1) c6)) r cb res A n c s Fl Ft F6 Al cl At ct A6 c6 ls t x2 x3 x4 x5 (acc ++ [x]) := by
  obtain ⟨r0, xs, h1, h2, h3⟩ := h.prs.rows
  have ho := h.own
  have hwr := h.keep.size
  have hbl := h.blk.lt
  have hrb := h.resB.lt
  refine ⟨r0, xs, h1, fun g e => (ho g (.inr (.inr (h2 g e)))).2.1, fun w6 r6 rx A6 c6 x cs hx hrx hr6 hk6 hn6 => ⟨fun k => F k ∨ rx = some k ∨ r6 = some k, ?_⟩⟩
  have hs6 := hk6.size
  have hcb := h.blk.kept hk6 (fun e => (ho cb (.inr (.inr (h2 cb e)))).2.1 rfl)
  have hlab := h3 (F' := fun k => F k ∨ rx = some k ∨ r6 = some k) hr6 hk6 hn6 (fun k e => (ho k (.inr (.inr e))).2.2.2) hx (fun k e => ⟨(hrx k e).2.2.1, (hrx k e).2.2.2.2.2.2⟩) (fun k e => .inl e) (fun k e => .inr (.inl e)) (fun k e => .inr (.inr e))
  have hks : Kept (fun k => k = cb) w6 (w6.setCell ⟨cb, 6, none⟩ (.slice A6 (acc.length + 1) c6)) := Kept.set1 _ _ _ _
  have hsS : (w6.setCell ⟨cb, 6, none⟩ (.slice A6 (acc.length + 1) c6)).heap.size = w6.heap.size := (size_set _ _ _).symm
  have hl : (acc ++ [x]).length = acc.length + 1 := by rw [List.length_append]; rfl
  have hF : ∀ k, F k ∨ rx = some k ∨ r6 = some k → w.heap.size ≤ k ∧ k ≠ cb ∧ k ≠ res ∧ k < w6.heap.size := by
    rintro k (e | e | e)
    · have := ho k (.inr (.inr e)); exact ⟨this.1, this.2.1, this.2.2.1, by omega⟩
    · have := hrx k e; exact ⟨this.2.2.2.1, this.2.2.2.2.1, this.2.2.2.2.2.1, by omega⟩
    · have hlt := hr6.lt (by decide) k e
      rcases hn6 k e with e' | e'
      · have := ho k (.inr (.inr (h2 k e'))); exact ⟨this.1, this.2.1, this.2.2.1, hlt⟩
      · exact ⟨by omega, by omega, by omega, hlt⟩
  refine ⟨(h.at_.kept hk6 (fun e => by have := (ho r (.inr (.inr (h2 r e)))).1; omega)).kept hks (fun e => by omega), ?_, (h.resB.kept hk6 (fun e => (ho res (.inr (.inr (h2 res e)))).2.2.1 rfl)).kept hks hre,
    (h.labs.kept hk6 (fun k e e' => ((h.dis k).1 e).2 (h2 k e'))).kept hks (fun k e => (ho k (.inl e)).2.1), (h.tab.kept hk6 (fun k e e' => (h.dis k).2 e (h2 k e'))).kept hks (fun k e => (ho k (.inr (.inl e))).2.1), by rw [hl]; exact hlab.kept hks (fun k e => (hF k e).2.1), ?_, ?_, ?_⟩
  · have := hcb.set (i := 6) (.slice A6 (acc.length + 1) c6)
    rw [hl]
    simpa using this
  · rw [hsS]
    rintro k (e | e | e)
    · have := ho k (.inl e); exact ⟨this.1, this.2.1, this.2.2.1, by omega⟩
    · have := ho k (.inr (.inl e)); exact ⟨this.1, this.2.1, this.2.2.1, by omega⟩
    · exact hF k e
  · intro k
    have d1 : Fl k → ¬ Ft k := fun e e' => ((h.dis k).1 e).1 e'
    have d2 : Fl k → ¬ (F k ∨ rx = some k ∨ r6 = some k) := fun e e' => (by rcases e' with e' | e' | e'; exact ((h.dis k).1 e).2 e'; exact (hrx k e').1 e; rcases hn6 k e' with e2 | e2; exact ((h.dis k).1 e).2 (h2 k e2); have := (ho k (.inl e)).2.2.2; omega)
    have d3 : Ft k → ¬ (F k ∨ rx = some k ∨ r6 = some k) := fun e e' => (by rcases e' with e' | e' | e'; exact (h.dis k).2 e e'; exact (hrx k e').2.1 e; rcases hn6 k e' with e2 | e2; exact (h.dis k).2 e (h2 k e2); have := (ho k (.inr (.inl e))).2.2.2; omega)
    exact ⟨fun e => ⟨d1 e, d2 e⟩, d3⟩
  · exact Kept.setCell (h.keep.step hk6 fun i hi e => by have := (ho i (.inr (.inr (h2 i e)))).1; omega) (.inl hcw) _
theorem RefSt.fresh (h : RefSt w wr r cb res A n c s Fl Ft F Al cl At ct Ap cp ls t x2 x3 x4 x5 acc) {k : Nat} (hk : wr.heap.size ≤ k) : ¬ Fl k ∧ ¬ Ft k ∧ ¬ F k ∧ w.heap.size ≤ k ∧ k ≠ cb ∧ k ≠ res := by
  have h1 := h.blk.lt
  have h2 := h.resB.lt
  have h3 := h.keep.size
  exact ⟨fun e => by have := (h.own k (.inl e)).2.2.2; omega, fun e => by have := (h.own k (.inr (.inl e))).2.2.2; omega, fun e => by have := (h.own k (.inr (.inr e))).2.2.2; omega, by omega, by omega, by omega⟩
/-- The last of the labels. -/
theorem RefSt.last (h : RefSt w wr r cb res A n c s Fl Ft F Al cl At ct Ap cp ls t x2 x3 x4 x5 acc) {m : Nat} (hm : ls.length = m + 1) : ∃ g o, Al = some ⟨g, o, none⟩ ∧ wr.cell? ⟨g, o + m, none⟩ = some (.int .u64 (ls.getD (ls.length - 1) 0)) := by
  obtain ⟨g, o, e, -, hcs⟩ := (h.labs.read reads_u64).ints (by omega)
  have hc := hcs m (by omega)
  refine ⟨g, o, e, ?_⟩
  rw [show ls.length - 1 = m by omega, List.getD_eq_getElem?_getD, List.getElem?_eq_getElem (by omega)]
  exact hc
end
end Go.Proofs.Ytaefgljpdpigeaa.Conf
