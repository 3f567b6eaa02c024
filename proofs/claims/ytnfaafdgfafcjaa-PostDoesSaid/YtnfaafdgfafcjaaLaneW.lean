/- How a lane lies, and the walks of package lane's New, Len, full, place, Put, Wait (layer 9). -/
import Derived.Test.YtnfaafdgfafcjaaOwn
import Derived.Test.YtnfaafdgfafcjaaKeep
import Derived.Test.YtnfaafdgfafcjaaProg
import Derived.Deep.QuietTactic
import Derived.BigQuiet
import Derived.IntWalk
import Derived.WalkSpells
import Derived.Deep.LoopGhost
import Derived.Deep.Cut
import Derived.Outline
namespace Go.Proofs.Ytnfaafdgfafcjaa.Lane
open Go.RowKit Go.Fb
set_option linter.unusedVariables false

/-- A lane, plainly. -/
structure Lane where
  room : Int
  vals : List Int
  waits : List (Int × Int)
  taken : Int
  dropped : Int
def cellsW (p : Int × Int) : List Value := [.int .i64 p.1, .int .i64 p.2]
def laneC (L : Lane) (Av : Option Addr) (cv : Nat) (Aw : Option Addr) (cw : Nat) : Array Value :=
  #[.int .i64 L.room, .slice Av L.vals.length cv, .slice Aw L.waits.length cw, .int .i64 L.taken, .int .i64 L.dropped]
structure PartsT (T : TypeId) (w : World) (b : Nat) (L : Lane) (rv : Option Nat) (Av : Option Addr) (cv : Nat) (rw : Option Nat) (Aw : Option Addr) (cw : Nat) : Prop where
  blk : Blk w b T (laneC L Av cv Aw cw)
  vals : Row w 1 rv Av L.vals.length cv (L.vals.map (Value.int .i64))
  waits : Row w 2 rw Aw L.waits.length cw (L.waits.flatMap cellsW)
  d1 : rv ≠ some b
  d2 : rw ≠ some b
  d3 : ∀ k, rv = some k → rw ≠ some k
abbrev Parts := PartsT 87
/-- A lane lies at a block; what it is made of lies in F. -/
structure AtT (T : TypeId) (w : World) (b : Nat) (F : Nat → Prop) (L : Lane) : Prop where
  parts : ∃ rv Av cv rw Aw cw, PartsT T w b L rv Av cv rw Aw cw ∧ (∀ k, rv = some k → F k) ∧ (∀ k, rw = some k → F k)
  fb : F b
  lt : ∀ k, F k → k < w.heap.size
abbrev At := AtT 87
/-- What has grown. -/
def grow (F : Nat → Prop) (w w' : World) (k : Nat) : Prop := (F k ∨ w.heap.size ≤ k) ∧ k < w'.heap.size
theorem PartsT.kept {T : TypeId} {G : Nat → Prop} {w w' : World} {b : Nat} {L : Lane} {rv : Option Nat} {Av : Option Addr} {cv : Nat} {rw : Option Nat} {Aw : Option Addr} {cw : Nat} (h : PartsT T w b L rv Av cv rw Aw cw) (hk : Kept G w w') (hb : ¬ G b) (hv : ∀ k, rv = some k → ¬ G k) (hw : ∀ k, rw = some k → ¬ G k) : PartsT T w' b L rv Av cv rw Aw cw :=
  ⟨h.blk.kept hk hb, h.vals.of_kept (by decide) hk hv, h.waits.of_kept (by decide) hk hw, h.d1, h.d2, h.d3⟩
theorem AtT.kept {T : TypeId} {G F : Nat → Prop} {w w' : World} {b : Nat} {L : Lane} (h : AtT T w b F L) (hk : Kept G w w') (hg : ∀ k, F k → ¬ G k) : AtT T w' b F L := by
  obtain ⟨⟨rv, Av, cv, rw, Aw, cw, hp, h1, h2⟩, h3, h4⟩ := h
  exact ⟨⟨rv, Av, cv, rw, Aw, cw, hp.kept hk (hg b h3) (fun k hk => hg k (h1 k hk)) (fun k hk => hg k (h2 k hk)), h1, h2⟩, h3, fun k hk' => Nat.lt_of_lt_of_le (h4 k hk') hk.size⟩
theorem AtT.new {T : TypeId} {F : Nat → Prop} {w w' : World} {b : Nat} {L : Lane} (h : AtT T w b F L) (hk : New w w') : AtT T w' b F L := h.kept hk fun _ _ h => h
/-- A method's end: the lane stands so, and nothing else has turned. -/
def EndsT (T : TypeId) (w : World) (b : Nat) (F : Nat → Prop) (L : Lane) (v : Value) (e : Ending) (w' : World) : Prop := e = .returned v ∧ AtT T w' b (grow F w w') L ∧ Kept F w w'
abbrev Ends := EndsT 87
theorem PartsT.ends {T : TypeId} {w w' : World} {b : Nat} {F : Nat → Prop} {L L' : Lane} (h : AtT T w b F L) {rv : Option Nat} {Av : Option Addr} {cv : Nat} {rw : Option Nat} {Aw : Option Addr} {cw : Nat} (hp : PartsT T w' b L' rv Av cv rw Aw cw)
    (hv : ∀ k, rv = some k → F k ∨ w.heap.size ≤ k) (hw : ∀ k, rw = some k → F k ∨ w.heap.size ≤ k) (hs : w.heap.size ≤ w'.heap.size) : AtT T w' b (grow F w w') L' :=
  ⟨⟨rv, Av, cv, rw, Aw, cw, hp, fun k hk => ⟨hv k hk, hp.vals.lt (by decide) k hk⟩, fun k hk => ⟨hw k hk, hp.waits.lt (by decide) k hk⟩⟩, ⟨.inl h.fb, hp.blk.lt⟩, fun k hk => hk.2⟩
theorem PartsT.cells {T : TypeId} {w : World} {b : Nat} {L : Lane} {rv : Option Nat} {Av : Option Addr} {cv : Nat} {rw : Option Nat} {Aw : Option Addr} {cw : Nat} (h : PartsT T w b L rv Av cv rw Aw cw) :
    w.cell? ⟨b, 0, none⟩ = some (.int .i64 L.room) ∧ w.cell? ⟨b, 1, none⟩ = some (.slice Av L.vals.length cv) ∧ w.cell? ⟨b, 2, none⟩ = some (.slice Aw L.waits.length cw) ∧ w.cell? ⟨b, 3, none⟩ = some (.int .i64 L.taken) ∧ w.cell? ⟨b, 4, none⟩ = some (.int .i64 L.dropped) :=
  ⟨h.blk.cell 0, h.blk.cell 1, h.blk.cell 2, h.blk.cell 3, h.blk.cell 4⟩
theorem tyVals : SliceTy Try.prog 26 2 1 8 := by
  obtain ⟨i, hi, hz, hs, hb⟩ := info_parts (P := Try.prog) (e := 2) (z := .int .i64 0) (size := 1) (bytes := 8) (by kernel_rfl)
  exact ⟨Try.underlying26, ⟨i, _, hi, hz, hs, hb, rfl⟩, by decide⟩
theorem tyWaits : SliceTy Try.prog 27 36 2 16 := by
  obtain ⟨i, hi, hz, hs, hb⟩ := info_parts (P := Try.prog) (e := 36) (z := .agg #[.int .i64 0, .int .i64 0]) (size := 2) (bytes := 16) (by kernel_rfl)
  exact ⟨Try.underlying27, ⟨i, _, hi, hz, hs, hb, rfl⟩, by decide⟩
def empty (room : Int) : Lane := ⟨room, [], [], 0, 0⟩
theorem within_any (n a b : Int) (w : World) : Calls Try.prog 42 #[.int .i64 n, .int .i64 a, .int .i64 b] w fun e w' => e = .returned (.bool (decide (a ≤ n) && decide (n ≤ b))) ∧ w = w' := by
  by_cases h : a ≤ n
  · go_enter Try.func42, Try.ntmps42
    go_wp2
    go_ret
    exact ⟨by simp [Array.getD, h], rfl⟩
  · have h1 : n < a := by omega
    go_enter Try.func42, Try.ntmps42
    go_wp2
    go_ret
    exact ⟨by simp [Array.getD]; omega, rfl⟩
theorem new_any (room : Int) (w : World) : Calls Try.prog 41 #[.int .i64 room] w fun e w' => New w w' ∧
    ((1 ≤ room ∧ room ≤ 64 ∧ e = .returned (.tuple #[.pointer (some ⟨w.heap.size, 0, none⟩), .int .i64 0]) ∧ At w' w.heap.size (fun k => k = w.heap.size) (empty room)) ∨ (¬ (1 ≤ room ∧ room ≤ 64) ∧ e = .returned (.tuple #[.pointer none, .int .i64 1]))) := by
  have hwi := within_any room 1 64 w
  by_cases h : 1 ≤ room ∧ room ≤ 64
  · rw [decide_eq_true h.1, decide_eq_true h.2] at hwi
    have H1 := Lib.hid h
    have HWI := Lib.hid hwi
    clear hwi
    clear h
    go_enter Try.func41, Try.ntmps41
    go_wp2_with (refine HWI.out.mono ?_; rintro e w' ⟨rfl, rfl⟩)
    go_ret2
    refine ⟨(Kept.refl _ _).alloc _, .inl ⟨H1.out.1, H1.out.2, rfl, ⟨none, none, 0, none, none, 0, ⟨Blk.made _ _ _, Row.nil _ _, Row.nil _ _, by simp, by simp, by simp⟩, by simp, by simp⟩, rfl, ?_⟩⟩
    rintro k rfl
    rw [← size1]; exact Nat.lt_succ_self _
  · have hwi2 : (decide (1 ≤ room) && decide (room ≤ 64)) = false := by
      by_cases h1 : 1 ≤ room
      · simp; omega
      · simp [h1]
    rw [hwi2] at hwi
    have H1 := Lib.hid h
    have HWI := Lib.hid hwi
    clear hwi
    clear h hwi2
    go_enter Try.func41, Try.ntmps41
    go_wp2_with (refine HWI.out.mono ?_; rintro e w' ⟨rfl, rfl⟩)
    go_ret2
    exact ⟨Kept.refl _ _, .inr ⟨H1.out, rfl⟩⟩
section
variable {w : World} {b : Nat} {F : Nat → Prop} {L : Lane}
theorem len_any (h : At w b F L) : Calls Try.prog 24 #[.pointer (some ⟨b, 0, none⟩)] w fun e w' => e = .returned (.int .i64 L.vals.length) ∧ w = w' := by
  obtain ⟨⟨rv, Av, cv, rw, Aw, cw, hp, h1, h2⟩, h3, h4⟩ := h
  obtain ⟨c0, c1, c2, c3, c4⟩ := hp.cells
  have hb := hp.vals.bound
  generalize L.vals.length = n at *
  clear hp h1 h2 h3 h4
  go_enter Try.func24, Try.ntmps24
  go_wp2
  go_ret
  exact ⟨rfl, rfl⟩
theorem full_any (h : At w b F L) : Calls Try.prog 46 #[.pointer (some ⟨b, 0, none⟩)] w fun e w' => e = .returned (.bool (decide (L.room ≤ (L.vals.length : Int)))) ∧ ∃ q, w' = w.drewN q := by
  obtain ⟨⟨rv, Av, cv, rw, Aw, cw, hp, h1, h2⟩, h3, h4⟩ := h
  obtain ⟨c0, c1, c2, c3, c4⟩ := hp.cells
  have hb := hp.vals.bound
  generalize L.vals.length = n at *
  clear hp h1 h2 h3 h4
  go_enter Try.func46, Try.ntmps46
  go_wp2
  go_quiet (fail)
  go_wp2
  go_ret
  exact ⟨by simp [Array.getD], _, rfl⟩
end
end Go.Proofs.Ytnfaafdgfafcjaa.Lane
