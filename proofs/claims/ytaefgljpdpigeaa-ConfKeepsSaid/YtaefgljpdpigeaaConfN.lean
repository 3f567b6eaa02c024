/- The walks of conf's reader (layer 14): bad, give, number. -/
import Derived.Test.YtaefgljpdpigeaaConfD
import Derived.Test.YtaefgljpdpigeaaReader
import Derived.Deep.RegionWith
namespace Go.Proofs.Ytaefgljpdpigeaa.Conf
open Go.RowKit Go.Fb Go.CodeP Go.BytesP Go.ReaderP
set_option linter.unusedVariables false
/-- The reader's cells. -/
def Rd (w : World) (r : Nat) (A : Option Addr) (n c : Nat) (a e q : Int) : Prop := Blk w r 55 #[.slice A n c, .int .i64 a, .int .i64 e, .int .i64 q]
theorem Rd.drewN {w : World} {r : Nat} {A : Option Addr} {n c : Nat} {a e q : Int} (h : Rd w r A n c a e q) (k : Nat) : Rd (w.drewN k) r A n c a e q := h
/-- How it stands. -/
def RAt (w : World) (r : Nat) (A : Option Addr) (n c : Nat) : St → Prop
  | .ok p => Rd w r A n c p 0 0 ∧ p ≤ n
  | .error x => ∃ a : Nat, Rd w r A n c a x.1 x.2 ∧ x.1 ≠ 0 ∧ a ≤ n
theorem RAt.cells {w : World} {r : Nat} {A : Option Addr} {n c : Nat} {s : St} (h : RAt w r A n c s) : ∃ (a : Nat) (e q : Int), Rd w r A n c a e q ∧ a ≤ n ∧ (match s with | .ok p => a = p ∧ e = 0 ∧ q = 0 | .error x => e = x.1 ∧ q = x.2 ∧ e ≠ 0) := by
  cases s with
  | ok p => exact ⟨p, 0, 0, h.1, h.2, rfl, rfl, rfl⟩
  | error x => obtain ⟨a, h, he, ha⟩ := h; exact ⟨a, x.1, x.2, h, ha, rfl, rfl, he⟩
theorem RAt.lt {w : World} {r : Nat} {A : Option Addr} {n c : Nat} {s : St} (h : RAt w r A n c s) : r < w.heap.size := by
  obtain ⟨a, e, q, h, _⟩ := h.cells
  exact Blk.lt h
theorem RAt.kept {G : Nat → Prop} {w w' : World} {r : Nat} {A : Option Addr} {n c : Nat} {s : St} (h : RAt w r A n c s) (hk : Kept G w w') (hg : ¬ G r) : RAt w' r A n c s := by
  cases s with
  | ok p => exact ⟨Blk.kept h.1 hk hg, h.2⟩
  | error x => obtain ⟨a, h, h2⟩ := h; exact ⟨a, Blk.kept h hk hg, h2⟩
theorem RAt.drewN {w : World} {r : Nat} {A : Option Addr} {n c : Nat} {s : St} (h : RAt w r A n c s) (k : Nat) : RAt (w.drewN k) r A n c s := h.kept ((Kept.refl (fun _ => False) w).drewN k) id
section
variable {w : World} {r : Nat} {A : Option Addr} {n c : Nat}
theorem bad_cell {a e q : Int} (hr : Rd w r A n c a e q) : Calls Try.prog 30 #[.pointer (some ⟨r, 0, none⟩)] w fun x w' => x = .returned (.bool (e != 0)) ∧ w = w' := by
  have c2 : w.cell? ⟨r, 2, none⟩ = some (.int .i64 e) := Blk.cell hr 2
  clear hr
  go_enter Try.func30, Try.ntmps30
  go_wp2_with fail
  go_ret
  exact ⟨rfl, rfl⟩
theorem bad_any {s : St} (hr : RAt w r A n c s) : Calls Try.prog 30 #[.pointer (some ⟨r, 0, none⟩)] w fun x w' => x = .returned (.bool (isErr s)) ∧ w = w' := by
  obtain ⟨a, e, q, h, _, h2⟩ := hr.cells
  refine (bad_cell h).mono fun x w' ⟨h1, h3⟩ => ⟨h1.trans ?_, h3⟩
  cases s with
  | ok p => obtain ⟨_, rfl, _⟩ := h2; rfl
  | error y => rw [show (e != 0) = true by simpa using h2.2.2]; rfl
theorem give_ok {a e q : Int} (hr : Rd w r A n c a 0 0) (he : e ≠ 0) :
    Calls Try.prog 28 #[.pointer (some ⟨r, 0, none⟩), .int .i64 e, .int .i64 q] w fun x w' => x = .returned (.tuple #[]) ∧ Rd w' r A n c a e q ∧ Kept (fun k => k = r) w w' := by
  have hb := bad_cell hr
  have f2 : w.frozen? ⟨r, 2, none⟩ = false := Blk.free hr 2
  have f3 : w.frozen? ⟨r, 3, none⟩ = false := Blk.free hr 3
  have c2 : w.cell? ⟨r, 2, none⟩ = some (.int .i64 0) := Blk.cell hr 2
  have c3 : w.cell? ⟨r, 3, none⟩ = some (.int .i64 0) := Blk.cell hr 3
  have he' : (e != 0) = true := by simpa using he
  have HR := Lib.hid hr
  have HB := Lib.hid hb
  clear hr hb
  clear he
  go_enter Try.func28, Try.ntmps28
  go_wp2_with (go_at_call 30; refine HB.out.mono ?_; rintro e w' ⟨rfl, rfl⟩)
  go_end0
  exact ⟨rfl, (Blk.set HR.out _).set _, ((Kept.refl (fun k => k = r) _).setCell (.inr rfl) _).setCell (.inr rfl) _⟩
theorem give_bad {a e q e' q' : Int} (hr : Rd w r A n c a e' q') (he : e' ≠ 0 ∨ e = 0) :
    Calls Try.prog 28 #[.pointer (some ⟨r, 0, none⟩), .int .i64 e, .int .i64 q] w fun x w' => x = .returned (.tuple #[]) ∧ w = w' := by
  by_cases h0 : e = 0
  · subst h0
    clear hr he
    go_enter Try.func28, Try.ntmps28
    go_wp2_with fail
    go_end0
    exact ⟨rfl, rfl⟩
  · have hb := bad_cell hr
    rw [show (e' != 0) = true by simpa using he.resolve_right h0] at hb
    have he' : (e != 0) = true := by simpa using h0
    have HB := Lib.hid hb
    clear hb
    clear hr he h0
    go_enter Try.func28, Try.ntmps28
    go_wp2_with (go_at_call 30; refine HB.out.mono ?_; rintro e w' ⟨rfl, rfl⟩)
    go_end0
    exact ⟨rfl, rfl⟩
/-- What is told to a reader. -/
def giveS (s : St) (e q : Int) : St := match s with | .error x => .error x | .ok p => if e = 0 then .ok p else .error (e, q)
theorem give_any {s : St} {e q : Int} (hr : RAt w r A n c s) : Calls Try.prog 28 #[.pointer (some ⟨r, 0, none⟩), .int .i64 e, .int .i64 q] w fun x w' => x = .returned (.tuple #[]) ∧ RAt w' r A n c (giveS s e q) ∧ Kept (fun k => k = r) w w' := by
  cases s with
  | error x =>
    obtain ⟨a, h, he, ha⟩ := hr
    exact (give_bad h (.inl he)).mono fun x w' ⟨h1, h2⟩ => ⟨h1, by subst h2; exact ⟨a, h, he, ha⟩, by subst h2; exact Kept.refl _ _⟩
  | ok p =>
    by_cases he : e = 0
    · subst he
      exact (give_bad hr.1 (.inr rfl)).mono fun x w' ⟨h1, h2⟩ => ⟨h1, by subst h2; exact hr, by subst h2; exact Kept.refl _ _⟩
    · refine (give_ok hr.1 he).mono fun x w' ⟨h1, h2, h3⟩ => ⟨h1, ?_, h3⟩
      unfold giveS
      simp only
      rw [if_neg he]
      exact ⟨p, h2, he, hr.2⟩
theorem number_bad {a : Nat} {e q : Int} {m : Nat} {fv : Value} (hr : Rd w r A n c a e q) (he : e ≠ 0) :
    Calls Try.prog 56 #[.pointer (some ⟨r, 0, none⟩), .int .i64 m, fv] w fun x w' => x = .returned (.int .u64 0) ∧ w = w' := by
  have hb := bad_cell hr
  rw [show (e != 0) = true by simpa using he] at hb
  have HB := Lib.hid hb
  clear hb
  clear hr he
  go_enter Try.func56, Try.ntmps56
  go_wp2_with (go_at_call 30; refine HB.out.mono ?_; rintro e w' ⟨rfl, rfl⟩)
  go_ret
  exact ⟨rfl, rfl⟩
theorem number_short {p m : Nat} {fv : Value} (hr : Rd w r A n c p 0 0) (hm : m ≤ 8) (hp : p ≤ n) (hn : n ≤ 9223372036854775807) (hs : n < p + m) :
    Calls Try.prog 56 #[.pointer (some ⟨r, 0, none⟩), .int .i64 m, fv] w fun x w' => x = .returned (.int .u64 0) ∧ Rd w' r A n c p 5 n ∧ Kept (fun k => k = r) w w' := by
  have c0 : w.cell? ⟨r, 0, none⟩ = some (.slice A n c) := Blk.cell hr 0
  have c1 : w.cell? ⟨r, 1, none⟩ = some (.int .i64 p) := Blk.cell hr 1
  have hb := bad_cell hr
  have hg := fun q => give_ok (e := 5) (q := (n : Int)) (Rd.drewN hr q) (by decide)
  have HR := Lib.hid hr
  have HB := Lib.hid hb
  have HG := Lib.hid hg
  clear hr hb hg
  go_enter Try.func56, Try.ntmps56
  go_wp2_with (go_at_call 30; refine HB.out.mono ?_; rintro e w' ⟨rfl, rfl⟩)
  go_quiet (fail)
  go_wp2_with (go_at_call 28; refine (HG.out _).mono ?_; rintro e w1 ⟨rfl, hr1, hk1⟩)
  go_ret
  exact ⟨rfl, hr1, ((Kept.refl _ _).drewN _).trans hk1⟩
end
end Go.Proofs.Ytaefgljpdpigeaa.Conf
