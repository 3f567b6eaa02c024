/- Lists that make gives; lists of zero things (layer 18). -/
import Derived.Test.YtgdmajockejpgaaViewO
namespace Go.Proofs.Ytgdmajockejpgaa.View
open Go.RowKit Go.Fb
set_option linter.unusedVariables false
theorem made_flat (z : Array Value) (n : Nat) (hz : 0 < z.size) : (madeCells z (n * z.size)).toList = (List.replicate n ()).flatMap fun _ => z.toList := by
  refine List.ext_getElem? fun j => ?_
  have hl : ((List.replicate n ()).flatMap fun _ => z.toList).length = n * z.size := by
    rw [flatMap_len (f := fun _ => z.toList) (size := z.size) _ (by intro x hx; simp)]; simp
  by_cases hj : j < n * z.size
  · have hi : j / z.size < n := Nat.div_lt_of_lt_mul (by rw [Nat.mul_comm]; exact hj)
    have hm := Nat.mod_lt j hz
    have h1 := flatMap_get (f := fun _ : Unit => z.toList) (size := z.size) (List.replicate n ()) (by intro x hx; simp) (j / z.size) (by simpa using hi) (j % z.size) hm
    have he : j / z.size * z.size + j % z.size = j := by rw [Nat.mul_comm]; exact Nat.div_add_mod j z.size
    rw [he] at h1
    rw [h1]
    simp [madeCells, hj, hm]
  · rw [List.getElem?_eq_none (by simp [size_madeCells]; omega), List.getElem?_eq_none (by omega)]
def zPart : Part := ⟨0, [], 0, 0, [], []⟩
def zProc : Process := ⟨0, 0, 0, 0, 0, 0, 0, 0, 0, 0, 0, 0, false, 0, []⟩
def zPartC : List Value := partC zPart (.slice none 0 0) (.slice none 0 0) (.slice none 0 0)
def zProcC : List Value := procC zProc (.slice none 0 0)
theorem own_zPart (w : World) : partO.own w (fun _ => False) zPart zPartC := ⟨none, 0, 0, none, 0, 0, none, 0, 0, fun _ => False, fun _ => False, fun _ => False, rfl, OSl.nil, OSl.nil, OSl.nil, by simp, by simp, by simp⟩
theorem own_zProc (w : World) : procO.own w (fun _ => False) zProc zProcC := ⟨none, 0, 0, rfl, OSl.nil⟩
theorem unit_map {α : Type} (f : Unit → α) (n : Nat) : (List.replicate n ()).map f = List.replicate n (f ()) := by simp
/-- A list that was just made, of zero things. -/
theorem OSl.zeros {α : Type} {O : ORep α} {w : World} {T : TypeId} {x : α} {cs : List Value} (n : Nat) (hm : n ≤ maxLen) (hl : cs.length = O.size) (hx : ∀ w, O.own w (fun _ => False) x cs) :
    OSl O (w.alloc (.cells ((List.replicate n ()).flatMap fun _ => cs).toArray T)) (fun k => k = w.heap.size) (some ⟨w.heap.size, 0, none⟩) n n (List.replicate n x) := by
  have hlen : ((List.replicate n ()).flatMap fun _ => cs).length = n * O.size := by
    rw [flatMap_len (f := fun _ => cs) (size := O.size) _ (by intro x hx; exact hl)]; simp
  have he : (List.replicate n x).flatMap (fun _ => cs) = (List.replicate n ()).flatMap fun _ => cs := by
    induction n with
    | zero => rfl
    | succ n ih => simp only [List.replicate_succ, List.flatMap_cons]; rw [ih (by omega) (by
        rw [flatMap_len (f := fun _ => cs) (size := O.size) _ (by intro x hx; exact hl)]; simp)]
  by_cases h0 : 0 < n
  · have hr := Row.of_made (T := T) w _ hlen hm h0
    rw [← he] at hr ⊢
    exact OSl.of_row (f := fun _ => cs) hr (fun _ _ => hl) (by simp) (fun k e => by injection e with e; exact e.symm) (fun y hy => by rw [List.eq_of_mem_replicate hy]; exact hx _)
  · obtain rfl : n = 0 := by omega
    exact ⟨none, [], fun _ _ => False, ⟨by simp, .inl ⟨rfl, rfl, rfl⟩⟩, rfl, by simp, by simp, by simp, fun i hi => absurd hi (Nat.not_lt_zero _)⟩
theorem OSl.zeros_at {α : Type} {O : ORep α} {w : World} {T : TypeId} {x : α} {cs : List Value} (n : Nat) (hm : n ≤ maxLen) (hl : cs.length = O.size) (hx : ∀ w, O.own w (fun _ => False) x cs) (g : Nat) (hg : g = w.heap.size) :
    OSl O (w.alloc (.cells ((List.replicate n ()).flatMap fun _ => cs).toArray T)) (fun k => k = g) (some ⟨g, 0, none⟩) n n (List.replicate n x) := by
  subst hg; exact OSl.zeros n hm hl hx
theorem make_parts (n : Nat) (hn : n ≤ 1048576) : ∀ w, (Instr.makeSlice 27 (.int .i64 n) (.int .i64 n)).run Try.prog w = .ok (.slice (some ⟨w.heap.size, 0, none⟩) n n) (w.alloc (.cells ((List.replicate n ()).flatMap fun _ => zPartC).toArray 43)) := by
  obtain ⟨z, cs, ⟨i, hi, hz⟩, hcs, hl, hmk⟩ := run_make_ty (P := Try.prog) tyParts (li := (n : Int)) (ci := (n : Int)) n n rfl rfl (Nat.le_refl _) (by omega) (by omega)
  have hz2 : (Try.prog.info? 43).bind (·.zero) = some (.agg zPartC.toArray) := by kernel_rfl
  rw [hi] at hz2
  have hz3 : z = .agg zPartC.toArray := by simpa [hz] using hz2
  have e : cs = (List.replicate n ()).flatMap fun _ => zPartC := by
    rw [hcs, hz3]
    exact made_flat zPartC.toArray n (by decide)
  rw [← e]
  exact hmk
theorem make_procs (n : Nat) (hn : n ≤ 1048576) : ∀ w, (Instr.makeSlice 28 (.int .i64 n) (.int .i64 n)).run Try.prog w = .ok (.slice (some ⟨w.heap.size, 0, none⟩) n n) (w.alloc (.cells ((List.replicate n ()).flatMap fun _ => zProcC).toArray 49)) := by
  obtain ⟨z, cs, ⟨i, hi, hz⟩, hcs, hl, hmk⟩ := run_make_ty (P := Try.prog) tyProcs (li := (n : Int)) (ci := (n : Int)) n n rfl rfl (Nat.le_refl _) (by omega) (by omega)
  have hz2 : ((Try.prog.info? 49).bind (·.zero)).map (·.cells) = some zProcC.toArray := by kernel_rfl
  rw [hi] at hz2
  have hz3 : z.cells = zProcC.toArray := by simpa [hz] using hz2
  have e : cs = (List.replicate n ()).flatMap fun _ => zProcC := by
    rw [hcs, hz3]
    exact made_flat zProcC.toArray n (by decide)
  rw [← e]
  exact hmk
end Go.Proofs.Ytgdmajockejpgaa.View
