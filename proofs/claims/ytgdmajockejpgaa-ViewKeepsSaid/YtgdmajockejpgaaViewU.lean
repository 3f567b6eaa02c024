/- What the arguments read as; lists within reach (layer 18). -/
import Derived.Test.YtgdmajockejpgaaViewT
import Derived.Test.YtgdmajockejpgaaSized
namespace Go.Proofs.Ytgdmajockejpgaa.View
open Go.RowKit Go.Fb
set_option linter.unusedVariables false
/-- No list is longer than memory. -/
def SmallPart (x : Part) : Prop := x.log.length ≤ 17592186044416 ∧ x.owners.length ≤ 17592186044416 ∧ x.queues.length ≤ 17592186044416 ∧ ∀ q ∈ x.queues, q.length ≤ 17592186044416
def SmallProc (x : Process) : Prop := x.lanes.length ≤ 17592186044416 ∧ ∀ l ∈ x.lanes, l.values.length ≤ 17592186044416 ∧ l.waiters.length ≤ 17592186044416
def SmallS (s : State) : Prop := (∀ x ∈ s.parts, SmallPart x) ∧ ∀ x ∈ s.procs, SmallProc x
theorem SliceOf.to {α β : Type} {R : Rep α} {S : Rep β} {w : World} {B : Nat} {A : Option Addr} {n c : Nat} {l : List α} (f : α → β) (hs : R.size = S.size) (h : SliceOf R w B A n c l) (hf : ∀ x ∈ l, ∀ cs, R.cells w B x cs → S.cells w B (f x) cs) : SliceOf S w B A n c (l.map f) := by
  obtain ⟨h1, h2, h3, h4⟩ := h
  refine ⟨by rw [List.length_map]; exact h1, h2, h3, h4.imp id fun ⟨b, o, e, hb, hc⟩ => ⟨b, o, e, hb, fun i hi => ?_⟩⟩
  rw [List.length_map] at hi
  obtain ⟨es, g1, g2⟩ := hc i hi
  refine ⟨es, fun j hj => by rw [← hs] at hj ⊢; exact g1 j hj, ?_⟩
  rw [List.getElem_map]
  exact hf _ (List.getElem_mem hi) _ g2
theorem opens_entry : Opens Try.prog repEntry 45 := by
  have h : Opens Try.prog (((Rep.int .i64).pair ((Rep.int .i64).pair ((Rep.int .i64).pair Rep.unit)))) 45 := opens_struct Try.underlying45 (by kernel_rfl)
    (opensAt_cons rfl (by kernel_rfl) (opens_int Try.underlying2) (opensAt_cons rfl (by kernel_rfl) (opens_int Try.underlying3) (opensAt_cons rfl (by kernel_rfl) (opens_int Try.underlying2) opensAt_nil)))
  intro H enc w fuel cs y hy
  obtain ⟨x, hx⟩ := h H enc w fuel cs y hy
  obtain ⟨_, _, rfl, ⟨rfl, h1⟩, _, _, rfl, ⟨rfl, h2⟩, _, _, rfl, ⟨rfl, h3⟩, rfl⟩ := hx
  exact ⟨⟨x.1, x.2.1, x.2.2.1⟩, rfl, h1, h2, h3⟩
theorem opens_waiter : Opens Try.prog repWaiter 55 := by
  have h : Opens Try.prog (((Rep.int .i64).pair ((Rep.int .i64).pair Rep.unit))) 55 := opens_struct Try.underlying55 (by kernel_rfl)
    (opensAt_cons rfl (by kernel_rfl) (opens_int Try.underlying3) (opensAt_cons rfl (by kernel_rfl) (opens_int Try.underlying2) opensAt_nil))
  intro H enc w fuel cs y hy
  obtain ⟨x, hx⟩ := h H enc w fuel cs y hy
  obtain ⟨_, _, rfl, ⟨rfl, h1⟩, _, _, rfl, ⟨rfl, h2⟩, rfl⟩ := hx
  exact ⟨⟨x.1, x.2.1⟩, rfl, h1, h2⟩
theorem opens_ints : OpensZ Try.prog ((Rep.int .i64).slice.few fun l => l.length * Try.prog.bytesOf 3 ≤ reachBytes) 23 := opensZ_slice Try.underlying23 (by kernel_rfl) (by decide) (opens_int Try.underlying3).z
theorem opens_vals : OpensZ Try.prog ((Rep.int .i64).slice.few fun l => l.length * Try.prog.bytesOf 2 ≤ reachBytes) 50 := opensZ_slice Try.underlying50 (by kernel_rfl) (by decide) (opens_int Try.underlying2).z
theorem opens_waits : OpensZ Try.prog (repWaiter.slice.few fun l => l.length * Try.prog.bytesOf 55 ≤ reachBytes) 51 := opensZ_slice Try.underlying51 (by kernel_rfl) (by decide) opens_waiter.z
theorem opens_log : OpensZ Try.prog (repEntry.slice.few fun l => l.length * Try.prog.bytesOf 45 ≤ reachBytes) 40 := opensZ_slice Try.underlying40 (by kernel_rfl) (by decide) opens_entry.z
theorem by8a : Try.prog.bytesOf 3 = 8 := by kernel_rfl
theorem by8b : Try.prog.bytesOf 2 = 8 := by kernel_rfl
theorem by16 : Try.prog.bytesOf 55 = 16 := by kernel_rfl
theorem by24 : Try.prog.bytesOf 45 = 24 := by kernel_rfl
theorem by24b : Try.prog.bytesOf 23 = 24 := by kernel_rfl
theorem by64 : Try.prog.bytesOf 53 = 64 := by kernel_rfl
theorem opens_lane : OpensZ Try.prog (repLane.few fun l => l.values.length ≤ 17592186044416 ∧ l.waiters.length ≤ 17592186044416) 53 := by
  have h := opensZ_struct (P := Try.prog) (T := 53) Try.underlying53 (by kernel_rfl)
    (opensAtZ_cons rfl (by kernel_rfl) opens_vals (opensAtZ_cons rfl (by kernel_rfl) opens_waits (opensAtZ_cons rfl (by kernel_rfl) (opens_int Try.underlying3).z (opensAtZ_cons rfl (by kernel_rfl) (opens_int Try.underlying3).z opensAtZ_nil))))
  intro H enc w fuel cs y hy hz
  obtain ⟨x, hx⟩ := h H enc w fuel cs y hy hz
  obtain ⟨_, _, rfl, ⟨⟨Av, nv, cv, rfl, hv⟩, b1⟩, _, _, rfl, ⟨⟨Aw, nw, cw, rfl, hw⟩, b2⟩, _, _, rfl, ⟨rfl, h3⟩, _, _, rfl, ⟨rfl, h4⟩, rfl⟩ := hx
  rw [by8b] at b1
  rw [by16] at b2
  unfold reachBytes at b1 b2
  exact ⟨⟨x.1, x.2.1, x.2.2.1, x.2.2.2.1⟩, ⟨Av, nv, cv, Aw, nw, cw, rfl, hv, hw, h3, h4⟩, by show x.1.length ≤ _; omega, by show x.2.1.length ≤ _; omega⟩
theorem few_out {α : Type} {R : Rep α} {Q : α → Prop} {w : World} {B : Nat} {A : Option Addr} {n c : Nat} {l : List α} (h : SliceOf (R.few Q) w B A n c l) : SliceOf R w B A n c l ∧ ∀ x ∈ l, Q x := by
  refine ⟨?_, fun x hx => ?_⟩
  · obtain ⟨h1, h2, h3, h4⟩ := h
    exact ⟨h1, h2, h3, h4.imp id fun ⟨b, o, e, hb, hc⟩ => ⟨b, o, e, hb, fun i hi => by
      obtain ⟨es, g1, g2⟩ := hc i hi
      exact ⟨es, g1, g2.1⟩⟩⟩
  · obtain ⟨es, _, g⟩ := h.cells_mem x hx
    exact g
theorem row8 (l : List Int) (h : l.length = 8) : ∃ a0 a1 a2 a3 a4 a5 a6 a7, l = [a0, a1, a2, a3, a4, a5, a6, a7] := by
  match l, h with
  | [a0, a1, a2, a3, a4, a5, a6, a7], _ => exact ⟨_, _, _, _, _, _, _, _, rfl⟩
theorem opens_proc : OpensZ Try.prog (repProc.few SmallProc) 49 := by
  have h := opensZ_struct (P := Try.prog) (T := 49) Try.underlying49 (by kernel_rfl)
    (opensAtZ_cons rfl (by kernel_rfl) (opens_int Try.underlying3).z (opensAtZ_cons rfl (by kernel_rfl) (opens_int Try.underlying3).z (opensAtZ_cons rfl (by kernel_rfl) (opens_row (k := .i64) (n := 8) Try.underlying46 Try.underlying2 (by kernel_rfl) (by kernel_rfl)).z
    (opensAtZ_cons rfl (by kernel_rfl) (opens_int Try.underlying3).z (opensAtZ_cons rfl (by kernel_rfl) (opens_int Try.underlying2).z (opensAtZ_cons rfl (by kernel_rfl) (opens_bool Try.underlying4).z (opensAtZ_cons rfl (by kernel_rfl) (opens_int Try.underlying2).z
    (opensAtZ_cons rfl (by kernel_rfl) (opensZ_slice Try.underlying47 (by kernel_rfl) (by decide) opens_lane) opensAtZ_nil))))))))
  intro H enc w fuel cs y hy hz
  obtain ⟨x, hx⟩ := h H enc w fuel cs y hy hz
  obtain ⟨_, _, rfl, ⟨rfl, -⟩, _, _, rfl, ⟨rfl, -⟩, _, _, rfl, ⟨rfl, hr, -⟩, _, _, rfl, ⟨rfl, -⟩, _, _, rfl, ⟨rfl, -⟩, _, _, rfl, hbo, _, _, rfl, ⟨rfl, -⟩, _, _, rfl, ⟨⟨Al, nl, cl, rfl, hl⟩, b1⟩, rfl⟩ := hx
  obtain ⟨a0, a1, a2, a3, a4, a5, a6, a7, hr8⟩ := row8 _ hr
  change _ = [Value.bool _] at hbo
  subst hbo
  rw [by64] at b1
  unfold reachBytes at b1
  obtain ⟨hl1, hl2⟩ := few_out hl
  refine ⟨⟨x.1, x.2.1, a0, a1, a2, a3, a4, a5, a6, a7, x.2.2.2.1, x.2.2.2.2.1, x.2.2.2.2.2.1, x.2.2.2.2.2.2.1, x.2.2.2.2.2.2.2.1⟩, ⟨Al, nl, cl, ?_, hl1⟩, ?_, hl2⟩
  · rw [hr8]; rfl
  · show x.2.2.2.2.2.2.2.1.length ≤ _; omega
theorem opens_part : OpensZ Try.prog (repPart.few SmallPart) 43 := by
  have h := opensZ_struct (P := Try.prog) (T := 43) Try.underlying43 (by kernel_rfl)
    (opensAtZ_cons rfl (by kernel_rfl) (opens_int Try.underlying3).z (opensAtZ_cons rfl (by kernel_rfl) opens_log (opensAtZ_cons rfl (by kernel_rfl) (opens_int Try.underlying3).z (opensAtZ_cons rfl (by kernel_rfl) (opens_int Try.underlying3).z
    (opensAtZ_cons rfl (by kernel_rfl) opens_ints (opensAtZ_cons rfl (by kernel_rfl) (opensZ_slice Try.underlying41 (by kernel_rfl) (by decide) opens_ints) opensAtZ_nil))))))
  intro H enc w fuel cs y hy hz
  obtain ⟨x, hx⟩ := h H enc w fuel cs y hy hz
  obtain ⟨_, _, rfl, ⟨rfl, -⟩, _, _, rfl, ⟨⟨Al, nl, cl, rfl, hl⟩, b1⟩, _, _, rfl, ⟨rfl, -⟩, _, _, rfl, ⟨rfl, -⟩, _, _, rfl, ⟨⟨Ao, no, co, rfl, ho⟩, b2⟩, _, _, rfl, ⟨⟨Aq, nq, cq, rfl, hq⟩, b3⟩, rfl⟩ := hx
  rw [by24] at b1
  rw [by8a] at b2
  rw [by24b] at b3
  unfold reachBytes at b1 b2 b3
  obtain ⟨hq1, hq2⟩ := few_out hq
  refine ⟨⟨x.1, x.2.1, x.2.2.1, x.2.2.2.1, x.2.2.2.2.1, x.2.2.2.2.2.1⟩, ⟨Al, nl, cl, Ao, no, co, Aq, nq, cq, rfl, hl, ho, hq1⟩, ?_, ?_, ?_, fun q hq => ?_⟩
  · show x.2.1.length ≤ _; omega
  · show x.2.2.2.2.1.length ≤ _; omega
  · show x.2.2.2.2.2.1.length ≤ _; omega
  · have := hq2 q hq; rw [by8a] at this; unfold reachBytes at this; omega
theorem opens_state : OpensZ Try.prog (repState.few SmallS) 30 := by
  have h := opensZ_struct (P := Try.prog) (T := 30) Try.underlying30 (by kernel_rfl)
    (opensAtZ_cons rfl (by kernel_rfl) (opens_int Try.underlying2).z (opensAtZ_cons rfl (by kernel_rfl) (opensZ_slice Try.underlying27 (by kernel_rfl) (by decide) opens_part) (opensAtZ_cons rfl (by kernel_rfl) (opensZ_slice Try.underlying28 (by kernel_rfl) (by decide) opens_proc) opensAtZ_nil)))
  intro H enc w fuel cs y hy hz
  obtain ⟨x, hx⟩ := h H enc w fuel cs y hy hz
  obtain ⟨_, _, rfl, ⟨rfl, -⟩, _, _, rfl, ⟨⟨Ap, np, cp, rfl, hp⟩, b1⟩, _, _, rfl, ⟨⟨Aq, nq, cq, rfl, hq⟩, b2⟩, rfl⟩ := hx
  obtain ⟨hp1, hp2⟩ := few_out hp
  obtain ⟨hq1, hq2⟩ := few_out hq
  exact ⟨⟨x.1, x.2.1, x.2.2.1⟩, ⟨Ap, np, cp, Aq, nq, cq, rfl, hp1, hq1⟩, hp2, hq2⟩
/-- What can be read in two cells, the first a number: a process of a config. -/
theorem opens_pr : Opens Try.prog repPr 59 := by
  have hi : Opens Try.prog (((Rep.int .i64).pair ((Rep.int .i64).pair ((Rep.int .i64).pair ((Rep.int .i64).pair ((Rep.int .i64).pair Rep.unit)))))) 103 := opens_struct Try.underlying103 (by kernel_rfl)
    (opensAt_cons rfl (by kernel_rfl) (opens_int Try.underlying3) (opensAt_cons rfl (by kernel_rfl) (opens_int Try.underlying3) (opensAt_cons rfl (by kernel_rfl) (opens_int Try.underlying3) (opensAt_cons rfl (by kernel_rfl) (opens_int Try.underlying3) (opensAt_cons rfl (by kernel_rfl) (opens_int Try.underlying2) opensAt_nil)))))
  have h := opens_struct (P := Try.prog) (T := 59) Try.underlying59 (by kernel_rfl)
    (opensAt_cons rfl (by kernel_rfl) (opens_int Try.underlying3) (opensAt_cons rfl (by kernel_rfl) (opens_slice Try.underlying57 (by kernel_rfl) (by decide) hi) opensAt_nil))
  intro H enc w fuel cs y hy
  obtain ⟨x, hx⟩ := h H enc w fuel cs y hy
  obtain ⟨_, _, rfl, ⟨rfl, h1⟩, _, _, rfl, ⟨A, n, c, rfl, -⟩, rfl⟩ := hx
  exact ⟨x.1, A, n, c, rfl, h1⟩
theorem opens_conf : Opens Try.prog repConf 26 := by
  have h := opens_struct (P := Try.prog) (T := 26) Try.underlying26 (by kernel_rfl)
    (opensAt_cons rfl (by kernel_rfl) (opens_slice Try.underlying22 (by kernel_rfl) (by decide) (opens_int Try.underlying31)) (opensAt_cons rfl (by kernel_rfl) (opens_slice Try.underlying23 (by kernel_rfl) (by decide) (opens_int Try.underlying3)) (opensAt_cons rfl (by kernel_rfl) (opens_int Try.underlying3)
    (opensAt_cons rfl (by kernel_rfl) (opens_int Try.underlying3) (opensAt_cons rfl (by kernel_rfl) (opens_int Try.underlying3) (opensAt_cons rfl (by kernel_rfl) (opens_int Try.underlying3) (opensAt_cons rfl (by kernel_rfl) (opens_slice Try.underlying24 (by kernel_rfl) (by decide) opens_pr) opensAt_nil)))))))
  intro H enc w fuel cs y hy
  obtain ⟨x, hx⟩ := h H enc w fuel cs y hy
  obtain ⟨_, _, rfl, ⟨Al, nl, cl, rfl, hl⟩, _, _, rfl, ⟨At, nt, ct, rfl, -⟩, _, _, rfl, ⟨rfl, -⟩, _, _, rfl, ⟨rfl, -⟩, _, _, rfl, ⟨rfl, -⟩, _, _, rfl, ⟨rfl, -⟩, _, _, rfl, ⟨Ap, np, cp, rfl, hp⟩, rfl⟩ := hx
  exact ⟨⟨x.1, x.2.2.2.2.2.2.1⟩, Al, nl, cl, _, _, _, _, _, Ap, np, cp, rfl, ⟨rfl, rfl, rfl, rfl, rfl⟩, hl, hp⟩
end Go.Proofs.Ytgdmajockejpgaa.View
