/- The walk of the law ConfReturns (layer 14). -/
import Derived.Test.YtaefgljpdpigeaaConfAw
import Derived.Laws.IdiomStrings
import Derived.Lib.BufferRead
namespace Go.Proofs.Ytaefgljpdpigeaa.Conf
open Go.RowKit Go.Fb Go.CodeP Go.BytesP Go.ReaderP Go.Proofs.Ytaefgljpdpigeaa.Code
set_option linter.unusedVariables false
theorem opens_proc : Opens Try.prog repProc 37 := by
  have h : Opens Try.prog ((Rep.int .i64).pair (Code.repIns.slice.pair Rep.unit)) 37 := opens_struct Try.underlying37 (by kernel_rfl)
    (opensAt_cons rfl (by kernel_rfl) (opens_int Try.underlying3) (opensAt_cons rfl (by kernel_rfl) (opens_slice Try.underlying28 (by kernel_rfl) (by decide) Code.opens_ins) opensAt_nil))
  intro H enc w fuel cs y hy
  obtain ⟨x, hx⟩ := h H enc w fuel cs y hy
  obtain ⟨_, _, rfl, ⟨rfl, h1⟩, _, _, rfl, ⟨A, n, c, rfl, h2⟩, rfl⟩ := hx
  exact ⟨⟨x.1, x.2.1⟩, A, c, by rw [h2.len]; rfl, by rw [← h2.len]; exact h2, h1⟩
theorem opens_conf : Opens Try.prog repConf 26 := by
  have h : Opens Try.prog ((Rep.int .u64).slice.pair ((Rep.int .i64).slice.pair ((Rep.int .i64).pair ((Rep.int .i64).pair ((Rep.int .i64).pair ((Rep.int .i64).pair (repProc.slice.pair Rep.unit))))))) 26 := opens_struct Try.underlying26 (by kernel_rfl)
    (opensAt_cons rfl (by kernel_rfl) (opens_slice Try.underlying22 (by kernel_rfl) (by decide) (opens_int Try.underlying49)) (opensAt_cons rfl (by kernel_rfl) (opens_slice Try.underlying23 (by kernel_rfl) (by decide) (opens_int Try.underlying3))
      (opensAt_cons rfl (by kernel_rfl) (opens_int Try.underlying3) (opensAt_cons rfl (by kernel_rfl) (opens_int Try.underlying3) (opensAt_cons rfl (by kernel_rfl) (opens_int Try.underlying3) (opensAt_cons rfl (by kernel_rfl) (opens_int Try.underlying3) (opensAt_cons rfl (by kernel_rfl) (opens_slice Try.underlying24 (by kernel_rfl) (by decide) opens_proc) opensAt_nil)))))))
  intro H enc w fuel cs y hy
  obtain ⟨x, hx⟩ := h H enc w fuel cs y hy
  obtain ⟨_, _, rfl, ⟨Al, nl, cl, rfl, hl⟩, _, _, rfl, ⟨At, nt, ct, rfl, ht⟩, _, _, rfl, ⟨rfl, h1⟩, _, _, rfl, ⟨rfl, h2⟩, _, _, rfl, ⟨rfl, h3⟩, _, _, rfl, ⟨rfl, h4⟩, _, _, rfl, ⟨Ap, np, cp, rfl, hp⟩, rfl⟩ := hx
  exact ⟨⟨x.1, x.2.1, x.2.2.1, x.2.2.2.1, x.2.2.2.2.1, x.2.2.2.2.2.1, x.2.2.2.2.2.2.1⟩, Al, cl, At, ct, Ap, cp, by unfold confC; rw [hl.len, ht.len, hp.len]; rfl, by rw [← hl.len]; exact hl, by rw [← ht.len]; exact ht, by rw [← hp.len]; exact hp, h1, h2, h3, h4⟩
/-- Bytes, as a string. -/
theorem str_of {P : Program} {w : World} {B : Nat} {A : Option Addr} {n c : Nat} {l : List UInt8} (h : SliceOf Rep.byte w B A n c l) (src dst e : TypeId) (hs : P.underlying src = some (.slice e)) (he : P.underlying e = some (.int .u8)) (hd : P.underlying dst = some .string) :
    (convert src dst (.slice A n c)).run P w = .ok (.string ⟨l.toArray⟩) w := by
  have hn := h.len
  by_cases h0 : 0 < n
  · obtain ⟨b, o, rfl, _, hc⟩ := h.bytes h0
    subst hn
    exact run_convert_bytes_back w src dst e _ c l hs he hd fun j hj => by rw [add_eq]; exact hc j hj
  · obtain rfl : l = [] := List.eq_nil_of_length_eq_zero (by omega)
    obtain rfl : n = 0 := by omega
    cases A with
    | none => exact Lib.run_convert_nil_bytes w src dst e c hs he hd
    | some a => exact run_convert_bytes_back w src dst e a c [] hs he hd fun j hj => absurd hj (by simp)
end Go.Proofs.Ytaefgljpdpigeaa.Conf
