/- The walk of firebreaklaw10's stands (layer 10). -/
import Derived.Test.YtnfaafdgfafcjaaPostPc
namespace Go.Proofs.Ytnfaafdgfafcjaa.Lane
open Go.RowKit Go.Fb
set_option linter.unusedVariables false
section
variable {wr : World} {b c : Nat} {F G : Nat → Prop} {Ls : List Lane} {cur : Int}
set_option maxRecDepth 100000 in
set_option maxHeartbeats 4000000 in
theorem pstands_any (hF : PAt wr b F Ls cur) (hG : PAtR wr c G Ls cur) (hn : Ls.length ≤ 9) (hv : ∀ L ∈ Ls, SmallL L) : Calls Try.prog 18 #[.pointer (some ⟨b, 0, none⟩), .pointer (some ⟨c, 0, none⟩)] wr fun e w' => e = .returned (.bool true) ∧ New wr w' := by
  have HST := Lib.hid (fun W (hW : New wr W) => pstate_any (hF.new hW) (by omega) hv)
  have HRT := Lib.hid (fun W (hW : New wr W) => rpstate_any (hG.new hW) (by omega) hv)
  have HSO := Lib.hid (fun W (hW : New wr W) => (some_any (hF.new hW)).mono fun e w' (h : _ ∧ W = w') => (⟨h.1, h.2.symm⟩ : _ ∧ w' = W))
  have HRS := Lib.hid (fun W (hW : New wr W) => (rpsome_any (hG.new hW)).mono fun e w' (h : _ ∧ W = w') => (⟨h.1, h.2.symm⟩ : _ ∧ w' = W))
  have HSP := Lib.hid (fun W F2 A n c2 (h : OSl tellO W F2 A n c2 Ls) (hn : n ≤ 1048576) => pspoil_any h hv hn)
  have HSM := Lib.hid (fun W A n c1 A2 n2 c2 (h1 : SliceOf repT W W.heap.size A n c1 Ls) (h2 : SliceOf repT W W.heap.size A2 n2 c2 Ls) => psame_any h1 h2 (Nat.le_refl _))
  generalize someP Ls = sm at *
  unfold ToldP at HST HRT
  obtain ⟨m, hm⟩ : ∃ m, m = Ls.length := ⟨_, rfl⟩
  rw [← hm] at HST HRT hn
  clear hF hG hv hm
  go_enter Try.func18, Try.ntmps18
  go_wp2_with fail
  refine (HRT.out wr (Kept.refl _ _)).mono ?_
  rintro e w1 ⟨D1, d1, rfl, ho1, hn1⟩
  have HO1 := Lib.hid ho1
  have HN1 := Lib.hid hn1
  clear ho1 hn1
  go_wp2_with fail
  refine (HST.out w1 HN1.out).mono ?_
  rintro e w2 ⟨D2, d2, rfl, ho2, hn2⟩
  have HO2 := Lib.hid ho2
  have HN2 := Lib.hid hn2
  clear ho2 hn2
  go_wp2_with fail
  refine (HST.out w2 (HN1.out.trans HN2.out)).mono ?_
  rintro e w3 ⟨D3, d3, rfl, ho3, hn3⟩
  have s1 := HN1.out.size
  have s2 := HN2.out.size
  have s3 := hn3.size
  have ho13 := HO1.out.new (HN2.out.trans hn3)
  have ho23 := HO2.out.new hn3
  have hnw := (HN1.out.trans HN2.out).trans hn3
  have HO13 := Lib.hid ho13
  have HO23 := Lib.hid ho23
  have HO3 := Lib.hid ho3
  have HNW := Lib.hid hnw
  have S1 := Lib.hid s1
  have S2 := Lib.hid s2
  have S3 := Lib.hid s3
  clear ho13 ho23 ho3 hnw s1 s2 s3
  clear hn3 HO1 HO2 HN1 HN2
  go_wp2_with fail
  refine (HSM.out w3 _ _ _ _ _ _ (HO23.out.read tell_reads) (HO13.out.read tell_reads)).mono ?_
  rintro e w4 ⟨rfl, hn4⟩
  have h2 := HO23.out.new hn4
  have h1 := HO13.out.new hn4
  have h3 := HO3.out.new hn4
  have hsp := HSP.out w4 _ _ _ _ h2 (by omega)
  have hnw4 := HNW.out.trans hn4
  have H1 := Lib.hid h1
  have H3 := Lib.hid h3
  have HSP2 := Lib.hid hsp
  have HNW4 := Lib.hid hnw4
  clear h1 h3 hsp hnw4
  clear hn4 h2 HO23 HO13 HO3 HNW
  go_wp2_with fail
  refine HSP2.out.mono ?_
  rintro e w5 ⟨rfl, hk5⟩
  have h1 := H1.out.kept hk5 (fun k e e' => by have := S1.out; have := S2.out; omega)
  have h3 := H3.out.kept hk5 (fun k e e' => by have := S1.out; have := S2.out; omega)
  have hn5 : New wr w5 := HNW4.out.step hk5 fun k hk e => by have := S1.out; omega
  have H15 := Lib.hid h1
  have H35 := Lib.hid h3
  have HN5 := Lib.hid hn5
  clear h1 h3 hn5
  clear hk5 H1 H3 HNW4 HSP2
  go_wp2_with fail
  refine (HSM.out w5 _ _ _ _ _ _ (H35.out.read tell_reads) (H15.out.read tell_reads)).mono ?_
  rintro e w6 ⟨rfl, hn6⟩
  have h3 := H35.out.new hn6
  have hsp := HSP.out w6 _ _ _ _ h3 (by omega)
  have hnw6 := HN5.out.trans hn6
  have HSP3 := Lib.hid hsp
  have HNW6 := Lib.hid hnw6
  clear hsp hnw6
  clear hn6 h3 H35 H15 HN5
  go_wp2_with fail
  refine HSP3.out.mono ?_
  rintro e w7 ⟨rfl, hk7⟩
  have hn7 : New wr w7 := HNW6.out.step hk7 fun k hk e => by have := S1.out; have := S2.out; omega
  have HN7 := Lib.hid hn7
  clear hn7
  clear hk7 HNW6 HSP3 HSP HSM HST HRT
  go_wp2_with fail
  refine (HRS.out w7 HN7.out).mono ?_
  rintro e w8 ⟨rfl, rfl⟩
  go_wp2_with (refine (HSO.out _ HN7.out).mono ?_; rintro e w9 ⟨rfl, rfl⟩)
  go_ret
  exact ⟨by simp [Array.getD], HN7.out⟩
end
end Go.Proofs.Ytnfaafdgfafcjaa.Lane
