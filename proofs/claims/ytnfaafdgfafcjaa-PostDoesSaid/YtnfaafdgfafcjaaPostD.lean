/- The walks of package post's State, waits, Wait (layer 10). -/
import Derived.Test.YtnfaafdgfafcjaaPostC
namespace Go.Proofs.Ytnfaafdgfafcjaa.Lane
open Go.RowKit Go.Fb
set_option linter.unusedVariables false
/-- How a lane's stand lies, in memory of its own. -/
def tellC (L : Lane) (Av : Option Addr) (cv : Nat) (Aw : Option Addr) (cw : Nat) : List Value := [.slice Av L.vals.length cv, .slice Aw L.waits.length cw, .int .i64 L.taken, .int .i64 L.dropped]
def tellO : ORep Lane where
  size := 4
  pos := by decide
  own w F L cs := ∃ rv Av cv rw Aw cw, cs = tellC L Av cv Aw cw ∧ Row w 1 rv Av L.vals.length cv (L.vals.map (Value.int .i64)) ∧ Row w 2 rw Aw L.waits.length cw (L.waits.flatMap cellsW) ∧ (∀ k, rv = some k → F k) ∧ (∀ k, rw = some k → F k) ∧ ∀ k, rv = some k → rw ≠ some k
  length h := by obtain ⟨_, _, _, _, _, _, h, _⟩ := h; rw [h]; rfl
  kept h hk hg := by
    obtain ⟨rv, Av, cv, rw, Aw, cw, h, h1, h2, h3, h4, h5⟩ := h
    exact ⟨rv, Av, cv, rw, Aw, cw, h, h1.of_kept (by decide) hk (fun k e => hg k (h3 k e)), h2.of_kept (by decide) hk (fun k e => hg k (h4 k e)), h3, h4, h5⟩
  mono h hF := by
    obtain ⟨rv, Av, cv, rw, Aw, cw, h, h1, h2, h3, h4, h5⟩ := h
    exact ⟨rv, Av, cv, rw, Aw, cw, h, h1, h2, fun k e => hF k (h3 k e), fun k e => hF k (h4 k e), h5⟩
theorem Told.own {B : Nat} {w : World} {rv : Option Nat} {Av : Option Addr} {cv : Nat} {rw : Option Nat} {Aw : Option Addr} {cw : Nat} {L : Lane} (h : Told B w rv Av cv rw Aw cw L) : tellO.own w (fun k => rv = some k ∨ rw = some k) L (tellC L Av cv Aw cw) :=
  ⟨rv, Av, cv, rw, Aw, cw, rfl, h.vals, h.waits, fun k e => .inl e, fun k e => .inr e, h.d⟩
/-- How a lane's stand is read. -/
def repT : Rep Lane where
  size := 4
  cells w B L cs := ∃ Av cv Aw cw, cs = tellC L Av cv Aw cw ∧ SliceOf repV w B Av L.vals.length cv L.vals ∧ SliceOf repW w B Aw L.waits.length cw L.waits
  length h := by obtain ⟨_, _, _, _, h, _⟩ := h; rw [h]; rfl
  stays hw h := by obtain ⟨Av, cv, Aw, cw, h, h1, h2⟩ := h; exact ⟨Av, cv, Aw, cw, h, h1.stays hw, h2.stays hw⟩
  more hB h := by obtain ⟨Av, cv, Aw, cw, h, h1, h2⟩ := h; exact ⟨Av, cv, Aw, cw, h, h1.more hB, h2.more hB⟩
theorem tell_reads : Reads tellO repT := ⟨rfl, fun {w F x cs} h => by
  obtain ⟨rv, Av, cv, rw, Aw, cw, h, h1, h2, -⟩ := h
  exact ⟨Av, cv, Aw, cw, h, vals_read h1 rfl, waits_read h2 rfl⟩⟩
theorem tyLanes : SliceTy Try.prog 22 29 4 64 := by
  obtain ⟨i, hi, hz, hs, hb⟩ := info_parts (P := Try.prog) (e := 29) (z := .agg #[.slice none 0 0, .slice none 0 0, .int .i64 0, .int .i64 0]) (size := 4) (bytes := 64) (by kernel_rfl)
  exact ⟨Try.underlying22, ⟨i, _, hi, hz, hs, hb, rfl⟩, by decide⟩
theorem tellC_one (L : Lane) (Av : Option Addr) (cv : Nat) (Aw : Option Addr) (cw : Nat) : ∀ u ∈ tellC L Av cv Aw cw, u.oneCell' = true := by
  intro u hu
  simp only [tellC, List.mem_cons, List.not_mem_nil, or_false] at hu
  rcases hu with rfl | rfl | rfl | rfl <;> rfl
/-- What a State tells. -/
def ToldP (w : World) (Ls : List Lane) (cur : Int) (e : Ending) (w' : World) : Prop := ∃ D d, e = .returned (.tuple #[.slice D Ls.length d, .int .i64 cur]) ∧ OSl tellO w' (fun k => w.heap.size ≤ k ∧ k < w'.heap.size) D Ls.length d Ls ∧ New w w'
section
variable {w : World} {b : Nat} {F : Nat → Prop} {Ls : List Lane} {cur : Int}
set_option maxHeartbeats 2000000 in
theorem pstate_any (h : PAt w b F Ls cur) (hn : Ls.length ≤ 1048576) (hv : ∀ L ∈ Ls, L.vals.length ≤ 8000000000000 ∧ L.waits.length ≤ 8000000000000) : Calls Try.prog 16 #[.pointer (some ⟨b, 0, none⟩)] w (ToldP w Ls cur) := by
  have H0 := Lib.hid h
  obtain ⟨⟨r, A, c, bs, Fs, hp, hf⟩, hlt⟩ := h
  have c0 := hp.blk.cell 0
  simp only [List.getElem?_toArray, List.getElem?_cons_zero] at c0
  have hb := hp.row.bound
  have HCE := Lib.hid (fun W (hW : New w W) i hi => (hp.new hW).cell i hi)
  have HC1 := Lib.hid (fun W (hW : New w W) => show W.cell? ⟨b, 1, none⟩ = some (.int .i64 cur) from (hp.new hW).blk.cell 1)
  have HSTA := Lib.hid (fun W (hW : New w W) i (hi : i < Ls.length) => state_any ((hp.new hW).lanes i hi) (hv _ (List.getElem_mem hi)).1 (hv _ (List.getElem_mem hi)).2)
  unfold ToldP
  obtain ⟨m, hm⟩ : ∃ m, m = Ls.length := ⟨_, rfl⟩
  rw [← hm] at c0 hb hn ⊢
  have HM := Lib.hid hm
  clear hm
  clear hp hf hlt
  go_enter Try.func16, Try.ntmps16
  go_wp2_with fail
  go_loopw [4, 12] (fun s4 s wr => ∃ (i : Nat) (D : Option Addr) (d : Nat), i ≤ m ∧ s = .int .i64 i ∧ s4 = .slice D i d ∧ OSl tellO wr (fun k => w.heap.size ≤ k ∧ k < wr.heap.size) D i d (Ls.take i) ∧ New w wr) (fun _ s _ => (m - intOf s).toNat)
  case atStart => exact ⟨0, none, 0, Nat.zero_le _, rfl, rfl, by simpa using OSl.nil, Kept.refl _ _⟩
  case round =>
    obtain ⟨i, D, d, hi, rfl, rfl, ho, hnr⟩ := hrel
    by_cases hlt : i < m
    · have hil : i < Ls.length := by rw [← HM.out]; exact hlt
      obtain ⟨g, o, rfl, -, x0⟩ := HCE.out wr hnr i hil
      have hst := HSTA.out wr hnr i hil
      have HTK := Lib.hid (List.take_succ_eq_append_getElem hil)
      obtain ⟨L, hL⟩ : ∃ L, L = Ls[i] := ⟨_, rfl⟩
      rw [← hL] at hst HTK
      generalize bs i = bi at *
      unfold stC at hst
      have hsz := hnr.size
      have HST := Lib.hid hst
      have HO := Lib.hid ho
      have HNR := Lib.hid hnr
      have HL := Lib.hid hL
      clear hst ho hnr hL
      go_wp2_with fail
      refine HST.out.mono ?_
      rintro e w2 ⟨rv, Av, cv, rw, Aw, cw, rfl, ht, hn2⟩
      have hown := ht.own
      have ho2 := HO.out.new hn2
      have hlv := ht.vals.lt (by decide)
      have hlw := ht.waits.lt (by decide)
      have hfv := ht.fv
      have hfw := ht.fw
      obtain ⟨r0, xs, hrow, hrF, hpush⟩ := ho2.rows
      have hn2' := HNR.out.trans hn2
      unfold tellC at hown
      generalize L.vals.length = nv at *
      generalize L.waits.length = nw at *
      have HZ2 := Lib.hid hn2.size
      have hrow : Row w2 4 r0 D i d xs := hrow
      have hbi : i ≤ 1048576 := by omega
      have HPUSH := Lib.hid (fun w' r' A' c' x cs Fx F' => @hpush w' r' A' c' x cs Fx F')
      have HOWN := Lib.hid hown
      have HROW := Lib.hid hrow
      have HRF := Lib.hid hrF
      have HN2' := Lib.hid hn2'
      have HLV := Lib.hid hlv
      have HLW := Lib.hid hlw
      have HFV := Lib.hid hfv
      have HFW := Lib.hid hfw
      clear hown hrow hrF hn2' hlv hlw hfv hfw
      clear ho2 ht hn2 hpush
      go_wp2_with (at_builtin; refine wpList_append_one (cs := [.slice Av nv cv, .slice Aw nw cw, .int .i64 L.taken, .int .i64 L.dropped]) tyLanes rfl (.tmp 16) (.tmp 19) rfl rfl HROW.out rfl rfl rfl (by simp [Value.oneCell']) (by unfold maxLen; omega) (by omega) ?_; intro r3 A3 c3 w3 hr3 hk3 hn3; have HR3 := Lib.hid hr3; have HK3 := Lib.hid hk3; have HN3 := Lib.hid hn3; clear hr3 hk3 hn3)
      go_roundw
      case rel =>
        have hs3 := HK3.out.size
        have hl3 := HR3.out.lt (by decide)
        have hz := HZ2.out
        refine ⟨i + 1, A3, c3, by omega, by go_num, rfl, ?_, HN2'.out.step HK3.out fun k hk e => ?_⟩
        · rw [HTK.out]
          refine HPUSH.out w3 r3 A3 c3 L _ (fun k => rv = some k ∨ rw = some k) (fun k => w.heap.size ≤ k ∧ k < w3.heap.size) HR3.out HK3.out HN3.out (fun k e => Nat.lt_of_lt_of_le e.2 hz) HOWN.out (fun k e => ?_) (fun k e => ⟨e.1, by omega⟩) (fun k e => ?_) (fun k e => ⟨?_, hl3 k e⟩)
          · rcases e with e | e
            · exact ⟨fun h => by have := HFV.out k e; omega, HLV.out k e⟩
            · exact ⟨fun h => by have := HFW.out k e; omega, HLW.out k e⟩
          · rcases e with e | e
            · have := HFV.out k e; have := HLV.out k e; exact ⟨by omega, by omega⟩
            · have := HFW.out k e; have := HLW.out k e; exact ⟨by omega, by omega⟩
          · rcases HN3.out k e with h | h
            · exact (HRF.out k h).1
            · omega
        · exact absurd (HRF.out k e).1 (Nat.not_le.2 hk)
      case measure => simp [intOf]; omega
    · obtain rfl : i = m := by omega
      have hT : Ls.take i = Ls := by rw [HM.out, List.take_length]
      rw [hT] at ho
      have x1 := HC1.out wr hnr
      have HO := Lib.hid ho
      have HNR := Lib.hid hnr
      have HT := Lib.hid hT
      clear ho hnr hT
      go_wp2_with fail
      go_quiet (fail)
      go_wp2_with fail
      go_ret2
      exact ⟨D, d, by simp [Array.getD], (HO.out.new ((Kept.refl _ _).drewN _)), HNR.out.drewN _⟩
end
end Go.Proofs.Ytnfaafdgfafcjaa.Lane
