/- The walks of package post's Lay, of the reference's (layer 10). -/
import Derived.Test.YtnfaafdgfafcjaaPostG
namespace Go.Proofs.Ytnfaafdgfafcjaa.Lane
open Go.RowKit Go.Fb
set_option linter.unusedVariables false
def setRoom (room : Int) (L : Lane) : Lane := { L with room := room }
/-- What is wrong with lanes that are to be laid. -/
def layPErr (room : Int) (Ls : List Lane) (cur : Int) : Int := if ¬ (1 ≤ Ls.length ∧ Ls.length ≤ 9 ∧ 1 ≤ room ∧ room ≤ 64) then 1 else if ¬ (0 ≤ cur ∧ cur < (Ls.length : Int)) then 2 else if ¬ (∀ L ∈ Ls, MayL room L) then 4 else 0
section
variable {room cur : Int} {Ls : List Lane}
theorem layP_arg (h : ¬ (1 ≤ Ls.length ∧ Ls.length ≤ 9 ∧ 1 ≤ room ∧ room ≤ 64)) : layPErr room Ls cur = 1 := if_pos h
theorem layP_range (h1 : 1 ≤ Ls.length ∧ Ls.length ≤ 9 ∧ 1 ≤ room ∧ room ≤ 64) (h : ¬ (0 ≤ cur ∧ cur < (Ls.length : Int))) : layPErr room Ls cur = 2 := by unfold layPErr; rw [if_neg (fun k => k h1), if_pos h]
theorem layP_form (h1 : 1 ≤ Ls.length ∧ Ls.length ≤ 9 ∧ 1 ≤ room ∧ room ≤ 64) (h2 : 0 ≤ cur ∧ cur < (Ls.length : Int)) (h : ¬ ∀ L ∈ Ls, MayL room L) : layPErr room Ls cur = 4 := by unfold layPErr; rw [if_neg (fun k => k h1), if_neg (fun k => k h2), if_pos h]
theorem layP_ok (h1 : 1 ≤ Ls.length ∧ Ls.length ≤ 9 ∧ 1 ≤ room ∧ room ≤ 64) (h2 : 0 ≤ cur ∧ cur < (Ls.length : Int)) (h : ∀ L ∈ Ls, MayL room L) : layPErr room Ls cur = 0 := by unfold layPErr; rw [if_neg (fun k => k h1), if_neg (fun k => k h2), if_neg (fun k => k h)]
end
def LayPostP (TP TL : TypeId) (w : World) (room : Int) (Ls : List Lane) (cur : Int) (e : Ending) (w' : World) : Prop := New w w' ∧ ((layPErr room Ls cur = 0 ∧ ∃ b F, e = .returned (.tuple #[.pointer (some ⟨b, 0, none⟩), .int .i64 0]) ∧ PAtT TP TL w' b F (Ls.map (setRoom room)) cur ∧ ∀ k, F k → w.heap.size ≤ k) ∨
  (layPErr room Ls cur ≠ 0 ∧ e = .returned (.tuple #[.pointer none, .int .i64 (layPErr room Ls cur)])))
theorem LayPostP.bad {TP TL : TypeId} {w w' : World} {room : Int} {Ls : List Lane} {cur : Int} {e : Ending} {x : Int} (hn : New w w') (hx : layPErr room Ls cur = x) (h0 : x ≠ 0) (he : e = .returned (.tuple #[.pointer none, .int .i64 x])) : LayPostP TP TL w room Ls cur e w' :=
  ⟨hn, .inr ⟨by rw [hx]; exact h0, by rw [hx]; exact he⟩⟩
/-- A lane more. -/
theorem PParts.push {TP TL : TypeId} {w w2 : World} {b : Nat} {r : Option Nat} {A : Option Addr} {c : Nat} {bs : Nat → Nat} {Fs : Nat → Nat → Prop} {Ls : List Lane} {cur : Int} (h : PParts TP TL w b r A c bs Fs Ls cur) {bi : Nat} {Fi : Nat → Prop} {L : Lane} (hL : AtT TL w bi Fi L) (hF : ∀ k, Fi k → ¬ foot b r Fs k)
    {r' : Option Nat} {A' : Option Addr} {c' n : Nat} (hn : n = Ls.length) (hrow : Row w2 1 r' A' (n + 1) c' ((List.range n).map (fun i => ptr (bs i)) ++ [ptr bi])) (hk : Kept (fun k => r = some k) w w2) (hr : ∀ k, r' = some k → r = some k ∨ w.heap.size ≤ k) (hout : ∀ i k, Ls.length ≤ i → ¬ Fs i k) :
    PParts TP TL (w2.setCell ⟨b, 0, none⟩ (.slice A' (n + 1) c')) b r' A' c' (fun i => if i = n then bi else bs i) (fun i => if i = n then Fi else Fs i) (Ls ++ [L]) cur := by
  subst hn
  have hb2 : Blk w2 b TP #[.slice A Ls.length c, .int .i64 cur] := h.blk.kept hk h.rb
  have hbl := h.blk.lt
  have hrb : ∀ k, r' = some k → k ≠ b := fun k e e2 => by
    subst e2
    rcases hr k e with h1 | h1
    · exact h.rb h1
    · omega
  have hl1 : (Ls ++ [L]).length = Ls.length + 1 := by simp
  have hk1 := Kept.set1 w2 b 0 (.slice A' (Ls.length + 1) c')
  have hnF : ∀ k, Fi k → k ≠ b ∧ r ≠ some k := fun k e => ⟨fun e2 => hF k e (.inl e2), fun e2 => hF k e (.inr (.inl e2))⟩
  refine ⟨?_, ?_, fun i hi => ?_, fun i k e => ?_, fun i j k hne e e' => ?_, fun e => hrb b e rfl, fun i k e => ?_⟩
  · have := hb2.set (i := 0) (.slice A' (Ls.length + 1) c')
    rw [hl1]
    simpa using this
  · rw [hl1]
    have e1 : (List.range (Ls.length + 1)).map (fun i => ptr (if i = Ls.length then bi else bs i)) = (List.range Ls.length).map (fun i => ptr (bs i)) ++ [ptr bi] := by
      rw [List.range_succ, List.map_append]
      congr 1
      · refine List.map_congr_left fun i hi => ?_
        rw [if_neg (by have := List.mem_range.1 hi; omega)]
      · simp
    rw [e1]
    exact hrow.of_kept (by decide) hk1 (fun k e e' => hrb k e e')
  · by_cases e : i = Ls.length
    · subst e
      have e2 : (Ls ++ [L])[Ls.length]'(by simp) = L := by simp
      rw [e2]
      show AtT TL _ (if Ls.length = Ls.length then bi else _) (if Ls.length = Ls.length then Fi else _) L
      rw [if_pos rfl, if_pos rfl]
      exact (hL.kept hk (fun k e => (hnF k e).2)).kept hk1 (fun k e => (hnF k e).1)
    · have hi' : i < Ls.length := by omega
      rw [List.getElem_append_left hi']
      show AtT TL _ (if i = Ls.length then bi else bs i) (if i = Ls.length then Fi else Fs i) _
      rw [if_neg e, if_neg e]
      exact ((h.lanes i hi').kept hk (fun k e => (h.apart i k e).2)).kept hk1 (fun k e => (h.apart i k e).1)
  · change (if i = Ls.length then Fi else Fs i) k at e
    by_cases c1 : i = Ls.length
    · rw [if_pos c1] at e
      refine ⟨(hnF k e).1, fun e2 => ?_⟩
      rcases hr k e2 with h1 | h1
      · exact (hnF k e).2 h1
      · have := hL.lt k e; omega
    · rw [if_neg c1] at e
      refine ⟨(h.apart i k e).1, fun e2 => ?_⟩
      rcases hr k e2 with h1 | h1
      · exact (h.apart i k e).2 h1
      · have := h.lt i k e; omega
  · change (if i = Ls.length then Fi else Fs i) k at e
    change (if j = Ls.length then Fi else Fs j) k at e'
    by_cases c1 : i = Ls.length
    · rw [if_pos c1] at e
      rw [if_neg (by omega)] at e'
      exact hF k e (.inr (.inr ⟨j, e'⟩))
    · rw [if_neg c1] at e
      by_cases c2 : j = Ls.length
      · rw [if_pos c2] at e'; exact hF k e' (.inr (.inr ⟨i, e⟩))
      · rw [if_neg c2] at e'; exact h.dis i j k hne e e'
  · rw [← size_set]
    change (if i = Ls.length then Fi else Fs i) k at e
    by_cases c1 : i = Ls.length
    · rw [if_pos c1] at e; exact Nat.lt_of_lt_of_le (hL.lt k e) hk.size
    · rw [if_neg c1] at e; exact Nat.lt_of_lt_of_le (h.lt i k e) hk.size
theorem lanes_at {w : World} {B : Nat} {A : Option Addr} {n c : Nat} {l : List Lane} (h : SliceOf repT w B A n c l) (hn : 0 < n) :
    ∃ b o, A = some ⟨b, o, none⟩ ∧ b < B ∧ ∀ i (h : i < l.length), ∃ Av cv Aw cw, (w.cell? ⟨b, o + i * 4, none⟩ = some (.slice Av l[i].vals.length cv) ∧ w.cell? ⟨b, o + i * 4 + 1, none⟩ = some (.slice Aw l[i].waits.length cw) ∧ w.cell? ⟨b, o + i * 4 + 2, none⟩ = some (.int .i64 l[i].taken) ∧ w.cell? ⟨b, o + i * 4 + 3, none⟩ = some (.int .i64 l[i].dropped)) ∧
      SliceOf repV w B Av l[i].vals.length cv l[i].vals ∧ SliceOf repW w B Aw l[i].waits.length cw l[i].waits := by
  obtain ⟨b, o, e, hb, hc⟩ := h.get hn
  refine ⟨b, o, e, hb, fun i hi => ?_⟩
  obtain ⟨es, g1, Av, cv, Aw, cw, rfl, g2, g3⟩ := hc i hi
  exact ⟨Av, cv, Aw, cw, ⟨g1 0 (by decide), g1 1 (by decide), g1 2 (by decide), g1 3 (by decide)⟩, g2, g3⟩
theorem tyPtrs : SliceTy Try.prog 56 59 1 8 := by
  obtain ⟨i, hi, hz, hs, hb⟩ := info_parts (P := Try.prog) (e := 59) (z := .pointer none) (size := 1) (bytes := 8) (by kernel_rfl)
  exact ⟨Try.underlying56, ⟨i, _, hi, hz, hs, hb, rfl⟩, by decide⟩
theorem tyPtrsR : SliceTy Try.prog 70 73 1 8 := by
  obtain ⟨i, hi, hz, hs, hb⟩ := info_parts (P := Try.prog) (e := 73) (z := .pointer none) (size := 1) (bytes := 8) (by kernel_rfl)
  exact ⟨Try.underlying70, ⟨i, _, hi, hz, hs, hb, rfl⟩, by decide⟩
section
variable {w : World} {B : Nat} {A : Option Addr} {n c : Nat} {Ls : List Lane}
set_option maxRecDepth 100000 in
set_option maxHeartbeats 8000000 in
theorem play_any (room cur : Int) (hl : SliceOf repT w B A n c Ls) (hB : B ≤ w.heap.size) (hwf : ∀ L ∈ Ls, ∀ q ∈ L.waits, (Lit.int .i64 q.1).wf = true) (hv : ∀ L ∈ Ls, L.vals.length ≤ 8000000000000 ∧ L.waits.length ≤ 8000000000000) :
    Calls Try.prog 7 #[.int .i64 room, .slice A n c, .int .i64 cur] w (LayPostP 58 87 w room Ls cur) := by
  have hb := hl.bound
  have hln := hl.len
  have HARG := Lib.hid (layP_arg (room := room) (cur := cur) (Ls := Ls))
  have HRG := Lib.hid (layP_range (room := room) (cur := cur) (Ls := Ls))
  have HFORM := Lib.hid (layP_form (room := room) (cur := cur) (Ls := Ls))
  have HOK := Lib.hid (layP_ok (room := room) (cur := cur) (Ls := Ls))
  rw [← hln] at HARG HRG HFORM HOK
  have HL := Lib.hid (fun W (hW : New w W) => hl.kept hW hB fun _ _ h => h)
  have HLAY := Lib.hid (fun W i (hi : i < Ls.length) (Av : Option Addr) (cv : Nat) (Aw : Option Addr) (cw : Nat) (h1 : SliceOf repV W W.heap.size Av Ls[i].vals.length cv Ls[i].vals) (h2 : SliceOf repW W W.heap.size Aw Ls[i].waits.length cw Ls[i].waits) => lay_any (w := W) (B := W.heap.size) (L := Ls[i]) room h1 h2 (Nat.le_refl _) (hwf _ (List.getElem_mem hi)) (hv _ (List.getElem_mem hi)).1 (hv _ (List.getElem_mem hi)).2)
  have HLN := Lib.hid hln
  clear hln
  clear hl hwf hv
  by_cases g0 : 1 ≤ n ∧ n ≤ 9 ∧ 1 ≤ room ∧ room ≤ 64
  · by_cases g1 : 0 ≤ cur ∧ cur < (n : Int)
    · have HF2 := Lib.hid (fun h => HFORM.out g0 g1 h)
      have HO2 := Lib.hid (fun h => HOK.out g0 g1 h)
      obtain ⟨k1, k2, k3, k4⟩ := g0
      obtain ⟨k5, k6⟩ := g1
      have kk : New w (w.alloc (.cells #[.slice none 0 0, .int .i64 cur] 58)) := (Kept.refl _ _).alloc _
      have hb0 := Blk.made w 58 #[.slice none 0 0, .int .i64 cur]
      have hp0 : PParts 58 87 (w.alloc (.cells #[.slice none 0 0, .int .i64 cur] 58)) w.heap.size none none 0 (fun _ => 0) (fun _ _ => False) [] cur := ⟨hb0, Row.nil _ _, fun i hi => absurd hi (Nat.not_lt_zero _), fun _ _ h => h.elim, fun _ _ _ _ h => h.elim, by simp, fun _ _ h => h.elim⟩
      have KK := Lib.hid kk
      have HB0 := Lib.hid hb0
      have HP0 := Lib.hid hp0
      clear kk hb0 hp0
      go_enter Try.func7, Try.ntmps7
      go_upto_region 6 with (fail)
      generalize w.alloc (.cells #[.slice none 0 0, .int .i64 cur] 58) = w0 at *
      go_wp2_with fail
      go_loopw [44] (fun s wr => ∃ (i : Nat) (r : Option Nat) (A' : Option Addr) (c' : Nat) (bs : Nat → Nat) (Fs : Nat → Nat → Prop), i ≤ n ∧ s = .int .i64 i ∧ PParts 58 87 wr w.heap.size r A' c' bs Fs ((Ls.take i).map (setRoom room)) cur ∧ (∀ k, foot w.heap.size r Fs k → w.heap.size ≤ k) ∧ (∀ i' k, i ≤ i' → ¬ Fs i' k) ∧ New w wr ∧ Hid (∀ j (hj : j < Ls.length), j < i → MayL room Ls[j])) (fun s _ => (n - intOf s).toNat)
      case atStart => exact ⟨0, none, none, 0, fun _ => 0, fun _ _ => False, Nat.zero_le _, rfl, by simpa using HP0.out, fun k e => by rcases e with e | e | ⟨_, e⟩ <;> first | omega | cases e | exact e.elim, fun _ _ _ h => h, KK.out, Lib.hid fun j hj h => absurd h (Nat.not_lt_zero _)⟩
      case round =>
        obtain ⟨i, r, A', c', bs, Fs, hi, rfl, hp, hfo, hout, hnr, hmy⟩ := hrel
        by_cases hlt : i < n
        · have hil : i < Ls.length := by rw [← HLN.out]; exact hlt
          obtain ⟨g, o, rfl, -, hc⟩ := lanes_at (HL.out wr hnr) (by omega)
          obtain ⟨Av, cv, Aw, cw, ⟨x0, x1, x2, x3⟩, hvr, hwr⟩ := hc i hil
          have HBAD := Lib.hid (fun (he : layErr room Ls[i] ≠ 0) => HF2.out (fun h => he (layErr_ok ⟨k3, k4⟩ (h _ (List.getElem_mem hil)))))
          have HMY := Lib.hid (fun (he : layErr room Ls[i] = 0) j (hj : j < Ls.length) (h : j < i + 1) => show MayL room Ls[j] by
            by_cases e : j = i
            · subst e
              by_cases hm : MayL room Ls[j]
              · exact hm
              · rw [layErr_form ⟨k3, k4⟩ hm] at he; exact absurd he (by decide)
            · exact hmy.out j hj (by omega))
          have HTK := Lib.hid (show ((Ls.take (i + 1)).map (setRoom room)) = (Ls.take i).map (setRoom room) ++ [{ Ls[i] with room := room }] by rw [List.take_succ_eq_append_getElem hil, List.map_append]; rfl)
          have htl : ((Ls.take i).map (setRoom room)).length = i := by rw [List.length_map, List.length_take]; omega
          have hal : New wr (wr.alloc (.cells #[.slice Av Ls[i].vals.length cv, .slice Aw Ls[i].waits.length cw, .int .i64 Ls[i].taken, .int .i64 Ls[i].dropped] 29)) := (Kept.refl _ _).alloc _
          have hb4 := Blk.made wr 29 #[.slice Av Ls[i].vals.length cv, .slice Aw Ls[i].waits.length cw, .int .i64 Ls[i].taken, .int .i64 Ls[i].dropped]
          have hn4 := hnr.trans hal
          have hp4 := hp.new hal
          have hly := HLAY.out (wr.alloc (.cells #[.slice Av Ls[i].vals.length cv, .slice Aw Ls[i].waits.length cw, .int .i64 Ls[i].taken, .int .i64 Ls[i].dropped] 29)) i hil Av cv Aw cw ((hvr.kept hal (Nat.le_trans hB hnr.size) fun _ _ h => h).more (Nat.le_trans hB hn4.size)) ((hwr.kept hal (Nat.le_trans hB hnr.size) fun _ _ h => h).more (Nat.le_trans hB hn4.size))
          unfold stC at hly
          unfold LayPost at hly
          generalize Ls[i] = L at *
          generalize layErr room L = er at *
          generalize hvn : L.vals.length = nv at *
          generalize hwn : L.waits.length = nw at *
          have HAL := Lib.hid hal
          have HN4 := Lib.hid hn4
          have HP4 := Lib.hid hp4
          have HLY := Lib.hid hly
          have HVN := Lib.hid hvn
          have HWN := Lib.hid hwn
          have HMY0 := Lib.hid hmy
          have HTL := Lib.hid htl
          clear hal hn4 hp4 hly hvn hwn hmy htl
          have HB4 := Lib.hid hb4
          clear hb4
          clear hc hvr hwr hp hnr
          go_upto_region 9 with (fail)
          generalize wr.alloc (.cells #[.slice Av nv cv, .slice Aw nw cw, .int .i64 L.taken, .int .i64 L.dropped] 29) = w4 at *
          have z0 := HB4.out.cell 0
          have z1 := HB4.out.cell 1
          have z2 := HB4.out.cell 2
          have z3 := HB4.out.cell 3
          simp only [List.getElem?_toArray, List.getElem?_cons_zero, List.getElem?_cons_succ] at z0 z1 z2 z3
          clear x0 x1 x2 x3
          go_wp2_with fail
          refine HLY.out.mono ?_
          rintro e w5 ⟨hm5, hr5⟩
          have hp5 := HP4.out.new hm5
          have hn5 := HN4.out.trans hm5
          rcases hr5 with ⟨he, b', F', rfl, hL', hfF⟩ | ⟨he, rfl⟩
          · have y0 := hp5.blk.cell 0
            rw [HTL.out] at y0
            simp only [List.getElem?_toArray, List.getElem?_cons_zero] at y0
            have hrow := hp5.row
            rw [HTL.out] at hrow
            have HM5 := Lib.hid (HMY.out he)
            have hbr := hrow.bound
            have hlt4 := HP4.out.foot_lt
            subst he
            have HP5 := Lib.hid hp5
            have HN5 := Lib.hid hn5
            have HL' := Lib.hid hL'
            have HFF := Lib.hid hfF
            have HROW := Lib.hid hrow
            have HLT4 := Lib.hid hlt4
            clear hp5 hn5 hL' hfF hrow hlt4
            clear hm5 z0 z1 z2 z3
            go_wp2_with (at_builtin; refine wpList_append_one (cs := [.pointer (some ⟨b', 0, none⟩)]) tyPtrs rfl (.tmp 60) (.tmp 62) rfl rfl HROW.out rfl rfl rfl (by simp [Value.oneCell']) (by unfold maxLen; omega) (by omega) ?_; intro r6 A6 c6 w6 hr6 hk6 hn6; have hb6 := HP5.out.blk.kept hk6 HP5.out.rb; have y6 := hb6.cell 0; have yf := hb6.free 0; rw [HTL.out] at y6; simp only [List.getElem?_toArray, List.getElem?_cons_zero] at y6; have HR6 := Lib.hid hr6; have HK6 := Lib.hid hk6; have HN6 := Lib.hid hn6; clear hr6 hk6 hn6 hb6)
            go_roundw
            case rel =>
              have hpu := HP5.out.push HL'.out (fun k e e' => by have := HFF.out k e; have := HLT4.out k e'; omega) (n := i) HTL.out.symm (r' := r6) (A' := A6) (c' := c6) HR6.out HK6.out HN6.out (fun i' k e => by rw [HTL.out] at e; exact hout i' k e)
              rw [← HTK.out] at hpu
              have hs5 := HN5.out.size
              have hs4 := HN4.out.size
              refine ⟨i + 1, r6, A6, c6, _, _, by omega, by go_num, hpu, ?_, fun i' k e h => ?_, (HN5.out.step HK6.out fun k hk e => by have := hfo k (.inr (.inl e)); omega).setCell (.inl (Nat.le_refl _)) _, Lib.hid HM5.out⟩
              · rintro k (e | e | ⟨t, e⟩)
                · omega
                · rcases HN6.out k e with h | h
                  · exact hfo k (.inr (.inl h))
                  · omega
                · change (if t = i then F' else Fs t) k at e
                  by_cases c1 : t = i
                  · rw [if_pos c1] at e; have := HFF.out k e; omega
                  · rw [if_neg c1] at e; exact hfo k (.inr (.inr ⟨t, e⟩))
              · change (if i' = i then F' else Fs i') k at h
                rw [if_neg (by omega)] at h
                exact hout i' k (by omega) h
            case measure => simp [intOf]; omega
          · have E := Lib.hid (HBAD.out he)
            have hne : (er != 0) = true := by simpa using he
            have HN5 := Lib.hid hn5
            clear hp5 hm5 hn5 he
            go_wp2_with fail
            go_ret2
            exact LayPostP.bad HN5.out E.out (by decide) rfl
        · obtain rfl : i = n := by omega
          have E := Lib.hid (HO2.out (fun L hL => by
            obtain ⟨j, hj, rfl⟩ := List.mem_iff_getElem.1 hL
            exact hmy.out j hj (by rw [HLN.out]; exact hj)))
          have hT : Ls.take i = Ls := by rw [HLN.out, List.take_length]
          rw [hT] at hp
          have HFIN : Hid (∃ b F, PAtT 58 87 wr b F (Ls.map (setRoom room)) cur ∧ b = w.heap.size ∧ ∀ k, F k → w.heap.size ≤ k) := Lib.hid ⟨_, _, hp.at_, rfl, hfo⟩
          have HNR := Lib.hid hnr
          clear hnr
          clear hp hT hfo hout
          go_wp2_with fail
          go_ret2
          obtain ⟨b1, F1, hA1, rfl, hF1⟩ := HFIN.out
          exact ⟨HNR.out, .inl ⟨E.out, _, F1, rfl, hA1, hF1⟩⟩
    · have E := Lib.hid (HRG.out g0 g1)
      obtain ⟨k1, k2, k3, k4⟩ := g0
      have k7 : cur < 0 ∨ (0 ≤ cur ∧ (n : Int) ≤ cur) := by omega
      clear g1
      rcases k7 with k5 | ⟨k5, k6⟩
      all_goals
        go_enter Try.func7, Try.ntmps7
        go_wp2_with fail
        go_ret2
        exact LayPostP.bad (Kept.refl _ _) E.out (by decide) rfl
  · have E := Lib.hid (HARG.out g0)
    have k7 : n < 1 ∨ (1 ≤ n ∧ 9 < n) ∨ (1 ≤ n ∧ n ≤ 9 ∧ room < 1) ∨ (1 ≤ n ∧ n ≤ 9 ∧ 1 ≤ room ∧ 64 < room) := by omega
    clear g0
    rcases k7 with k1 | ⟨k1, k2⟩ | ⟨k1, k2, k3⟩ | ⟨k1, k2, k3, k4⟩
    all_goals
      go_enter Try.func7, Try.ntmps7
      go_wp2_with fail
      go_ret2
      exact LayPostP.bad (Kept.refl _ _) E.out (by decide) rfl
set_option maxRecDepth 100000 in
set_option maxHeartbeats 8000000 in
theorem rplay_any (room cur : Int) (hl : SliceOf repT w B A n c Ls) (hB : B ≤ w.heap.size) (hv : ∀ L ∈ Ls, L.vals.length ≤ 8000000000000 ∧ L.waits.length ≤ 8000000000000) :
    Calls Try.prog 11 #[.int .i64 room, .slice A n c, .int .i64 cur] w (LayPostP 72 91 w room Ls cur) := by
  have hb := hl.bound
  have hln := hl.len
  have HARG := Lib.hid (layP_arg (room := room) (cur := cur) (Ls := Ls))
  have HRG := Lib.hid (layP_range (room := room) (cur := cur) (Ls := Ls))
  have HFORM := Lib.hid (layP_form (room := room) (cur := cur) (Ls := Ls))
  have HOK := Lib.hid (layP_ok (room := room) (cur := cur) (Ls := Ls))
  rw [← hln] at HARG HRG HFORM HOK
  have HL := Lib.hid (fun W (hW : New w W) => hl.kept hW hB fun _ _ h => h)
  have HLAY := Lib.hid (fun W i (hi : i < Ls.length) (Av : Option Addr) (cv : Nat) (Aw : Option Addr) (cw : Nat) (h1 : SliceOf repV W W.heap.size Av Ls[i].vals.length cv Ls[i].vals) (h2 : SliceOf repW W W.heap.size Aw Ls[i].waits.length cw Ls[i].waits) => rlay_any (w := W) (B := W.heap.size) (L := Ls[i]) room h1 h2 (Nat.le_refl _) (hv _ (List.getElem_mem hi)).1 (hv _ (List.getElem_mem hi)).2)
  have HLN := Lib.hid hln
  clear hln
  clear hl hv
  by_cases g0 : 1 ≤ n ∧ n ≤ 9 ∧ 1 ≤ room ∧ room ≤ 64
  · by_cases g1 : 0 ≤ cur ∧ cur < (n : Int)
    · have HF2 := Lib.hid (fun h => HFORM.out g0 g1 h)
      have HO2 := Lib.hid (fun h => HOK.out g0 g1 h)
      obtain ⟨k1, k2, k3, k4⟩ := g0
      obtain ⟨k5, k6⟩ := g1
      have kk : New w (w.alloc (.cells #[.slice none 0 0, .int .i64 cur] 72)) := (Kept.refl _ _).alloc _
      have hb0 := Blk.made w 72 #[.slice none 0 0, .int .i64 cur]
      have hp0 : PParts 72 91 (w.alloc (.cells #[.slice none 0 0, .int .i64 cur] 72)) w.heap.size none none 0 (fun _ => 0) (fun _ _ => False) [] cur := ⟨hb0, Row.nil _ _, fun i hi => absurd hi (Nat.not_lt_zero _), fun _ _ h => h.elim, fun _ _ _ _ h => h.elim, by simp, fun _ _ h => h.elim⟩
      have KK := Lib.hid kk
      have HB0 := Lib.hid hb0
      have HP0 := Lib.hid hp0
      clear kk hb0 hp0
      go_enter Try.func11, Try.ntmps11
      go_upto_region 6 with (fail)
      generalize w.alloc (.cells #[.slice none 0 0, .int .i64 cur] 72) = w0 at *
      go_wp2_with fail
      go_loopw [9] (fun s wr => ∃ (i : Nat) (r : Option Nat) (A' : Option Addr) (c' : Nat) (bs : Nat → Nat) (Fs : Nat → Nat → Prop), i ≤ n ∧ s = .int .i64 i ∧ PParts 72 91 wr w.heap.size r A' c' bs Fs ((Ls.take i).map (setRoom room)) cur ∧ (∀ k, foot w.heap.size r Fs k → w.heap.size ≤ k) ∧ (∀ i' k, i ≤ i' → ¬ Fs i' k) ∧ New w wr ∧ Hid (∀ j (hj : j < Ls.length), j < i → MayL room Ls[j])) (fun s _ => (n - intOf s).toNat)
      case atStart => exact ⟨0, none, none, 0, fun _ => 0, fun _ _ => False, Nat.zero_le _, rfl, by simpa using HP0.out, fun k e => by rcases e with e | e | ⟨_, e⟩ <;> first | omega | cases e | exact e.elim, fun _ _ _ h => h, KK.out, Lib.hid fun j hj h => absurd h (Nat.not_lt_zero _)⟩
      case round =>
        obtain ⟨i, r, A', c', bs, Fs, hi, rfl, hp, hfo, hout, hnr, hmy⟩ := hrel
        by_cases hlt : i < n
        · have hil : i < Ls.length := by rw [← HLN.out]; exact hlt
          obtain ⟨g, o, rfl, -, hc⟩ := lanes_at (HL.out wr hnr) (by omega)
          obtain ⟨Av, cv, Aw, cw, ⟨x0, x1, x2, x3⟩, hvr, hwr⟩ := hc i hil
          have HBAD := Lib.hid (fun (he : layErr room Ls[i] ≠ 0) => HF2.out (fun h => he (layErr_ok ⟨k3, k4⟩ (h _ (List.getElem_mem hil)))))
          have HMY := Lib.hid (fun (he : layErr room Ls[i] = 0) j (hj : j < Ls.length) (h : j < i + 1) => show MayL room Ls[j] by
            by_cases e : j = i
            · subst e
              by_cases hm : MayL room Ls[j]
              · exact hm
              · rw [layErr_form ⟨k3, k4⟩ hm] at he; exact absurd he (by decide)
            · exact hmy.out j hj (by omega))
          have HTK := Lib.hid (show ((Ls.take (i + 1)).map (setRoom room)) = (Ls.take i).map (setRoom room) ++ [{ Ls[i] with room := room }] by rw [List.take_succ_eq_append_getElem hil, List.map_append]; rfl)
          have htl : ((Ls.take i).map (setRoom room)).length = i := by rw [List.length_map, List.length_take]; omega
          have hal : New wr wr := Kept.refl _ _
          have hn4 := hnr.trans hal
          have hp4 := hp.new hal
          have hly := HLAY.out wr i hil Av cv Aw cw ((hvr.kept hal (Nat.le_trans hB hnr.size) fun _ _ h => h).more (Nat.le_trans hB hn4.size)) ((hwr.kept hal (Nat.le_trans hB hnr.size) fun _ _ h => h).more (Nat.le_trans hB hn4.size))
          unfold stC at hly
          unfold LayPost at hly
          generalize Ls[i] = L at *
          generalize layErr room L = er at *
          generalize hvn : L.vals.length = nv at *
          generalize hwn : L.waits.length = nw at *
          have HAL := Lib.hid hal
          have HN4 := Lib.hid hn4
          have HP4 := Lib.hid hp4
          have HLY := Lib.hid hly
          have HVN := Lib.hid hvn
          have HWN := Lib.hid hwn
          have HMY0 := Lib.hid hmy
          have HTL := Lib.hid htl
          clear hal hn4 hp4 hly hvn hwn hmy htl
          clear hc hvr hwr hp hnr
          go_wp2_with fail
          refine HLY.out.mono ?_
          rintro e w5 ⟨hm5, hr5⟩
          have hp5 := HP4.out.new hm5
          have hn5 := HN4.out.trans hm5
          rcases hr5 with ⟨he, b', F', rfl, hL', hfF⟩ | ⟨he, rfl⟩
          · have y0 := hp5.blk.cell 0
            rw [HTL.out] at y0
            simp only [List.getElem?_toArray, List.getElem?_cons_zero] at y0
            have hrow := hp5.row
            rw [HTL.out] at hrow
            have HM5 := Lib.hid (HMY.out he)
            have hbr := hrow.bound
            have hlt4 := HP4.out.foot_lt
            subst he
            have HP5 := Lib.hid hp5
            have HN5 := Lib.hid hn5
            have HL' := Lib.hid hL'
            have HFF := Lib.hid hfF
            have HROW := Lib.hid hrow
            have HLT4 := Lib.hid hlt4
            clear hp5 hn5 hL' hfF hrow hlt4
            clear hm5 x0 x1 x2 x3
            go_wp2_with (at_builtin; refine wpList_append_one (cs := [.pointer (some ⟨b', 0, none⟩)]) tyPtrsR rfl (.tmp 60) (.tmp 62) rfl rfl HROW.out rfl rfl rfl (by simp [Value.oneCell']) (by unfold maxLen; omega) (by omega) ?_; intro r6 A6 c6 w6 hr6 hk6 hn6; have hb6 := HP5.out.blk.kept hk6 HP5.out.rb; have y6 := hb6.cell 0; have yf := hb6.free 0; rw [HTL.out] at y6; simp only [List.getElem?_toArray, List.getElem?_cons_zero] at y6; have HR6 := Lib.hid hr6; have HK6 := Lib.hid hk6; have HN6 := Lib.hid hn6; clear hr6 hk6 hn6 hb6)
            go_roundw
            case rel =>
              have hpu := HP5.out.push HL'.out (fun k e e' => by have := HFF.out k e; have := HLT4.out k e'; omega) (n := i) HTL.out.symm (r' := r6) (A' := A6) (c' := c6) HR6.out HK6.out HN6.out (fun i' k e => by rw [HTL.out] at e; exact hout i' k e)
              rw [← HTK.out] at hpu
              have hs5 := HN5.out.size
              have hs4 := HN4.out.size
              refine ⟨i + 1, r6, A6, c6, _, _, by omega, by go_num, hpu, ?_, fun i' k e h => ?_, (HN5.out.step HK6.out fun k hk e => by have := hfo k (.inr (.inl e)); omega).setCell (.inl (Nat.le_refl _)) _, Lib.hid HM5.out⟩
              · rintro k (e | e | ⟨t, e⟩)
                · omega
                · rcases HN6.out k e with h | h
                  · exact hfo k (.inr (.inl h))
                  · omega
                · change (if t = i then F' else Fs t) k at e
                  by_cases c1 : t = i
                  · rw [if_pos c1] at e; have := HFF.out k e; omega
                  · rw [if_neg c1] at e; exact hfo k (.inr (.inr ⟨t, e⟩))
              · change (if i' = i then F' else Fs i') k at h
                rw [if_neg (by omega)] at h
                exact hout i' k (by omega) h
            case measure => simp [intOf]; omega
          · have E := Lib.hid (HBAD.out he)
            have hne : (er != 0) = true := by simpa using he
            have HN5 := Lib.hid hn5
            clear hp5 hm5 hn5 he
            go_wp2_with fail
            go_ret2
            exact LayPostP.bad HN5.out E.out (by decide) rfl
        · obtain rfl : i = n := by omega
          have E := Lib.hid (HO2.out (fun L hL => by
            obtain ⟨j, hj, rfl⟩ := List.mem_iff_getElem.1 hL
            exact hmy.out j hj (by rw [HLN.out]; exact hj)))
          have hT : Ls.take i = Ls := by rw [HLN.out, List.take_length]
          rw [hT] at hp
          have HFIN : Hid (∃ b F, PAtT 72 91 wr b F (Ls.map (setRoom room)) cur ∧ b = w.heap.size ∧ ∀ k, F k → w.heap.size ≤ k) := Lib.hid ⟨_, _, hp.at_, rfl, hfo⟩
          have HNR := Lib.hid hnr
          clear hnr
          clear hp hT hfo hout
          go_wp2_with fail
          go_ret2
          obtain ⟨b1, F1, hA1, rfl, hF1⟩ := HFIN.out
          exact ⟨HNR.out, .inl ⟨E.out, _, F1, rfl, hA1, hF1⟩⟩
    · have E := Lib.hid (HRG.out g0 g1)
      obtain ⟨k1, k2, k3, k4⟩ := g0
      have k7 : cur < 0 ∨ (0 ≤ cur ∧ (n : Int) ≤ cur) := by omega
      clear g1
      rcases k7 with k5 | ⟨k5, k6⟩
      all_goals
        go_enter Try.func11, Try.ntmps11
        go_wp2_with fail
        go_ret2
        exact LayPostP.bad (Kept.refl _ _) E.out (by decide) rfl
  · have E := Lib.hid (HARG.out g0)
    have k7 : n < 1 ∨ (1 ≤ n ∧ 9 < n) ∨ (1 ≤ n ∧ n ≤ 9 ∧ room < 1) ∨ (1 ≤ n ∧ n ≤ 9 ∧ 1 ≤ room ∧ 64 < room) := by omega
    clear g0
    rcases k7 with k1 | ⟨k1, k2⟩ | ⟨k1, k2, k3⟩ | ⟨k1, k2, k3, k4⟩
    all_goals
      go_enter Try.func11, Try.ntmps11
      go_wp2_with fail
      go_ret2
      exact LayPostP.bad (Kept.refl _ _) E.out (by decide) rfl
end
end Go.Proofs.Ytnfaafdgfafcjaa.Lane
