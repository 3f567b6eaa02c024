/- The walk of firebreaklaw10's PostDoes (layer 10). -/
import Derived.Test.YtnfaafdgfafcjaaPostPf
import Derived.Test.YtnfaafdgfafcjaaPostZ
namespace Go.Proofs.Ytnfaafdgfafcjaa.Lane
open Go.RowKit Go.Fb
set_option linter.unusedVariables false
/-- How a step lies. -/
def repSP : Rep (Int × Int × Int × Int) where
  size := 4
  cells _ _ x cs := cs = [.int .i64 x.1, .int .i64 x.2.1, .int .i64 x.2.2.1, .int .i64 x.2.2.2] ∧ (Lit.int .i64 x.2.2.1).wf = true
  length h := by rw [h.1]; rfl
  stays _ h := h
  more _ h := h
theorem opens_pstep : Opens Try.prog repSP 50 := by
  have h : Opens Try.prog (((Rep.int .i64).pair ((Rep.int .i64).pair ((Rep.int .i64).pair ((Rep.int .i64).pair Rep.unit))))) 50 := opens_struct Try.underlying50 (by kernel_rfl)
    (opensAt_cons rfl (by kernel_rfl) (opens_int Try.underlying3) (opensAt_cons rfl (by kernel_rfl) (opens_int Try.underlying3) (opensAt_cons rfl (by kernel_rfl) (opens_int Try.underlying3) (opensAt_cons rfl (by kernel_rfl) (opens_int Try.underlying2) opensAt_nil))))
  intro H enc w fuel cs y hy
  obtain ⟨x, hx⟩ := h H enc w fuel cs y hy
  obtain ⟨_, _, rfl, ⟨rfl, h1⟩, _, _, rfl, ⟨rfl, h2⟩, _, _, rfl, ⟨rfl, h3⟩, _, _, rfl, ⟨rfl, h4⟩, rfl⟩ := hx
  exact ⟨⟨x.1, x.2.1, x.2.2.1, x.2.2.2.1⟩, rfl, h3⟩
theorem pstep_at {w : World} {B : Nat} {A : Option Addr} {n c : Nat} {l : List (Int × Int × Int × Int)} (h : SliceOf repSP w B A n c l) (hn : 0 < n) :
    ∃ b o, A = some ⟨b, o, none⟩ ∧ b < B ∧ ∀ i (h : i < l.length), (w.cell? ⟨b, o + i * 4, none⟩ = some (.int .i64 l[i].1) ∧ w.cell? ⟨b, o + i * 4 + 1, none⟩ = some (.int .i64 l[i].2.1) ∧ w.cell? ⟨b, o + i * 4 + 2, none⟩ = some (.int .i64 l[i].2.2.1) ∧ w.cell? ⟨b, o + i * 4 + 3, none⟩ = some (.int .i64 l[i].2.2.2)) ∧ (Lit.int .i64 l[i].2.2.1).wf = true := by
  obtain ⟨b, o, e, hb, hc⟩ := h.get hn
  refine ⟨b, o, e, hb, fun i hi => ?_⟩
  obtain ⟨es, g1, g2, g3⟩ := hc i hi
  subst g2
  exact ⟨⟨g1 0 (by decide), g1 1 (by decide), g1 2 (by decide), g1 3 (by decide)⟩, g3⟩
theorem repA_wf {w : World} {B : Nat} {A : Option Addr} {n c : Nat} {l : List Lane} (h : SliceOf repA w B A n c l) : ∀ L ∈ l, ∀ q ∈ L.waits, (Lit.int .i64 q.1).wf = true := by
  intro L hL
  obtain ⟨i, hi, rfl⟩ := List.mem_iff_getElem.1 hL
  obtain ⟨b, o, e, hb, hc⟩ := h.get (by have := h.1; omega)
  obtain ⟨es, _, Av, cv, Aw, cw, _, _, _, g⟩ := hc i hi
  exact g
theorem lay_inv {room : Int} {Ls : List Lane} {cur : Int} (h : layPErr room Ls cur = 0) : (1 ≤ Ls.length ∧ Ls.length ≤ 9 ∧ 1 ≤ room ∧ room ≤ 64) ∧ (0 ≤ cur ∧ cur < (Ls.length : Int)) ∧ ∀ L ∈ Ls, MayL room L := by
  have h1 : 1 ≤ Ls.length ∧ Ls.length ≤ 9 ∧ 1 ≤ room ∧ room ≤ 64 := Decidable.byContradiction fun g => by rw [layP_arg g] at h; cases h
  have h2 : 0 ≤ cur ∧ cur < (Ls.length : Int) := Decidable.byContradiction fun g => by rw [layP_range h1 g] at h; cases h
  have h3 : ∀ L ∈ Ls, MayL room L := Decidable.byContradiction fun g => by rw [layP_form h1 h2 g] at h; cases h
  exact ⟨h1, h2, h3⟩
theorem waits_bulk {Ls : List Lane} {k : Nat} (h : ∀ L ∈ Ls, L.waits.length ≤ k) : waitsAll Ls ≤ Ls.length * k := by
  unfold waitsAll
  induction Ls with
  | nil => simp
  | cons L Ls ih =>
    have h1 := h L (by simp)
    have h2 := ih (fun L hL => h L (by simp [hL]))
    simp only [List.flatMap_cons, List.length_append, List.length_cons, Nat.add_mul, Nat.one_mul]
    omega
theorem OkP.laid {room : Int} {Ls : List Lane} {cur : Int} (h : layPErr room Ls cur = 0) (hwf : ∀ L ∈ Ls, ∀ q ∈ L.waits, (Lit.int .i64 q.1).wf = true) (hw : ∀ L ∈ Ls, L.waits.length ≤ 4096) : OkP room 36864 (Ls.map (setRoom room)) cur := by
  obtain ⟨h1, h2, h3⟩ := lay_inv h
  refine ⟨by rw [List.length_map]; exact ⟨h1.1, h1.2.1⟩, by rw [List.length_map]; exact h2, h1.2.2, fun L hL => ?_, ?_⟩
  · obtain ⟨L0, hL0, rfl⟩ := List.mem_map.1 hL
    exact ⟨⟨h1.2.2, h3 L0 hL0, hwf L0 hL0, by show L0.waits.length ≤ 36864; have := hw L0 hL0; omega⟩, rfl⟩
  · have := waits_bulk (Ls := Ls.map (setRoom room)) (k := 4096) (fun L hL => by obtain ⟨L0, hL0, rfl⟩ := List.mem_map.1 hL; exact hw L0 hL0)
    rw [List.length_map] at this
    omega
theorem OkP.lays {room : Int} {M : Nat} {Ls : List Lane} {cur : Int} (h : OkP room M Ls cur) : layPErr room Ls cur = 0 := layP_ok ⟨h.len.1, h.len.2, h.rm⟩ h.cur fun L hL => by have := (h.ok L hL).1.may; rw [(h.ok L hL).2] at this; exact this
theorem OkP.same_room {room : Int} {M : Nat} {Ls : List Lane} {cur : Int} (h : OkP room M Ls cur) : Ls.map (setRoom room) = Ls := by
  have : ∀ L ∈ Ls, setRoom room L = L := fun L hL => by unfold setRoom; rw [← (h.ok L hL).2]
  exact (List.map_congr_left this).trans (List.map_id' Ls)
section
variable {w : World} {A : Option Addr} {n c : Nat} {Ls : List Lane} {S : Option Addr} {sn sc : Nat} {l : List (Int × Int × Int × Int)}
set_option maxRecDepth 100000 in
set_option maxHeartbeats 8000000 in
theorem pdoes_walk (room cur : Int) (hl : SliceOf repA w w.heap.size A n c Ls) (hs : SliceOf repSP w w.heap.size S sn sc l) (hsn : sn * 32 ≤ 140737488351232) :
    Calls Try.prog 4 #[.int .i64 room, .slice A n c, .int .i64 cur, .slice S sn sc] w fun e w' => e = .returned (.bool true) ∧ New w w' := by
  have hb := hl.bound
  have hbs := hs.bound
  have HFIX := Lib.hid (fun W => fixed_any W)
  have HWF := Lib.hid (repA_wf hl)
  have HSL := Lib.hid (fun W (hW : New w W) => (repA_T hl).kept hW (Nat.le_refl _) fun _ _ h => h)
  have HSC := Lib.hid (fun W (hW : New w W) => hs.kept hW (Nat.le_refl _) fun _ _ h => h)
  have HLG := Lib.hid (fun W (hW : New w W) => long_any ((repA_T hl).kept hW (Nat.le_refl _) fun _ _ h => h))
  have HLN := Lib.hid hl.len
  have HLL := Lib.hid hs.len
  clear hl hs
  go_enter Try.func4, Try.ntmps4
  go_wp2_with fail
  refine (HFIX.out _).mono ?_
  rintro e w1 ⟨rfl, hn1⟩
  go_wp2_with fail
  refine (HLG.out _ hn1).mono ?_
  rintro e w' ⟨rfl, rfl⟩
  by_cases hlong : longP Ls = true
  · rw [hlong]
    go_wp2_with fail
    go_ret
    exact ⟨by rfl, hn1⟩
  have hlong2 := eq_false_of_ne_true hlong
  rw [hlong2]
  have hfw : ∀ L ∈ Ls, L.vals.length ≤ 1048576 ∧ L.waits.length ≤ 4096 := fun L hL => by
    have := of_decide_eq_false hlong2
    refine ⟨Nat.le_of_not_lt fun h => this (.inl ⟨L, hL, .inl h⟩), Nat.le_of_not_lt fun h => this (.inl ⟨L, hL, .inr h⟩)⟩
  have hn20 : n ≤ 1048576 := Nat.le_of_not_lt fun h => of_decide_eq_false hlong2 (.inr (by rw [← HLN.out]; exact h))
  have n2 : New w1 (w1.alloc (.cells #[] 29)) := (Kept.refl _ _).alloc _
  have hnw := hn1.trans n2
  have hos : OSl tellO (w1.alloc (.cells #[] 29)) (fun k => w.heap.size ≤ k ∧ k < (w1.alloc (.cells #[] 29)).heap.size) (some ⟨w1.heap.size, 0, none⟩) 0 0 [] := ⟨none, [], fun _ _ => False, ⟨rfl, .inl ⟨rfl, rfl, rfl⟩⟩, rfl, by simp, by simp, by simp, fun i hi => absurd hi (Nat.not_lt_zero _)⟩
  have HOS := Lib.hid hos
  have HNW := Lib.hid hnw
  have HFW := Lib.hid hfw
  clear hos hnw hfw
  clear hlong hlong2 n2
  go_upto_region 5 with (fail)
  generalize w1.alloc (.cells #[] 29) = w2 at *
  generalize w1.heap.size = g1 at *
  clear hn1
  go_wp2_with fail
  go_loopw [10, 11] (fun s12 s wr => ∃ (i : Nat) (D : Option Addr) (d : Nat), i ≤ n ∧ i ≤ 20 ∧ s = .int .i64 i ∧ s12 = .slice D i d ∧ OSl tellO wr (fun k => w.heap.size ≤ k ∧ k < wr.heap.size) D i d (Ls.take i) ∧ New w wr) (fun _ s _ => (n - intOf s).toNat)
  case atStart => exact ⟨0, _, 0, Nat.zero_le _, by omega, rfl, rfl, by simpa using HOS.out, HNW.out⟩
  case round =>
    obtain ⟨i, D, d, hi, hi20, rfl, rfl, ho, hnr⟩ := hrel
    by_cases hlt : i < n ∧ i < 20
    · obtain ⟨hlt, hlt2⟩ := hlt
      have hil : i < Ls.length := by rw [← HLN.out]; exact hlt
      obtain ⟨g, o, rfl, -, hat⟩ := lanes_at (HSL.out wr hnr) (by omega)
      obtain ⟨Av, cv, Aw, cw, ⟨y0, y1, y2, y3⟩, hv, hw⟩ := hat i hil
      have hfi := HFW.out _ (List.getElem_mem hil)
      have hco := copy_any hv hw hnr.size (by omega) (by omega)
      have HTK := Lib.hid (List.take_succ_eq_append_getElem hil)
      obtain ⟨L, hL⟩ : ∃ L, L = Ls[i] := ⟨_, rfl⟩
      rw [← hL] at HTK y0 y1 y2 y3 hco hfi
      unfold stC at hco
      have hsz := hnr.size
      have HCO := Lib.hid hco
      have HO := Lib.hid ho
      have HNR := Lib.hid hnr
      have HL := Lib.hid hL
      clear hco ho hnr hL
      clear hat hv hw
      go_wp2_with fail
      refine HCO.out.mono ?_
      rintro e w3 ⟨rv, A3, c3, rw, D3, d3, rfl, ht, hn3⟩
      have hown := ht.own
      have ho2 := HO.out.new hn3
      have hlv := ht.vals.lt (by decide)
      have hlw := ht.waits.lt (by decide)
      have hfv := ht.fv
      have hfw := ht.fw
      obtain ⟨r0, xs, hrow, hrF, hpush⟩ := ho2.rows
      have hn2' := HNR.out.trans hn3
      unfold tellC at hown
      generalize L.vals.length = nv at *
      generalize L.waits.length = nw at *
      have HZ2 := Lib.hid hn3.size
      have hrow : Row w3 4 r0 D i d xs := hrow
      have HPUSH := Lib.hid (fun w' r' A' c' x cs Fx F' => @hpush w' r' A' c' x cs Fx F')
      have HOWN := Lib.hid hown
      have HROW := Lib.hid hrow
      have HRF := Lib.hid hrF
      have HN2' := Lib.hid hn2'
      have HLV := Lib.hid hlv
      have HLW := Lib.hid hlw
      have HFV := Lib.hid hfv
      have HFWW := Lib.hid hfw
      clear hown hrow hrF hn2' hlv hlw hfv hfw
      clear ho2 ht hn3 hpush y0 y1 y2 y3
      go_wp2_with (at_builtin; refine wpList_append_one (cs := [.slice A3 nv c3, .slice D3 nw d3, .int .i64 L.taken, .int .i64 L.dropped]) tyLanes rfl (.tmp 42) (.tmp 48) rfl rfl HROW.out rfl rfl rfl (by simp [Value.oneCell']) (by unfold maxLen; omega) (by omega) ?_; intro r4 A4 c4 w4 hr4 hk4 hn4; have HR3 := Lib.hid hr4; have HK3 := Lib.hid hk4; have HN3 := Lib.hid hn4; clear hr4 hk4 hn4)
      go_roundw
      case rel =>
        have hs3 := HK3.out.size
        have hl3 := HR3.out.lt (by decide)
        have hz := HZ2.out
        refine ⟨i + 1, A4, c4, by omega, by omega, by go_num, rfl, ?_, HN2'.out.step HK3.out fun k hk e => ?_⟩
        · rw [HTK.out]
          refine HPUSH.out w4 r4 A4 c4 L _ (fun k => rv = some k ∨ rw = some k) (fun k => w.heap.size ≤ k ∧ k < w4.heap.size) HR3.out HK3.out HN3.out (fun k e => Nat.lt_of_lt_of_le e.2 hz) HOWN.out (fun k e => ?_) (fun k e => ⟨e.1, by omega⟩) (fun k e => ?_) (fun k e => ⟨?_, hl3 k e⟩)
          · rcases e with e | e
            · exact ⟨fun h => by have := HFV.out k e; omega, HLV.out k e⟩
            · exact ⟨fun h => by have := HFWW.out k e; omega, HLW.out k e⟩
          · rcases e with e | e
            · have := HFV.out k e; have := HLV.out k e; exact ⟨by omega, by omega⟩
            · have := HFWW.out k e; have := HLW.out k e; exact ⟨by omega, by omega⟩
          · rcases HN3.out k e with h | h
            · exact (HRF.out k h).1
            · omega
        · exact absurd (HRF.out k e).1 (Nat.not_le.2 hk)
      case measure => simp [intOf]; omega
    · obtain ⟨wq, hwq⟩ : ∃ wq, wq = wr := ⟨_, rfl⟩
      subst hwq
      have hsm : ∀ L ∈ Ls, L.vals.length ≤ 8000000000000 ∧ L.waits.length ≤ 8000000000000 := fun L hL => by have := HFW.out L hL; exact ⟨by omega, by omega⟩
      have HLP := Lib.hid (play_any (Ls := Ls.take i) room cur (ho.read tell_reads) (Nat.le_refl _) (fun L hL => HWF.out L (List.mem_of_mem_take hL)) (fun L hL => hsm L (List.mem_of_mem_take hL)))
      have HRP := Lib.hid (fun W (hW : New w W) => rplay_any room cur (HSL.out W hW) hW.size hsm)
      have HSP := Lib.hid (fun W (hW : New wq W) => pspoil_any (ho.new hW) (fun L hL => hsm L (List.mem_of_mem_take hL)) (by omega))
      have hlpb : (i : Int) < (n : Int) → ¬ ((i : Int) < 20) := fun h1 h2 => hlt ⟨by omega, by omega⟩
      have HO := Lib.hid ho
      have HNR := Lib.hid hnr
      have HSM := Lib.hid hsm
      clear ho hnr hsm
      by_cases hin : i < n
      · obtain rfl : i = 20 := by omega
        have E1 := Lib.hid (layP_arg (room := room) (cur := cur) (Ls := Ls.take 20) (by rw [List.length_take, ← HLN.out]; omega))
        have E2 := Lib.hid (layP_arg (room := room) (cur := cur) (Ls := Ls) (by rw [← HLN.out]; omega))
        have HPN := Lib.hid (fun W => pnew_any (n : Int) room W)
        have HRN := Lib.hid (fun W => rpnew_any (n : Int) room W)
        have hbig : ¬ (1 ≤ (n : Int) ∧ (n : Int) ≤ 9 ∧ 1 ≤ room ∧ room ≤ 64) := by omega
        have HBIG := Lib.hid hbig
        clear hbig
        clear hlpb hlt
        go_wp2_with fail
        refine HLP.out.mono ?_
        rintro e w3 ⟨hn3, ⟨h0, -⟩ | ⟨h0, rfl⟩⟩
        · rw [E1.out] at h0; cases h0
        rw [E1.out]
        have HN3 := Lib.hid hn3
        clear h0 hn3
        go_wp2_with fail
        refine (HRP.out _ (HNR.out.trans HN3.out)).mono ?_
        rintro e w4 ⟨hn4, ⟨h0, -⟩ | ⟨h0, rfl⟩⟩
        · rw [E2.out] at h0; cases h0
        rw [E2.out]
        have HN4 := Lib.hid (HN3.out.trans hn4)
        clear h0 hn4
        go_wp2_with fail
        refine (HSP.out _ HN4.out).mono ?_
        rintro e w5 ⟨rfl, hk5⟩
        have HN5 := Lib.hid ((HNR.out.trans HN4.out).step hk5 fun k hk e => by omega)
        clear hk5
        go_wp2_with fail
        refine (HPN.out _).mono ?_
        rintro e w6 ⟨hn6, ⟨h0, -⟩ | ⟨h0, rfl⟩⟩
        · exact absurd h0 HBIG.out
        have HN6 := Lib.hid (HN5.out.trans hn6)
        clear h0 hn6
        go_wp2_with fail
        refine (HRN.out _).mono ?_
        rintro e w7 ⟨hn7, ⟨h0, -⟩ | ⟨h0, rfl⟩⟩
        · exact absurd h0 HBIG.out
        have HN7 := Lib.hid (HN6.out.trans hn7)
        clear h0 hn7
        go_wp2_with fail
        go_ret
        exact ⟨by rfl, HN7.out⟩
      · obtain rfl : i = n := by omega
        have hT : Ls.take i = Ls := by rw [HLN.out, List.take_length]
        rw [hT] at HLP HO
        have HPN := Lib.hid (fun W => pnew_any (i : Int) room W)
        have HRN := Lib.hid (fun W => rpnew_any (i : Int) room W)
        have HSAME := Lib.hid (fun W (hW : New wq W) => psame_any ((HO.out.new hW).read tell_reads) ((HSL.out W (HNR.out.trans hW)).more (HNR.out.trans hW).size) (Nat.le_refl _))
        have hi20' : (i : Int) ≤ 20 := by omega
        clear hlpb hlt hin hi hi20 hT
        go_wp2_with fail
        refine HLP.out.mono ?_
        rintro e w3 ⟨hn3, h3⟩
        have HN3 := Lib.hid hn3
        have hrp := HRP.out w3 (HNR.out.trans hn3)
        clear hn3
        rcases h3 with ⟨h0, b, F, rfl, hF, hfF⟩ | ⟨h0, rfl⟩
        · have he0 : layPErr room Ls cur = 0 := h0
          have hok0 := OkP.laid he0 HWF.out (fun L hL => (HFW.out L hL).2)
          unfold LayPostP at hrp
          rw [he0] at hrp
          have hinv := (lay_inv he0).1
          rw [← HLN.out] at hinv
          have hnb : 1 ≤ (i : Int) ∧ (i : Int) ≤ 9 ∧ 1 ≤ room ∧ room ≤ 64 := ⟨by omega, by omega, hinv.2.2.1, hinv.2.2.2⟩
          have hFlt := hF.lt
          have HRP_ := Lib.hid hrp
          have HNB := Lib.hid hnb
          have HFLT := Lib.hid hFlt
          have HF := Lib.hid hF
          have HFF := Lib.hid hfF
          have HOK0 := Lib.hid hok0
          clear hrp hnb hFlt hF hfF hok0
          clear he0 h0 hinv
          go_wp2_with fail
          refine HRP_.out.mono ?_
          rintro e w4 ⟨hn4, ⟨-, c1, G, rfl, hG, hfG⟩ | ⟨h0', -⟩⟩
          · have HN4 := Lib.hid (HN3.out.trans hn4)
            have HF4 := Lib.hid (HF.out.new hn4)
            have HG := Lib.hid hG
            have HFG := Lib.hid hfG
            clear hG hfG
            clear hn4
            go_wp2_with fail
            refine (HSAME.out _ HN4.out).mono ?_
            rintro e w5 ⟨rfl, hn5⟩
            have HN5 := Lib.hid (HN4.out.trans hn5)
            have HF5 := Lib.hid (HF4.out.new hn5)
            have HG5 := Lib.hid (HG.out.new hn5)
            clear hn5
            go_wp2_with fail
            refine (HSP.out _ HN5.out).mono ?_
            rintro e w6 ⟨rfl, hk6⟩
            have hs3 := HN3.out.size
            have hsq := HNR.out.size
            have hboth : BothP w w6 b c1 (Ls.map (setRoom room)) cur (Ls.map (setRoom room)) cur :=
              ⟨F, G, HF5.out.kept hk6 (fun k e e' => by have := HFF.out k e; omega), HG5.out.kept hk6 (fun k e e' => by have := HFG.out k e; omega), fun k e => by have := HFF.out k e; omega, fun k e => by have := HFG.out k e; omega,
                fun k e e' => by have := HFLT.out k e; have := HFG.out k e'; omega, (HNR.out.trans HN5.out).step hk6 (fun k hk e => by omega), fun _ _ h => h, fun _ h => h.elim⟩
            have HBB := Lib.hid hboth
            clear hk6 hs3 hsq hboth
            go_wp2_with fail
            refine (HPN.out _).mono ?_
            rintro e w7 ⟨hn7, ⟨-, b7, F7, rfl, -⟩ | ⟨h7, -⟩⟩
            · have HB7 := Lib.hid (HBB.out.new hn7)
              clear hn7
              go_wp2_with fail
              refine (HRN.out _).mono ?_
              rintro e w8 ⟨hn8, ⟨-, b8, F8, rfl, -⟩ | ⟨h8, -⟩⟩
              · have HB8 := Lib.hid (HB7.out.new hn8)
                clear hn8
                have hsn2 : sn ≤ 4398046511104 := by omega
                generalize Ls.map (setRoom room) = L0 at *
                clear HPN HRN HSAME HSP HLP HRP HSL HFIX HLG HO HNR HN3 HN4 HN5 HF4 HF5 HG5 HB7 HBB HFLT HF HFF HG HFG HWF HFW HOS HNW
                go_wp2_with fail
                go_loopw [12, 21] (fun s12 s21 wr => ∃ (k b : Nat) (L' : List Lane) (cu : Int), k ≤ sn ∧ s12 = .pointer (some ⟨b, 0, none⟩) ∧ s21 = .int .i64 k ∧ BothP w wr b c1 L' cu L' cu ∧ OkP room (36864 + k) L' cu) (fun _ s _ => (sn - intOf s).toNat)
                case atStart => exact ⟨0, b, L0, cur, Nat.zero_le _, rfl, rfl, HB8.out, HOK0.out⟩
                case round =>
                  obtain ⟨k, b1, L', cu, hk, rfl, rfl, hbt, hok'⟩ := hrel
                  by_cases hlt : k < sn
                  · have hil : k < l.length := by rw [← HLL.out]; exact hlt
                    have HRD : Hid (∃ g o, S = some ⟨g, o, none⟩ ∧ (Lit.int .i64 l[k].2.2.1).wf = true ∧ ∀ W, New w W → W.cell? ⟨g, o + k * 4, none⟩ = some (.int .i64 l[k].1) ∧ W.cell? ⟨g, o + k * 4 + 1, none⟩ = some (.int .i64 l[k].2.1) ∧ W.cell? ⟨g, o + k * 4 + 2, none⟩ = some (.int .i64 l[k].2.2.1) ∧ W.cell? ⟨g, o + k * 4 + 3, none⟩ = some (.int .i64 l[k].2.2.2)) := Lib.hid (by
                      obtain ⟨g, o, e, -, hc⟩ := pstep_at (HSC.out w (Kept.refl _ _)) (by omega)
                      refine ⟨g, o, e, (hc k hil).2, fun W hW => ?_⟩
                      obtain ⟨g', o', e', -, hc'⟩ := pstep_at (HSC.out W hW) (by omega)
                      rw [e] at e'
                      injection e' with e'
                      injection e' with e1 e2
                      subst e1; subst e2
                      exact (hc' k hil).1)
                    obtain ⟨g, o, rfl, hwfp, hcl⟩ := HRD.out
                    clear HRD
                    have hMM : 36864 + k ≤ 8000000000000 := by omega
                    generalize l[k].1 = kk at *
                    generalize l[k].2.1 = lx at *
                    generalize l[k].2.2.1 = p at *
                    generalize l[k].2.2.2 = v at *
                    have HCL := Lib.hid hcl
                    obtain ⟨x0, x1, x2, x3⟩ := hcl wr hbt.fresh
                    have HOK_ := Lib.hid hok'
                    have HWFP := Lib.hid hwfp
                    clear hok' hwfp
                    clear hcl hil
                    by_cases hk7 : kk = 7
                    · subst hk7
                      obtain ⟨F1, G1, hF1, hG1, hf1, hg1, hd1, hn1', -, -⟩ := hbt
                      have HSTT := Lib.hid (pstate_any hF1 (by have := HOK_.out.len; omega) (HOK_.out.small hMM))
                      have HLAY := Lib.hid (fun W A n c (h : SliceOf repT W W.heap.size A n c L') => play_any (Ls := L') room cu h (Nat.le_refl _) (fun L hL => (HOK_.out.ok L hL).1.wf) (HOK_.out.small hMM))
                      have HGLT := Lib.hid hG1.lt
                      unfold ToldP at HSTT
                      have HFB1 := Lib.hid hF1
                      have HGB1 := Lib.hid hG1
                      have HFL1 := Lib.hid hf1
                      have HGL1 := Lib.hid hg1
                      have HD1 := Lib.hid hd1
                      have HNW1 := Lib.hid hn1'
                      clear hF1 hG1 hf1 hg1 hd1 hn1'
                      go_wp2_with fail
                      refine HSTT.out.mono ?_
                      rintro e w2' ⟨D5, d5, rfl, ho5, hm5'⟩
                      have HMST := Lib.hid hm5'
                      have HLAY2 := Lib.hid (HLAY.out _ _ _ _ (ho5.read tell_reads))
                      clear hm5' ho5
                      go_wp2_with fail
                      refine HLAY2.out.mono ?_
                      rintro e w3' ⟨hm6', hr6'⟩
                      rcases hr6' with ⟨-, b2, F2, rfl, hF2, hfF2⟩ | ⟨he, -⟩
                      · have hb9 : BothP w w3' b2 c1 L' cu L' cu := by
                          have hk := HMST.out.trans hm6'
                          rw [HOK_.out.same_room] at hF2
                          exact ⟨F2, G1, hF2, HGB1.out.new hk, fun k e => by have := hfF2 k e; have := HNW1.out.size; have := HMST.out.size; omega, HGL1.out, fun k e e' => by have := hfF2 k e; have := HMST.out.size; have := HGLT.out k e'; omega, HNW1.out.trans hk, fun _ _ h => h, fun _ h => h.elim⟩
                        clear x0 x1 x2 x3
                        obtain ⟨x0, x1, x2, x3⟩ := HCL.out w3' hb9.fresh
                        clear hm6' hF2 hfF2
                        have HBQ := Lib.hid hb9
                        clear hb9
                        go_wp2_with fail
                        refine (pstep_any HBQ.out HOK_.out hMM 7 lx p v).mono ?_
                        rintro e w14 ⟨rfl, hb4⟩
                        have hok4 := HOK_.out.step 7 lx p v HWFP.out
                        have HST4 : Hid (Calls Try.prog 18 #[.pointer (some ⟨b2, 0, none⟩), .pointer (some ⟨c1, 0, none⟩)] w14 fun e w' => e = Ending.returned (.bool true) ∧ New w14 w') := Lib.hid (by
                          obtain ⟨F, G, hF, hG, -⟩ := hb4
                          exact pstands_any hF hG hok4.len.2 (hok4.small (by omega)))
                        have HB4 := Lib.hid hb4
                        have HOK4 := Lib.hid hok4
                        clear hb4 hok4
                        go_wp2_with fail
                        refine HST4.out.mono ?_
                        rintro e w15 ⟨rfl, hm5⟩
                        have hb5 := HB4.out.new hm5
                        have HB5 := Lib.hid hb5
                        clear hb5
                        clear hm5
                        go_wp2_with fail
                        go_roundw
                        case rel => exact ⟨k + 1, b2, _, _, by omega, rfl, by go_num, HB5.out, HOK4.out.mono (by omega)⟩
                        case measure => simp [intOf]; omega
                      · exact absurd HOK_.out.lays he
                    · have g7 : (kk == 7) = false := by simpa using hk7
                      clear hk7
                      have hb9 := hbt
                      clear hbt
                      have HBQ := Lib.hid hb9
                      clear hb9
                      go_wp2_with fail
                      refine (pstep_any HBQ.out HOK_.out hMM kk lx p v).mono ?_
                      rintro e w14 ⟨rfl, hb4⟩
                      have hok4 := HOK_.out.step kk lx p v HWFP.out
                      have HST4 : Hid (Calls Try.prog 18 #[.pointer (some ⟨b1, 0, none⟩), .pointer (some ⟨c1, 0, none⟩)] w14 fun e w' => e = Ending.returned (.bool true) ∧ New w14 w') := Lib.hid (by
                        obtain ⟨F, G, hF, hG, -⟩ := hb4
                        exact pstands_any hF hG hok4.len.2 (hok4.small (by omega)))
                      have HB4 := Lib.hid hb4
                      have HOK4 := Lib.hid hok4
                      clear hb4 hok4
                      go_wp2_with fail
                      refine HST4.out.mono ?_
                      rintro e w15 ⟨rfl, hm5⟩
                      have hb5 := HB4.out.new hm5
                      have HB5 := Lib.hid hb5
                      clear hb5
                      clear hm5
                      go_wp2_with fail
                      go_roundw
                      case rel => exact ⟨k + 1, b1, _, _, by omega, rfl, by go_num, HB5.out, HOK4.out.mono (by omega)⟩
                      case measure => simp [intOf]; omega
                  · obtain rfl : k = sn := by omega
                    have HST4 : Hid (Calls Try.prog 18 #[.pointer (some ⟨b1, 0, none⟩), .pointer (some ⟨c1, 0, none⟩)] wr fun e w' => e = Ending.returned (.bool true) ∧ New wr w') := Lib.hid (by
                      obtain ⟨F, G, hF, hG, -⟩ := hbt
                      exact pstands_any hF hG hok'.len.2 (hok'.small (by omega)))
                    have HF9 := Lib.hid hbt.fresh
                    clear hbt hok'
                    go_wp2_with fail
                    refine HST4.out.mono ?_
                    rintro e w15 ⟨rfl, hm5⟩
                    have HFIN := Lib.hid (HF9.out.trans hm5)
                    clear hm5
                    go_wp2_with fail
                    go_ret
                    exact ⟨rfl, HFIN.out⟩
              · exact absurd HNB.out h8
            · exact absurd HNB.out h7
          · exact absurd rfl h0'
        · have herr : ¬ layPErr room Ls cur = 0 := h0
          unfold LayPostP at hrp
          generalize layPErr room Ls cur = er at *
          have HRP_ := Lib.hid hrp
          clear hrp
          go_wp2_with fail
          refine HRP_.out.mono ?_
          rintro e w4 ⟨hn4, ⟨h0', -⟩ | ⟨h0', rfl⟩⟩
          · exact absurd h0' herr
          have HN4 := Lib.hid (HN3.out.trans hn4)
          clear h0' hn4
          go_wp2_with fail
          refine (HSAME.out _ HN4.out).mono ?_
          rintro e w5 ⟨rfl, hn5⟩
          have HN5 := Lib.hid (HN4.out.trans hn5)
          clear hn5
          go_wp2_with fail
          refine (HSP.out _ HN5.out).mono ?_
          rintro e w6 ⟨rfl, hk6⟩
          have HN6 := Lib.hid ((HNR.out.trans HN5.out).step hk6 fun k hk e => by omega)
          clear hk6
          go_wp2_with fail
          refine (HPN.out _).mono ?_
          rintro e w7 ⟨hn7, h7⟩
          have HN7 := Lib.hid (HN6.out.trans hn7)
          clear hn7
          rcases h7 with ⟨h7, b7, F7, rfl, -⟩ | ⟨h7, rfl⟩
          · have H7 := Lib.hid h7
            clear h7
            go_wp2_with fail
            refine (HRN.out _).mono ?_
            rintro e w8 ⟨hn8, ⟨-, b8, F8, rfl, -⟩ | ⟨h8, -⟩⟩
            · have HN8 := Lib.hid (HN7.out.trans hn8)
              clear hn8
              go_wp2_with fail
              go_ret
              exact ⟨by rfl, HN8.out⟩
            · exact absurd H7.out h8
          · have H7 := Lib.hid h7
            clear h7
            go_wp2_with fail
            refine (HRN.out _).mono ?_
            rintro e w8 ⟨hn8, ⟨h8, -⟩ | ⟨-, rfl⟩⟩
            · exact absurd h8 H7.out
            · have HN8 := Lib.hid (HN7.out.trans hn8)
              clear hn8
              go_wp2_with fail
              go_ret
              exact ⟨by rfl, HN8.out⟩
end
end Go.Proofs.Ytnfaafdgfafcjaa.Lane
