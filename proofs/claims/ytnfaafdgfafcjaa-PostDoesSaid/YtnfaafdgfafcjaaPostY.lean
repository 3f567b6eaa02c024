/- The walk of firebreaklaw10's PostFair (layer 10). -/
import Derived.Test.YtnfaafdgfafcjaaPostYa
namespace Go.Proofs.Ytnfaafdgfafcjaa.Lane
open Go.RowKit Go.Fb
set_option linter.unusedVariables false
theorem valsV_at {w : World} {B : Nat} {A : Option Addr} {n c : Nat} {l : List Int} (h : SliceOf repV w B A n c l) (hn : 0 < n) : ∃ b o, A = some ⟨b, o, none⟩ ∧ b < B ∧ ∀ i (h : i < l.length), w.cell? ⟨b, o + i, none⟩ = some (.int .i64 l[i]) := by
  obtain ⟨b, o, e, hb, hc⟩ := h.get hn
  refine ⟨b, o, e, hb, fun i hi => ?_⟩
  obtain ⟨es, g1, g2⟩ := hc i hi
  have := g1 0 (Nat.zero_lt_one)
  rw [g2] at this
  simpa [repV] using this
/-- A lane's values alone. -/
def own1 (L : Lane) : Lane := ⟨1, L.vals, [], 0, 0⟩
section
variable {w : World} {A : Option Addr} {n c : Nat} {Ls : List Lane} {M : Option Addr} {mn mc : Nat} {more : List Int}
set_option maxRecDepth 100000 in
set_option maxHeartbeats 8000000 in
theorem fair_walk (room cur which : Int) (hl : SliceOf repT w w.heap.size A n c Ls) (hm : SliceOf (Rep.int .i64) w w.heap.size M mn mc more) (hwf : (Lit.int .i64 which).wf = true) (hmw : ∀ x ∈ more, (Lit.int .i64 x).wf = true) :
    Calls Try.prog 3 #[.int .i64 room, .slice A n c, .int .i64 cur, .int .i64 which, .slice M mn mc] w fun e w' => e = .returned (.bool true) ∧ New w w' := by
  have hb := hl.bound
  have hbm := hm.bound
  have HFIX := Lib.hid (fun W => fixed_any W)
  have HSL := Lib.hid (fun W (hW : New w W) => hl.kept hW (Nat.le_refl _) fun _ _ h => h)
  have HSM := Lib.hid (fun W (hW : New w W) => hm.kept hW (Nat.le_refl _) fun _ _ h => h)
  have HLG := Lib.hid (fun W (hW : New w W) => long_any (hl.kept hW (Nat.le_refl _) fun _ _ h => h))
  have HLN := Lib.hid hl.len
  have HMN := Lib.hid hm.len
  have HMW := Lib.hid hmw
  clear hl hm hmw
  go_enter Try.func3, Try.ntmps3
  go_wp2_with fail
  refine (HFIX.out _).mono ?_
  rintro e w1 ⟨rfl, hn1⟩
  go_wp2_with fail
  refine (HLG.out _ hn1).mono ?_
  rintro e w' ⟨rfl, rfl⟩
  by_cases hlong : longP Ls = true
  · rw [hlong]
    go_wp2_with fail
    go_ret
    exact ⟨by rfl, hn1⟩
  have hlong2 := eq_false_of_ne_true hlong
  rw [hlong2]
  have hfw : ∀ L ∈ Ls, L.vals.length ≤ 1048576 ∧ L.waits.length ≤ 4096 := fun L hL => by
    have := of_decide_eq_false hlong2
    refine ⟨Nat.le_of_not_lt fun h => this (.inl ⟨L, hL, .inl h⟩), Nat.le_of_not_lt fun h => this (.inl ⟨L, hL, .inr h⟩)⟩
  have hn20 : n ≤ 1048576 := Nat.le_of_not_lt fun h => of_decide_eq_false hlong2 (.inr (by rw [← HLN.out]; exact h))
  have n2 : New w1 (w1.alloc (.cells #[] 29)) := (Kept.refl _ _).alloc _
  have hnw := hn1.trans n2
  have hrow0 : Row (w1.alloc (.cells #[] 29)) 4 none (some ⟨w1.heap.size, 0, none⟩) 0 0 [] := ⟨rfl, .inl ⟨rfl, rfl, rfl⟩⟩
  have hos : OSl tellO (w1.alloc (.cells #[] 29)) (fun k => w.heap.size ≤ k ∧ k < (w1.alloc (.cells #[] 29)).heap.size) (some ⟨w1.heap.size, 0, none⟩) 0 0 [] := ⟨none, [], fun _ _ => False, hrow0, rfl, by simp, by simp, by simp, fun i hi => absurd hi (Nat.not_lt_zero _)⟩
  have HOS := Lib.hid hos
  have HNW := Lib.hid hnw
  have HFW := Lib.hid hfw
  clear hos hnw hfw
  clear hlong hlong2 hrow0 n2
  go_upto_region 5 with (fail)
  generalize w1.alloc (.cells #[] 29) = w2 at *
  generalize w1.heap.size = g1 at *
  clear hn1
  go_wp2_with fail
  go_loopw [12, 13] (fun s12 s wr => ∃ (i : Nat) (D : Option Addr) (d : Nat), i ≤ n ∧ i ≤ 20 ∧ s = .int .i64 i ∧ s12 = .slice D i d ∧ OSl tellO wr (fun k => w.heap.size ≤ k ∧ k < wr.heap.size) D i d ((Ls.take i).map own1) ∧ New w wr) (fun _ s _ => (n - intOf s).toNat)
  case atStart => exact ⟨0, _, 0, Nat.zero_le _, by omega, rfl, rfl, by simpa using HOS.out, HNW.out⟩
  case round =>
    obtain ⟨i, D, d, hi, hi20, rfl, rfl, ho, hnr⟩ := hrel
    by_cases hlt : i < n ∧ i < 20
    · obtain ⟨hlt, hlt2⟩ := hlt
      have hil : i < Ls.length := by rw [← HLN.out]; exact hlt
      have k1 : New wr (wr.alloc (.cells #[] 2)) := (Kept.refl _ _).alloc _
      have hsl := HSL.out _ (hnr.trans k1)
      obtain ⟨g, o, rfl, -, hat⟩ := lanes_at hsl (by omega)
      obtain ⟨Av, cv, Aw, cw, ⟨y0, y1, -, -⟩, hv, hw⟩ := hat i hil
      have hbv := hv.bound
      have hrow0 : Row (wr.alloc (.cells #[] 2)) 1 none (some ⟨wr.heap.size, 0, none⟩) 0 0 [] := ⟨rfl, .inl ⟨rfl, rfl, rfl⟩⟩
      have hsrc := vals_src hv
      have HTK := Lib.hid (show (Ls.take (i + 1)).map own1 = (Ls.take i).map own1 ++ [own1 Ls[i]] by rw [List.take_succ_eq_append_getElem hil, List.map_append]; rfl)
      obtain ⟨L, hL⟩ : ∃ L, L = Ls[i] := ⟨_, rfl⟩
      rw [← hL] at HTK y0 hsrc hv hbv
      have hnv : L.vals.length ≤ 1048576 := by rw [hL]; exact (HFW.out _ (List.getElem_mem hil)).1
      have HOW := Lib.hid (fun W r2 A2 c2 (h : Row W 1 r2 A2 L.vals.length c2 (L.vals.map (Value.int .i64))) => (⟨r2, A2, c2, none, none, 0, rfl, h, ⟨rfl, .inl ⟨rfl, rfl, rfl⟩⟩, fun k e => e, by simp, by simp⟩ : tellO.own W (fun k => r2 = some k) (own1 L) [.slice A2 L.vals.length c2, .slice none 0 0, .int .i64 0, .int .i64 0]))
      generalize L.vals.length = nv at *
      have hs1 := hnr.size
      have K1 := Lib.hid k1
      have HROW0 := Lib.hid hrow0
      have HSRC := Lib.hid hsrc
      have HO := Lib.hid ho
      have HNR := Lib.hid hnr
      have HL := Lib.hid hL
      clear k1 hrow0 hsrc ho hnr hL
      clear hat hv hw y1 hsl
      go_wp2_with (first
        | (at_builtin; refine wpList_append_row tyVals rfl (.tmp 43) (.tmp 48) rfl rfl HROW0.out rfl HSRC.out (by unfold maxLen; omega) (by omega) ?_; intro r2 A2 c2 w3 hr2 hk2 hn2; rw [Nat.zero_add, List.nil_append] at hr2; have hm2 : New wr w3 := K1.out.step hk2 (fun i hi e => by cases e); obtain ⟨r0, xs, hrow, hrF, hpush⟩ := (HO.out.new hm2).rows; have HROW := Lib.hid (show Row w3 4 r0 D i d xs from hrow); have HRF := Lib.hid hrF; have HPUSH := Lib.hid (fun w' r' A' c' x cs Fx F' => @hpush w' r' A' c' x cs Fx F'); have HR2 := Lib.hid hr2; have HM2 := Lib.hid hm2; have HN2 := Lib.hid (fun k (e : r2 = some k) => (hn2 k e).resolve_left (by simp)); clear hr2 hk2 hn2 hm2 hrow hrF hpush)
        | (at_builtin; refine wpList_append_one (cs := [.slice A2 nv c2, .slice none 0 0, .int .i64 0, .int .i64 0]) tyLanes rfl (.tmp 42) (.tmp 51) rfl rfl HROW.out rfl rfl rfl (by simp [Value.oneCell']) (by unfold maxLen; omega) (by omega) ?_; intro r3 A3 c3 w4 hr3 hk3 hn3; have HR3 := Lib.hid hr3; have HK3 := Lib.hid hk3; have HN3 := Lib.hid hn3; clear hr3 hk3 hn3))
      go_roundw
      case rel =>
        have hs3 := HK3.out.size
        have hl3 := HR3.out.lt (by decide)
        have hl2 := HR2.out.lt (by decide)
        have hz := HM2.out.size
        have hs2 : wr.heap.size < (wr.alloc (.cells #[] 2)).heap.size := by rw [← size1]; omega
        refine ⟨i + 1, A3, c3, by omega, by omega, by go_num, rfl, ?_, (HNR.out.trans HM2.out).step HK3.out fun k hk e => ?_⟩
        · rw [HTK.out]
          refine HPUSH.out w4 r3 A3 c3 (own1 L) _ (fun k => r2 = some k) (fun k => w.heap.size ≤ k ∧ k < w4.heap.size) HR3.out HK3.out HN3.out (fun k e => Nat.lt_of_lt_of_le e.2 hz) (HOW.out _ _ _ _ HR2.out) (fun k e => ?_) (fun k e => ⟨e.1, by omega⟩) (fun k e => ?_) (fun k e => ⟨?_, hl3 k e⟩)
          · have := HN2.out k e
            exact ⟨fun h => by omega, hl2 k e⟩
          · have := HN2.out k e
            have := hl2 k e
            exact ⟨by omega, by omega⟩
          · rcases HN3.out k e with h | h
            · exact (HRF.out k h).1
            · omega
        · exact absurd (HRF.out k e).1 (Nat.not_le.2 hk)
      case measure => simp [intOf]; omega
    · have HLP := Lib.hid (fun W (hW : New wr W) => play_any (Ls := (Ls.take i).map own1) room cur ((ho.new hW).read tell_reads) (Nat.le_refl _) (fun L hL q hq => by obtain ⟨L0, -, rfl⟩ := List.mem_map.1 hL; cases hq) (fun L hL => by
        obtain ⟨L0, h0, rfl⟩ := List.mem_map.1 hL
        have := HFW.out L0 (List.mem_of_mem_take h0)
        exact ⟨by show L0.vals.length ≤ _; omega, by show 0 ≤ _; omega⟩))
      have hlpb : (i : Int) < (n : Int) → ¬ ((i : Int) < 20) := fun h1 h2 => hlt ⟨by omega, by omega⟩
      have HO := Lib.hid ho
      have HNR := Lib.hid hnr
      clear ho hnr
      by_cases hin : i < n
      · obtain rfl : i = 20 := by omega
        have E := Lib.hid (layP_arg (room := room) (cur := cur) (Ls := (Ls.take 20).map own1) (by rw [List.length_map, List.length_take, ← HLN.out]; omega))
        go_wp2_with fail
        refine (HLP.out _ (Kept.refl _ _)).mono ?_
        rintro e w3 ⟨hn3, ⟨h0, -⟩ | ⟨h0, rfl⟩⟩
        · rw [E.out] at h0; cases h0
        rw [E.out]
        have HN3 := Lib.hid (HNR.out.trans hn3)
        clear h0 hn3
        go_wp2_with fail
        go_ret
        exact ⟨by rfl, HN3.out⟩
      obtain rfl : i = n := by omega
      have hT : Ls.take i = Ls := by rw [HLN.out, List.take_length]
      rw [hT] at HLP
      have hLs : i = (Ls.map own1).length := by rw [List.length_map]; exact HLN.out
      have HARG := Lib.hid (layP_arg (room := room) (cur := cur) (Ls := Ls.map own1))
      have HRG := Lib.hid (layP_range (room := room) (cur := cur) (Ls := Ls.map own1))
      have HFM := Lib.hid (layP_form (room := room) (cur := cur) (Ls := Ls.map own1))
      rw [← hLs] at HARG HRG HFM
      have HLS := Lib.hid hLs
      clear hLs
      clear hlt hlpb hin hi hT HFIX HLG
      go_wp2_with fail
      refine (HLP.out _ (Kept.refl _ _)).mono ?_
      rintro e w3 ⟨hn3, ⟨h0, b, F, rfl, hA, hF⟩ | ⟨h0, rfl⟩⟩
      · have h1 : 1 ≤ i ∧ i ≤ 9 ∧ 1 ≤ room ∧ room ≤ 64 := Decidable.byContradiction fun h => by rw [HARG.out h] at h0; cases h0
        have h2 : 0 ≤ cur ∧ cur < (i : Int) := Decidable.byContradiction fun h => by rw [HRG.out h1 h] at h0; cases h0
        have h3 : ∀ L ∈ Ls.map own1, MayL room L := Decidable.byContradiction fun h => by rw [HFM.out h1 h2 h] at h0; cases h0
        obtain ⟨c0, rfl⟩ : ∃ c0 : Nat, cur = c0 := ⟨cur.toNat, by omega⟩
        have hown : OwnP w w3 b ((Ls.map own1).map (setRoom room)) c0 := ⟨HNR.out.trans hn3, F, hA, fun k e => Nat.le_trans HNR.out.size (hF k e)⟩
        have hfair : ∀ q, q < i → Fair i q (laneAt Ls (q : Int)).vals ((Ls.map own1).map (setRoom room)) c0 0 0 := fun q hq => by
          refine ⟨by rw [List.length_map, ← HLS.out], h1.2.1, by omega, hq, fun L hL => ?_, ?_, ?_⟩
          · obtain ⟨L1, hL1, rfl⟩ := List.mem_map.1 hL
            have hm := h3 L1 hL1
            obtain ⟨L0, hL0, rfl⟩ := List.mem_map.1 hL1
            have h5 := hm.1
            refine ⟨rfl, h1.2.2.2, ?_, by show (0 : Int) ≤ 0; omega, by show (0 : Int) ≤ 65535; omega⟩
            show L0.vals.length ≤ 64
            have : (L0.vals.length : Int) ≤ room := h5
            omega
          · have hql : q < Ls.length := by rw [← HLN.out]; exact hq
            rw [laneAt_eq (by rw [List.length_map, List.length_map]; exact hql), laneAt_eq hql, List.getElem_map, List.getElem_map]
            rfl
          · have : dist c0 q i < i := by unfold dist; split <;> omega
            omega
        obtain ⟨t, ht⟩ : ∃ t, which.tmod (i : Int) = t := ⟨_, rfl⟩
        have htb : -(i : Int) < t ∧ t < (i : Int) := by
          rw [← ht]
          have h5 := Int.tmod_lt_of_pos which (show (0 : Int) < (i : Int) by omega)
          have h6 := Int.tmod_lt_of_pos (-which) (show (0 : Int) < (i : Int) by omega)
          rw [Int.neg_tmod] at h6
          omega
        have hi0 : ¬ i = 0 := by omega
        obtain ⟨h1a, h1b, h1c, h1d⟩ := h1
        have HOWN := Lib.hid hown
        have HFAIR := Lib.hid hfair
        clear hown hfair
        clear HARG HRG HFM h0 h3 hA hF hn3 HLP HO
        have hqq : ∃ q : Nat, q < i ∧ ((t < 0 ∧ IntKind.i64.wrap (t + (i : Int)) = (q : Int)) ∨ (0 ≤ t ∧ t = q)) := by
          by_cases h0 : t < 0
          · exact ⟨(t + (i : Int)).toNat, by omega, .inl ⟨h0, by rw [IntWalk.i64_in _ (by omega)]; omega⟩⟩
          · exact ⟨t.toNat, by omega, .inr ⟨by omega, by omega⟩⟩
        obtain ⟨q, hqi, hqc⟩ := hqq
        have hql : q < Ls.length := by rw [← HLN.out]; exact hqi
        have hfq := HFAIR.out q hqi
        rw [laneAt_eq hql] at hfq
        have k1 : New w3 (w3.alloc (.cells #[] 2)) := (Kept.refl _ _).alloc _
        have hsl := HSL.out _ (HOWN.out.fresh.trans k1)
        obtain ⟨g, o, rfl, -, hat⟩ := lanes_at hsl (by omega)
        obtain ⟨Av, cv, Aw, cw, ⟨y0, y1, -, -⟩, hv, hw⟩ := hat q hql
        have hbv := hv.bound
        have hrow0 : Row (w3.alloc (.cells #[] 2)) 1 none (some ⟨w3.heap.size, 0, none⟩) 0 0 [] := ⟨rfl, .inl ⟨rfl, rfl, rfl⟩⟩
        have hsrc := vals_src hv
        have hl64 : Ls[q].vals.length ≤ 64 := by
          have h5 := hfq.good _ (List.getElem_mem (show q < ((Ls.map own1).map (setRoom room)).length by rw [List.length_map, List.length_map]; exact hql))
          rw [List.getElem_map, List.getElem_map] at h5
          exact h5.2.2.1
        generalize Ls[q].vals = stand at *
        obtain ⟨ln, hln⟩ : ∃ ln, ln = stand.length := ⟨_, rfl⟩
        rw [← hln] at y0 hbv hsrc hl64
        have K1 := Lib.hid k1
        have HROW0 := Lib.hid hrow0
        have HSRC := Lib.hid hsrc
        have HFQ := Lib.hid hfq
        have HLN_ := Lib.hid hln
        clear k1 hrow0 hsrc hfq hln
        clear hat hv hw y1 hsl HFAIR HSL
        rcases hqc with ⟨ht0, ht1⟩ | ⟨ht0, rfl⟩
        all_goals
          go_wp2_with (at_builtin; refine wpList_append_row tyVals rfl (.tmp 88) (.tmp 93) rfl rfl HROW0.out rfl HSRC.out (by unfold maxLen; omega) (by omega) ?_; intro r2 A2 c2 w4 hr2 hk2 hn2; rw [Nat.zero_add, List.nil_append] at hr2; have HM2 := Lib.hid (K1.out.step hk2 (fun i hi e => by cases e) : New w3 w4); have HR2 := Lib.hid hr2; have HD2 := Lib.hid hn2; clear hr2 hk2 hn2)
          have hb4 := HR2.out.bound
          obtain ⟨hn3', F0, hA3, hF0⟩ := HOWN.out
          have hlt3 := hA3.lt
          have hA0 := hA3.new HM2.out
          have hn4 := hn3'.trans HM2.out
          have HF0 := Lib.hid hF0
          have HN4 := Lib.hid hn4
          have HOX : Hid (OwnXP w4 w4 F0 b ((Ls.map own1).map (setRoom room)) c0) := Lib.hid ⟨Kept.refl _ _, F0, hA0, fun k e => .inl e⟩
          have HFR := Lib.hid (fun W (hW : Kept F0 w4 W) => (hn4.step hW (fun k hk e => by have := hF0 k e; omega) : New w W))
          have HST := Lib.hid (fun W (hW : Kept F0 w4 W) => vals_read (HR2.out.of_kept (by decide) hW (fun k e h => by
            have h7 := hlt3 k h
            rcases HD2.out k e with h8 | h8
            · cases h8
            · rw [← size1] at h8; omega)) HLN_.out.symm)
          clear hn4 hn3' hA3 hlt3 hA0 hF0 HOWN HM2 HR2 HD2 K1 HROW0 HSRC HNR HFW HOS HNW
          go_loopw [18, 19] (fun s18 s19 wr => ∃ (got k c' : Nat) (Ls' : List Lane), s18 = .int .i64 got ∧ s19 = .int .i64 k ∧ got ≤ ln ∧ OwnXP w4 wr F0 b Ls' c' ∧ Hid (Fair i q stand Ls' c' got k)) (fun _ s _ => (ln * i - intOf s).toNat)
          case atStart => exact ⟨0, 0, c0, _, rfl, rfl, Nat.zero_le _, HOX.out, HFQ⟩
          case round =>
            obtain ⟨got, k, c', Ls', rfl, rfl, hgl, how, hfa⟩ := hrel
            by_cases hlt : got < ln
            · obtain ⟨p, hp⟩ : ∃ p : Nat, (got + 1) * i = p := ⟨_, rfl⟩
              have hkp : k < p := by have := hfa.out.time; rw [hp] at this; omega
              have hpl : p ≤ ln * i := by rw [← hp]; exact Nat.mul_le_mul_right _ hlt
              have hp9 : p ≤ 64 * 9 := by rw [← hp]; exact Nat.mul_le_mul (by omega) h1b
              have hpi : ((got : Int) + 1) * (i : Int) = (p : Int) := by rw [← hp, Int.natCast_mul]; rfl
              have hkm : k + 1 ≤ 576 := by omega
              have HKP := Lib.hid (show k < ln * i by omega)
              have HOW := Lib.hid how
              have HP := Lib.hid hp
              clear how hp
              clear hpl
              have hpk : decide (p ≤ k) = false := decide_eq_false (by omega)
              go_wp2_with fail
              go_loopw [20] (fun s wr2 => ∃ (k2 : Nat) (L3 : List Lane), s = .int .i64 k2 ∧ k2 ≤ i ∧ OwnXP w4 wr2 F0 b L3 c' ∧ Hid (Fair i q stand L3 c' got k)) (fun s _ => (i - intOf s).toNat)
              case atStart => exact ⟨0, Ls', rfl, Nat.zero_le _, HOW.out, hfa⟩
              case round =>
                obtain ⟨k2, L3, rfl, hk2, how, hfa3⟩ := hrel
                by_cases hlt2 : k2 < i ∧ 0 < mn
                · obtain ⟨hk3, hmn⟩ := hlt2
                  obtain ⟨gm, om, hM, hgm, hcm⟩ := (HSM.out wr (HFR.out _ how.1)).ints hmn
                  obtain ⟨m, hm, hmlt⟩ : ∃ m : Nat, ((k : Int) + (k2 : Int)).tmod (mn : Int) = (m : Int) ∧ m < mn := by
                    refine ⟨(k + k2) % mn, ?_, Nat.mod_lt _ hmn⟩
                    rw [IntWalk.rem_in _ _ (by omega), Int.natCast_emod, Int.natCast_add]
                  have hml : m < more.length := by rw [← HMN.out]; exact hmlt
                  have hcx := hcm m hml
                  have hxb := bounds_i64 (HMW.out _ (List.getElem_mem hml))
                  generalize more[m] = x at *
                  have hsum : IntKind.i64.wrap ((k : Int) + (k2 : Int)) = (k : Int) + (k2 : Int) := IntWalk.i64_in _ (by omega)
                  have hmn0 : ¬ mn = 0 := by omega
                  obtain ⟨lx, hlx⟩ : ∃ lx, x.tmod (i : Int) = lx := ⟨_, rfl⟩
                  have HOWR := Lib.hid how
                  have HPUT := Lib.hid (fun (l : Int) => how.ends (fun F hF => pput_any hF l 99 (fun L hL => by have := (hfa3.out.good L hL).2.2.1; omega)))
                  subst hM
                  clear how hcm
                  by_cases hput : 0 ≤ lx ∧ lx ≠ (q : Int)
                  · obtain ⟨hp0, hp1⟩ := hput
                    have HF4 := Lib.hid (hfa3.out.put lx 99 hp1)
                    have HPL := Lib.hid (HPUT.out lx)
                    clear HPUT
                    go_wp2_with fail
                    refine HPL.out.mono ?_
                    rintro e w6 ⟨rfl, ho6⟩
                    have HO6 := Lib.hid ho6
                    clear ho6
                    go_wp2_with fail
                    go_roundw
                    case rel => exact ⟨k2 + 1, _, by go_num, by omega, HO6.out, HF4⟩
                    case measure => simp [intOf]; omega
                  · have hput2 : 0 ≤ lx → lx = (q : Int) := fun h => Decidable.byContradiction fun h2 => hput ⟨h, h2⟩
                    by_cases hl0 : 0 ≤ lx
                    · obtain rfl : lx = (q : Int) := hput2 hl0
                      clear hput hput2 HPUT
                      go_wp2_with fail
                      go_roundw
                      case rel => exact ⟨k2 + 1, _, by go_num, by omega, HOWR.out, hfa3⟩
                      case measure => simp [intOf]; omega
                    · have hl1 : lx < 0 := by omega
                      clear hput hput2 HPUT
                      go_wp2_with fail
                      go_roundw
                      case rel => exact ⟨k2 + 1, _, by go_num, by omega, HOWR.out, hfa3⟩
                      case measure => simp [intOf]; omega
                · have hend : k2 < i → (mn : Int) ≤ 0 := fun h => by have : ¬ 0 < mn := fun h2 => hlt2 ⟨h, h2⟩; omega
                  have hgot : got < stand.length := by rw [← HLN_.out]; exact hlt
                  obtain ⟨j, v, L5, c5, hE, hj, hje, hjn⟩ := hfa3.out.take hgot
                  have hfl := hfa3.out
                  have HT := Lib.hid (how.ends (fun F hF => ptake_any hF c' rfl (by rw [hfl.len]; exact hfl.cur) (by rw [hfl.len]; exact hfl.few) (fun L hL => by have := (hfl.good L hL).2.2.1; omega) (fun L hL => (hfl.good L hL).2.2.2)))
                  rw [hE] at HT
                  simp only [tookN] at HT
                  have HJE := Lib.hid hje
                  have HJN := Lib.hid hjn
                  clear hE hje hjn hfl how hfa3
                  have hcase : (k2 < i ∧ (mn : Int) ≤ 0) ∨ k2 = i := by
                    by_cases h : k2 < i
                    · exact .inl ⟨h, hend h⟩
                    · exact .inr (by omega)
                  clear hend hlt2
                  rcases hcase with ⟨hk3, hmn⟩ | rfl
                  all_goals
                    go_wp2_with fail
                    refine HT.out.mono ?_
                    rintro e w6 ⟨rfl, ho6⟩
                    have ho7 := ho6.new ((Kept.refl (fun _ => False) w6).alloc (.cells #[.int .i64 0, .int .i64 0] 36))
                    obtain ⟨gs, os, hA2, hgs, hcs⟩ := valsV_at (HST.out _ ho7.1) (by omega)
                    have hcg := hcs got (by rw [← HLN_.out]; exact hlt)
                    have HO7 := Lib.hid ho7
                    subst hA2
                    clear hcs ho6 ho7
                    by_cases hjq : j = q
                    · obtain ⟨hv, hf5⟩ := HJE.out hjq
                      rw [hjq]
                      have HF5 := Lib.hid hf5
                      have hcg2 := hcg
                      rw [← hv] at hcg2
                      clear HJE HJN hf5 hjq HT hcg hv
                      go_wp2_with fail
                      go_roundw
                      case rel => exact ⟨got + 1, k + 1, c5, L5, by go_num, by go_num, hlt, HO7.out, HF5⟩
                      case measure => have := HKP.out; simp [intOf]; omega
                    · have hjq2 : ¬ (j : Int) = (q : Int) := by omega
                      have HF5 := Lib.hid (HJN.out hjq)
                      clear hjq
                      go_wp2_with fail
                      go_roundw
                      case rel => exact ⟨got, k + 1, c5, L5, rfl, by go_num, hgl, HO7.out, HF5⟩
                      case measure => have := HKP.out; simp [intOf]; omega
            · obtain rfl : got = ln := by omega
              have HN := Lib.hid (HFR.out _ how.1)
              clear how
              go_wp2_with fail
              go_ret
              exact ⟨rfl, HN.out⟩
      · have herr : ¬ layPErr room (Ls.map own1) cur = 0 := h0
        generalize layPErr room (Ls.map own1) cur = er at *
        have HN3 := Lib.hid (HNR.out.trans hn3)
        clear hn3
        go_wp2_with fail
        go_ret
        exact ⟨by simp [Array.getD, herr], HN3.out⟩
end
end Go.Proofs.Ytnfaafdgfafcjaa.Lane
