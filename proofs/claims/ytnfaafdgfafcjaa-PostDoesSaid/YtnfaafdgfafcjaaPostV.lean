/- The walk of the reference's Take (layer 10). -/
import Derived.Test.YtnfaafdgfafcjaaPostU
import Derived.Deep.QuietTactic
import Derived.BigQuiet
namespace Go.Proofs.Ytnfaafdgfafcjaa.Lane
open Go.RowKit Go.Fb
set_option linter.unusedVariables false
section
variable {w : World} {b : Nat} {F : Nat → Prop} {Ls : List Lane} {cur : Int}
set_option maxRecDepth 100000 in
set_option maxHeartbeats 4000000 in
theorem rptake_any (h : PAtR w b F Ls cur) (c : Nat) (hc : cur = c) (hcl : c < Ls.length) (hn9 : Ls.length ≤ 9) (hl : ∀ L ∈ Ls, L.vals.length ≤ 1048576) (hw : ∀ L ∈ Ls, L.waits.length ≤ 8000000000000) (ht : ∀ L ∈ Ls, 0 ≤ L.taken ∧ L.taken ≤ 65535) : Calls Try.prog 32 #[.pointer (some ⟨b, 0, none⟩)] w (PEndsR w b F (takeP Ls c).1 (takeP Ls c).2.1 (takeP Ls c).2.2) := by
  have k1 : New w (w.alloc (.cells #[.int .i64 0, .int .i64 0] 36)) := (Kept.refl _ _).alloc _
  have hb1 := Blk.made w 36 #[.int .i64 0, .int .i64 0]
  obtain ⟨⟨r, A, cc, bs, Fs, hp, hf⟩, hlt⟩ := h
  have hbb := hp.row.bound
  have HP := Lib.hid (fun W (hW : New w W) => hp.new hW)
  obtain ⟨n, hn⟩ : ∃ n, n = Ls.length := ⟨_, rfl⟩
  rw [← hn] at hcl hn9 hbb
  subst hc
  have hnp : 0 < n := by omega
  have K1 := Lib.hid k1
  have HB1 := Lib.hid hb1
  have HF := Lib.hid hf
  have HLT := Lib.hid hlt
  have HN := Lib.hid hn
  have HL := Lib.hid hl
  have HW := Lib.hid hw
  have HT_ := Lib.hid ht
  clear k1 hb1 hf hlt hn hl hw ht
  clear hp
  go_enter Try.func32, Try.ntmps32
  go_wp2_with fail
  go_loopw [7] (fun s wr => ∃ k : Nat, k ≤ n ∧ s = .int .i64 k ∧ New (w.alloc (.cells #[.int .i64 0, .int .i64 0] 36)) wr ∧ Hid (∀ j, j < k → fullAt Ls c j = false)) (fun s _ => (n - intOf s).toNat)
  case atStart => exact ⟨0, Nat.zero_le _, rfl, Kept.refl _ _, Lib.hid fun j h => absurd h (Nat.not_lt_zero _)⟩
  case round =>
    obtain ⟨k, hk, rfl, hnew, hno⟩ := hrel
    have hnW := K1.out.trans hnew
    have HPP := Lib.hid (HP.out wr hnW)
    have hb1' := HB1.out.kept hnew id
    have hl1 := hb1'.lt
    have c1 : wr.cell? ⟨b, 1, none⟩ = some (.int .i64 (c : Int)) := HPP.out.blk.cell 1
    have c0 : wr.cell? ⟨b, 0, none⟩ = some (.slice A n cc) := by rw [HN.out]; exact HPP.out.blk.cell 0
    have f1 : wr.frozen? ⟨b, 1, none⟩ = false := HPP.out.blk.free 1
    by_cases hlt : k < n
    · obtain ⟨i, hi⟩ : ∃ i : Nat, ((c : Int) + (k : Int)) % (n : Int) = (i : Int) := ⟨(((c : Int) + (k : Int)) % (n : Int)).toNat, by have := Int.emod_nonneg ((c : Int) + (k : Int)) (show (n : Int) ≠ 0 by omega); omega⟩
      have hi2 : i < n := by have := Int.emod_lt_of_pos ((c : Int) + (k : Int)) (show (0 : Int) < n by omega); omega
      have hil : i < Ls.length := by rw [← HN.out]; exact hi2
      obtain ⟨g, o, rfl, hrg, y0⟩ := HPP.out.cell i hil
      obtain ⟨Av, cv, Aw, cw, -, y1, -, -, -, hv, -⟩ := (HPP.out.lanes i hil).head
      have hbv := hv.bound
      have hfa : fullAt Ls c k = decide (0 < Ls[i].vals.length) := by unfold fullAt; rw [← HN.out, hi, laneAt_eq hil]
      have hwr : IntKind.i64.wrap ((c : Int) + (k : Int)) = (c : Int) + (k : Int) := IntWalk.i64_in _ (by omega)
      have hmt : ((c : Int) + (k : Int)).tmod (n : Int) = (i : Int) := (IntWalk.rem_in _ _ (by omega)).trans hi
      have hnn : ¬ n = 0 := by omega
      have HNX := Lib.hid (fun (hq : fullAt Ls c k = false) j (hj : j < k + 1) => show fullAt Ls c j = false by
        by_cases e : j = k
        · subst e; exact hq
        · exact hno.out j (by omega))
      by_cases hv0 : 0 < Ls[i].vals.length
      · have HT := Lib.hid (takeP_at (by rw [← HN.out]; exact hlt) (hfa.trans (decide_eq_true hv0)) hno.out (by rw [← HN.out]; exact hi) hil)
        rw [← HN.out] at HT
        have htk := fun W hW => rtake_any ((HP.out W hW).lanes i hil) (HL.out _ (List.getElem_mem hil)) (HW.out _ (List.getElem_mem hil)) (HT_.out _ (List.getElem_mem hil))
        rw [take_form] at htk
        unfold takeT at HT
        generalize (takeL Ls[i]).1 = L' at *
        generalize takeV Ls[i] = tv at *
        obtain ⟨m, hm⟩ : ∃ m : Nat, ((i : Int) + 1) % (n : Int) = (m : Int) := ⟨(((i : Int) + 1) % (n : Int)).toNat, by have := Int.emod_nonneg ((i : Int) + 1) (show (n : Int) ≠ 0 by omega); omega⟩
        have hm2 : m < n := by have := Int.emod_lt_of_pos ((i : Int) + 1) (show (0 : Int) < n by omega); omega
        rw [hm] at HT
        have hwr2 : IntKind.i64.wrap ((i : Int) + 1) = (i : Int) + 1 := IntWalk.i64_in _ (by omega)
        have hmt2 : ((i : Int) + 1).tmod (n : Int) = (m : Int) := (IntWalk.rem_in _ _ (by omega)).trans hm
        have hnv : ¬ Ls[i].vals.length = 0 := by omega
        generalize Ls[i].vals.length = nv at *
        simp only [tookV] at htk
        have HI := Lib.hid hi
        have HFA := Lib.hid hfa
        have HNEW := Lib.hid hnew
        have HV0 := Lib.hid hv0
        have HNW := Lib.hid hnW
        have HB1_ := Lib.hid hb1'
        have HM := Lib.hid hm
        have HTK := Lib.hid htk
        have HNO := Lib.hid hno
        clear hi hfa hnew hv0 hnW hb1' hm htk hno
        clear hv HNX
        go_wp2_with fail
        go_quiet (fail)
        go_wp2_with fail
        refine (HTK.out _ (HNW.out.drewN _)).mono ?_
        rintro e w3 ⟨rfl, hL, hk3⟩
        have hk3' : Kept (Fs i) wr w3 := ((Kept.refl (Fs i) wr).drewN _).trans hk3
        have hpp := HPP.out
        have hlt2 : ∀ j k, Fs j k → k < w.heap.size := fun j k e => HLT.out k (HF.out k (.inr (.inr ⟨j, e⟩)))
        have hrl : ∀ k, r = some k → k < w.heap.size := fun k e => HLT.out k (HF.out k (.inr (.inl e)))
        have hbw : b < w.heap.size := HLT.out b (HF.out b (.inl rfl))
        have hp3 := (hpp.step i hil hk3' (show AtT 91 w3 (bs i) (grow (Fs i) wr w3) L' from hL))
        have hb3 := HB1_.out.kept hk3' (fun h => by have := hlt2 i _ h; omega)
        have hF3 : Kept F w w3 := (HNW.out.mono fun _ _ h => h.elim).step hk3' fun k _ e => HF.out k (.inr (.inr ⟨i, e⟩))
        have hs3 := hk3'.size
        have hfs : ∀ j k, (if j = i then grow (Fs i) wr w3 else Fs j) k → Fs j k ∨ (wr.heap.size ≤ k ∧ k < w3.heap.size) := by
          intro j k e
          by_cases c1 : j = i
          · rw [if_pos c1] at e
            rcases e.1 with e' | e'
            · subst c1; exact .inl e'
            · exact .inr ⟨e', e.2⟩
          · rw [if_neg c1] at e; exact .inl e
        clear hL hk3 hk3' hpp c0 c1 f1 y0 y1
        generalize hFs : (fun j => if j = i then grow (Fs i) wr w3 else Fs j) = Fs' at hp3
        replace hfs : ∀ j k, Fs' j k → Fs j k ∨ (wr.heap.size ≤ k ∧ k < w3.heap.size) := fun j k e => hfs j k (by rw [← hFs] at e; exact e)
        clear hFs
        have HP3 := Lib.hid hp3
        have n4 : New w3 (w3.alloc (.cells #[.int .i64 tv.2.1.1, .int .i64 tv.2.1.2] 36)) := (Kept.refl _ _).alloc _
        have hb10 := Blk.made w3 36 #[.int .i64 tv.2.1.1, .int .i64 tv.2.1.2]
        have hp4 := hp3.new n4
        have hb4 := hb3.kept n4 id
        have hF4 := hF3.step n4 fun _ _ h => h.elim
        have hs4 : w3.heap.size < (w3.alloc (.cells #[.int .i64 tv.2.1.1, .int .i64 tv.2.1.2] 36)).heap.size := by rw [← size1]; omega
        go_upto_region 7 with (fail)
        clear hp3 hb3 hF3 n4
        generalize (w3.alloc (.cells #[.int .i64 tv.2.1.1, .int .i64 tv.2.1.2] 36)) = W4 at *
        have c0 : W4.cell? ⟨b, 0, none⟩ = some (.slice (some ⟨g, o, none⟩) n cc) := by have := hp4.blk.cell 0; rw [List.length_set, ← HN.out] at this; exact this
        have c1 : W4.cell? ⟨b, 1, none⟩ = some (.int .i64 (c : Int)) := hp4.blk.cell 1
        have f1 : W4.frozen? ⟨b, 1, none⟩ = false := hp4.blk.free 1
        have hwr3 : w.heap.size < wr.heap.size := hl1
        have hk5 : Kept (fun k => k = b) W4 (W4.setCell ⟨b, 1, none⟩ (.int .i64 (m : Int))) := kept_at (Kept.refl _ W4) 1 _
        have hp5 := hp4.turn (m : Int)
        have hb5 := hb4.kept hk5 (by show ¬ (w.heap.size = b); omega)
        have hb15 := hb10.kept hk5 (by show ¬ (w3.heap.size = b); omega)
        have hF5 := hF4.step hk5 fun k _ e => e ▸ HF.out b (.inl rfl)
        have hs5 := hk5.size
        have HP4 := Lib.hid hp4
        have HB4 := Lib.hid hb4
        have HB10 := Lib.hid hb10
        have HF4 := Lib.hid hF4
        have HK5 := Lib.hid hk5
        have HP5 := Lib.hid hp5
        have HB5 := Lib.hid hb5
        have HB15 := Lib.hid hb15
        have HF5 := Lib.hid hF5
        clear hp4 hb4 hb10 hF4 hk5 hp5 hb5 hb15 hF5
        go_wp2_with fail
        clear HP4 HB4 HB10 HF4 HK5 c0 c1 f1
        go_upto_region 8 with (fail)
        have hp5 := HP5.out
        have hb5 := HB5.out
        have hb15 := HB15.out
        have hF5 := HF5.out
        clear HP5 HB5 HB15 HF5
        generalize W4.setCell ⟨b, 1, none⟩ (.int .i64 (m : Int)) = W5 at *
        have x0 := hb15.cell 0
        have x1 := hb15.cell 1
        have t0 := hb5.cell 0
        have t1 := hb5.cell 1
        have tf := hb5.free
        have hk6 : Kept (fun k => k = w.heap.size) W5 ((W5.setCell ⟨w.heap.size, 0, none⟩ (.int .i64 tv.2.1.1)).setCell ⟨w.heap.size, 1, none⟩ (.int .i64 tv.2.1.2)).drew := (kept_at (kept_at (Kept.refl _ W5) 0 _) 1 _).drew
        have hb6 := ((hb5.set (i := 0) (.int .i64 tv.2.1.1)).set (i := 1) (.int .i64 tv.2.1.2)).kept ((Kept.refl (fun _ => False) _).drew) id
        have hp6 := hp5.kept hk6 (by
          rintro k (e | e | ⟨j, e⟩) e2
          · omega
          · have := hrl k e; omega
          · rcases hfs j k e with e3 | e3
            · have := hlt2 j k e3; omega
            · omega)
        have hF6 := hF5.step hk6 fun k hk e => by omega
        have hb16 := hb15.kept hk6 (by show ¬ (w3.heap.size = w.heap.size); omega)
        have y0 := hb16.cell 0
        have y1 := hb16.cell 1
        have z0 := hb6.cell 0
        have z1 := hb6.cell 1
        have HEND := Lib.hid (PParts.ends2 HLT.out HF.out (fun j k e => (hfs j k e).imp id (fun h => by omega)) hF6 hp6 (tookN tv.1 i tv.2.1 tv.2.2.1 tv.2.2.2))
        have HY := Lib.hid (show ((W5.setCell ⟨w.heap.size, 0, none⟩ (.int .i64 tv.2.1.1)).setCell ⟨w.heap.size, 1, none⟩ (.int .i64 tv.2.1.2)).drew.cell? ⟨w3.heap.size, 0, none⟩ = some (.int .i64 tv.2.1.1) ∧ ((W5.setCell ⟨w.heap.size, 0, none⟩ (.int .i64 tv.2.1.1)).setCell ⟨w.heap.size, 1, none⟩ (.int .i64 tv.2.1.2)).drew.cell? ⟨w3.heap.size, 1, none⟩ = some (.int .i64 tv.2.1.2) from ⟨y0, y1⟩)
        have HK6 := Lib.hid hk6
        have HB6 := Lib.hid hb6
        have HP6 := Lib.hid hp6
        have HF6 := Lib.hid hF6
        have HB16 := Lib.hid hb16
        have Y0 := Lib.hid y0
        have Y1 := Lib.hid y1
        have HP5 := Lib.hid hp5
        have HB5 := Lib.hid hb5
        have HB15 := Lib.hid hb15
        have HF5 := Lib.hid hF5
        clear hk6 hb6 hp6 hF6 hb16 y0 y1 hp5 hb5 hb15 hF5
        go_region_held3 (fun V => V.cell? ⟨w3.heap.size, 0, none⟩ = some (.int .i64 tv.2.1.1) ∧ V.cell? ⟨w3.heap.size, 1, none⟩ = some (.int .i64 tv.2.1.2)) (first | (with_reducible exact HY.out) | go_keep) (fail)
        go_wp2_with fail
        refine bodyPost_ret (v := tookN tv.1 i tv.2.1 tv.2.2.1 tv.2.2.2) (by simp [results, Try.results32, go_sem, tookN, z0, z1]) rfl ?_
        rw [HT.out]
        exact HEND.out
      · have hz : Ls[i].vals.length = 0 := by omega
        have HNX2 := Lib.hid (HNX.out (hfa.trans (decide_eq_false hv0)))
        rw [hz] at y1
        have HI := Lib.hid hi
        have HFA := Lib.hid hfa
        have HNEW := Lib.hid hnew
        have HZ := Lib.hid hz
        have HV0 := Lib.hid hv0
        have HNW := Lib.hid hnW
        have HB1' := Lib.hid hb1'
        clear hi hfa hnew hz hv0 hnW hb1'
        clear hv hbv HNX
        go_wp2_with fail
        go_quiet (fail)
        go_wp2_with fail
        go_roundw
        case rel => exact ⟨k + 1, by omega, by go_num, HNEW.out.drewN _, HNX2⟩
        case measure => simp [intOf]; omega
    · obtain rfl : k = n := by omega
      have E : takeP Ls c = (Ls, (c : Int), tookN 0 0 (0, 0) false 21) := takeP_none fun j hj => hno.out j (by rw [HN.out]; exact hj)
      have d0 := hb1'.cell 0
      have d1 := hb1'.cell 1
      have df := hb1'.free
      have hk6 : Kept (fun k => k = w.heap.size) wr ((wr.setCell ⟨w.heap.size, 0, none⟩ (.int .i64 0)).setCell ⟨w.heap.size, 1, none⟩ (.int .i64 0)) := kept_at (kept_at (Kept.refl _ wr) 0 _) 1 _
      have hb6 := ((hb1'.set (i := 0) (.int .i64 0)).set (i := 1) (.int .i64 0))
      have z0 := hb6.cell 0
      have z1 := hb6.cell 1
      have hk7 : New w _ := hnW.step hk6 fun k hk e => by omega
      have HEND := Lib.hid (PParts.ends2 HLT.out HF.out (fun _ _ e => .inl e) (hk7.mono fun _ _ h => h.elim) (HP.out _ hk7) (tookN 0 0 (0, 0) false 21))
      have HK6 := Lib.hid hk6
      have HB6 := Lib.hid hb6
      have HK7 := Lib.hid hk7
      have HB1' := Lib.hid hb1'
      have E_ := Lib.hid E
      have HNW := Lib.hid hnW
      have HNEW := Lib.hid hnew
      clear hk6 hb6 hk7 hb1' E hnW hnew
      go_wp2_with fail
      refine bodyPost_ret (v := tookN 0 0 (0, 0) false 21) (by simp [results, Try.results32, go_sem, tookN, z0, z1]) rfl ?_
      rw [E_.out]
      exact HEND.out
end
end Go.Proofs.Ytnfaafdgfafcjaa.Lane
