/- The walk of package code's Decode (layer 6). -/
import Derived.Test.YtfffjlcifokdmaaCodeJ
import Derived.Deep.RegionHeld3
namespace Go.Proofs.Ytfffjlcifokdmaa.Code
open Go.RowKit Go.Fb Go.BytesP Go.CodeP Go.ReaderP
set_option linter.unusedVariables false

theorem decode_out (A : Option Addr) (n c : Nat) (bs : List UInt8) (w : World) (hb : SliceOf Rep.byte w w.heap.size A n c bs) (h : 3072 < n ∨ n % 12 ≠ 0) :
    Calls Try.prog 20 #[.slice A n c] w fun e w' => Decd w w' e bs := by
  have hn := hb.len
  have hbd := hb.bound
  by_cases h1 : 3072 < n
  · have e : dec bs = .error (3, 3072) := by unfold dec; rw [if_pos (by omega)]
    have E := Lib.hid e
    have HN := Lib.hid hn
    have HB := Lib.hid hb
    clear e hn hb
    clear h
    go_enter Try.func20, Try.ntmps20
    go_wp2_with fail
    refine bodyPost_ret (results_tmp3 rfl _ _ _) rfl ?_
    exact decd_err E.out (Kept.refl _ _)
  · have e : dec bs = .error (5, n) := by unfold dec; rw [if_neg (by omega), if_pos (by omega), hn]
    have h2 : (((n : Int) % 12) != 0) = true := by rw [bne_iff_ne]; omega
    have E := Lib.hid e
    have HN := Lib.hid hn
    have HB := Lib.hid hb
    clear e hn hb
    clear h
    go_enter Try.func20, Try.ntmps20
    go_wp2_with fail
    refine bodyPost_ret (results_tmp3 rfl _ _ _) rfl ?_
    exact decd_err E.out (Kept.refl _ _)
set_option maxRecDepth 100000 in
set_option maxHeartbeats 1000000 in
theorem decode_in (A : Option Addr) (n c : Nat) (bs : List UInt8) (w : World) (hb : SliceOf Rep.byte w w.heap.size A n c bs) (h : n ≤ 3072) (N : Nat) (hN : n = 12 * N) :
    Calls Try.prog 20 #[.slice A n c] w fun e w' => Decd w w' e bs := by
  subst hN
  have hn := hb.len
  have hbd := hb.bound
  have hd : dec bs = decGo bs N [] 0 N := by
    unfold dec decGo
    rw [if_neg (by omega), if_neg (by omega), show bs.length / 12 = N by omega]
    cases decFrom bs N 0 N <;> rfl
  have h1 : (((12 : Int) * (N : Int)) % 12 != 0) = false := by rw [bne_eq_false_iff_eq]; omega
  have h2 : ((12 : Int) * (N : Int)) / 12 = (N : Int) := by omega
  have HN := Lib.hid hn
  have HB := Lib.hid hb
  have HD := Lib.hid hd
  clear hn hb hd
  go_enter Try.func20, Try.ntmps20
  go_wp2_with fail
  go_loopw [6, 30] (fun v i wr => ∃ (k : Nat) (acc : List Ins) (rr : Option Nat) (AA : Option Addr) (c3 : Nat), k ≤ N ∧ i = .int .i64 k ∧ acc.length = k ∧ v = .slice AA acc.length c3 ∧ Row wr 5 rr AA acc.length c3 (acc.flatMap cellsI) ∧ (∀ g, rr = some g → w.heap.size ≤ g) ∧ dec bs = decGo bs N acc k (N - k) ∧ (∀ x ∈ acc, Wf x) ∧ New w wr) (fun _ i _ => (N - intOf i).toNat)
  case atStart => exact ⟨0, [], none, _, 0, by omega, rfl, rfl, rfl, Row.nil _ _, (by intro g hg; cases hg), HD.out, (by simp), Kept.refl _ _⟩
  case round =>
    obtain ⟨k, acc, rr, AA, c3, hk, rfl, ha, rfl, hrow, hnx, hd2, hwf, hnew⟩ := hrel
    have HA := Lib.hid ha
    have HROW := Lib.hid hrow
    have HNX := Lib.hid hnx
    have HD2 := Lib.hid hd2
    have HWF := Lib.hid hwf
    have HNEW := Lib.hid hnew
    clear ha hrow hnx hd2 hwf hnew
    by_cases hlt : k < N
    · obtain ⟨f, hf⟩ : ∃ f, N - k = f + 1 := ⟨N - k - 1, by omega⟩
      obtain ⟨b, o, rfl, hbw, _⟩ := (HB.out.below HNEW.out.below).get (by omega)
      have hs := (HB.out.below HNEW.out.below).drop (k := 12 * k) (by omega)
      rw [show 12 * k * Rep.byte.size = 12 * k from Nat.mul_one _] at hs
      have hw12 : ((bs.drop (12 * k)).take 12).length = 12 := by rw [List.length_take, List.length_drop]; have := HN.out; omega
      have hl12 : 12 ≤ (bs.drop (12 * k)).length := by rw [List.length_drop]; have := HN.out; omega
      have hwx := wf_get _ hw12
      have hgx := get_bytes hl12
      generalize hsub : bs.drop (12 * k) = sub at *
      obtain ⟨b', o', e', _, hc⟩ := hs.bytes (by omega)
      injection e' with e'
      injection e' with e1 e2
      subst e1; subst e2
      have d0 : wr.cell? ⟨b, o + 12 * k, none⟩ = some (.int .u8 ((sub[0]'(by omega)).toNat : Int)) := hc 0 (by omega)
      have d1 := hc 1 (by omega)
      have d2 := hc 2 (by omega)
      have d3 := hc 3 (by omega)
      have t0 := (sub[0]'(by omega)).toNat_lt
      have t1 := (sub[1]'(by omega)).toNat_lt
      have t2 := (sub[2]'(by omega)).toNat_lt
      have t3 := (sub[3]'(by omega)).toNat_lt
      have HC : Hid (∀ i, i < 8 → ∃ h : 4 + i < sub.length, wr.cell? ⟨b, o + 12 * k + 4 + i, none⟩ = some (.int .u8 (sub[4 + i].toNat : Int))) := Lib.hid fun i hi => ⟨by omega, by rw [Nat.add_assoc]; exact hc (4 + i) (by omega)⟩
      generalize (sub[0]'(by omega)).toNat = x0 at *
      generalize (sub[1]'(by omega)).toNat = x1 at *
      generalize (sub[2]'(by omega)).toNat = x2 at *
      generalize (sub[3]'(by omega)).toNat = x3 at *
      have hcap : ¬ c = 12 * k := by omega
      have hcap2 : ¬ c - 12 * k = 4 := by omega
      have w1 : IntKind.i64.wrap (12 * (k : Int)) = 12 * (k : Int) := IntWalk.i64_in _ (by omega)
      have w2 : (12 * ((k : Int) + 1)).toNat = 12 * k + 12 := by omega
      have hacl : acc.length ≤ 256 := by have := HA.out; omega
      have HF := Lib.hid hf
      have HS := Lib.hid hs
      have HGX := Lib.hid hgx
      have HW12 := Lib.hid hw12
      have HWX := Lib.hid hwx
      have HSUB := Lib.hid hsub
      clear hf hs hgx hw12 hwx hsub
      clear hc
      go_wp2_with fail
      obtain ⟨wo, rfl⟩ : ∃ wo : World, wo = wr := ⟨_, rfl⟩
      go_loop [9, 43] (fun v i => ∃ j : Nat, j ≤ 8 ∧ i = .int .i64 j ∧ v = .int .u64 (numV sub 4 j)) (fun _ i => (8 - intOf i).toNat)
      case atStart => exact ⟨0, by omega, rfl, rfl⟩
      case round =>
        obtain ⟨j, hj, rfl, rfl⟩ := hrel
        by_cases hlj : j < 8
        · obtain ⟨hkl, hcell⟩ := HC.out j hlj
          have hvl := numV_lt sub 4 j
          have hor := or_byte (c := sub[4 + j].toNat) hvl (by omega) sub[4 + j].toNat_lt
          have hsn := numV_snoc hkl
          have hcv := u64_byte sub[4 + j]
          have w5 : IntKind.i64.wrap (8 * (j : Int)) = 8 * (j : Int) := IntWalk.i64_in _ (by omega)
          have HOR := Lib.hid hor
          have HSN := Lib.hid hsn
          clear hor hsn
          clear hvl
          go_wp2
          go_round
          case rel => exact ⟨j + 1, by omega, by go_num, by rw [HSN.out, ← HOR.out]⟩
          case measure => simp [intOf]; omega
        · obtain rfl : j = 8 := by omega
          generalize numV sub 4 8 = v8 at *
          have q0 : IntKind.i64.wrap (x0 : Int) = (x0 : Int) := IntWalk.i64_in _ (by omega)
          have q1 : IntKind.i64.wrap (x1 : Int) = (x1 : Int) := IntWalk.i64_in _ (by omega)
          have q2 : IntKind.i64.wrap (x2 : Int) = (x2 : Int) := IntWalk.i64_in _ (by omega)
          have q3 : IntKind.i64.wrap (x3 : Int) = (x3 : Int) := IntWalk.i64_in _ (by omega)
          have q8 : IntKind.i64.wrap (v8 : Int) = wrap64 v8 := wrap_eq _
          have n0 := World.new_ne wo ⟨b, o + 12 * k, none⟩ d0
          have n1 := World.new_ne wo ⟨b, o + 12 * k + 1, none⟩ d1
          have n2 := World.new_ne wo ⟨b, o + 12 * k + 2, none⟩ d2
          have n3 := World.new_ne wo ⟨b, o + 12 * k + 3, none⟩ d3
          go_wp2_with fail
          go_region_held3 (fun w' => w'.cell? ⟨b, o + 12 * k, none⟩ = some (.int .u8 (x0 : Int)) ∧ w'.cell? ⟨b, o + 12 * k + 1, none⟩ = some (.int .u8 (x1 : Int)) ∧ w'.cell? ⟨b, o + 12 * k + 2, none⟩ = some (.int .u8 (x2 : Int)) ∧ w'.cell? ⟨b, o + 12 * k + 3, none⟩ = some (.int .u8 (x3 : Int))) (go_keep) (fail)
          clear q0 q1 q2 q3 q8 n0 n1 n2 n3 d0 d1 d2 d3 w1 w2
          have hwr := fun W => wrong_any (CodeP.get (sub.take 12)) N 8 W
          have hwx2 := HWX.out
          generalize hx : CodeP.get (sub.take 12) = x at *
          have hxx := HGX.out
          have hget : CodeP.get ((bs.drop (12 * k)).take 12) = x := by rw [HSUB.out]; exact hx
          unfold agg at hwr
          rw [hxx] at hwr
          have hn1 : New w (wo.alloc (.cells #[.int .i64 x0, .int .i64 x1, .int .i64 x2, .int .i64 x3, .int .i64 (wrap64 v8)] 25)).drew := (HNEW.out.alloc _).drew
          by_cases hq : (wrong x N 8).1 = 0
          · have hd3 : dec bs = decGo bs N (acc ++ [x]) (k + 1) (N - (k + 1)) := by rw [HD2.out, HF.out, decGo_ok hget hq, show N - (k + 1) = f by have := HF.out; omega]
            have hq' : ((wrong x N 8).1 != 0) = false := by simpa using hq
            have hcl : cellsI x = [.int .i64 x0, .int .i64 x1, .int .i64 x2, .int .i64 x3, .int .i64 (wrap64 v8)] := by rw [hxx]; rfl
            rw [hxx] at hq'
            rw [hxx] at hd3
            rw [hxx] at hwx2
            subst hxx
            generalize wrong ⟨x0, x1, x2, x3, wrap64 v8⟩ N 8 = m at *
            have HGET := Lib.hid hget
            have HX := Lib.hid hx
            have HWR := Lib.hid hwr
            have HD3 := Lib.hid hd3
            have HCL := Lib.hid hcl
            have HWX2 := Lib.hid hwx2
            have HN1 := Lib.hid hn1
            have HQ := Lib.hid hq
            clear hget hx hwr hd3 hcl hwx2 hn1 hq
            go_wp2_with fail
            refine (HWR.out _).mono ?_
            rintro e w3 ⟨rfl, hw3⟩
            have hxb : Blk w3 wo.heap.size 25 #[.int .i64 x0, .int .i64 x1, .int .i64 x2, .int .i64 x3, .int .i64 (wrap64 v8)] := (show Blk (wo.alloc (.cells #[.int .i64 x0, .int .i64 x1, .int .i64 x2, .int .i64 x3, .int .i64 (wrap64 v8)] 25)).drew _ _ _ from Blk.made wo _ _).kept hw3 id
            have d0 : w3.cell? ⟨wo.heap.size, 0, none⟩ = some (.int .i64 x0) := hxb.cell 0
            have d1 : w3.cell? ⟨wo.heap.size, 1, none⟩ = some (.int .i64 x1) := hxb.cell 1
            have d2 : w3.cell? ⟨wo.heap.size, 2, none⟩ = some (.int .i64 x2) := hxb.cell 2
            have d3 : w3.cell? ⟨wo.heap.size, 3, none⟩ = some (.int .i64 x3) := hxb.cell 3
            have d4 : w3.cell? ⟨wo.heap.size, 4, none⟩ = some (.int .i64 (wrap64 v8)) := hxb.cell 4
            have hk23 : New wo w3 := (((Kept.refl _ _).alloc _).drew).trans hw3
            have hrow3 := HROW.out.new (by decide) hk23
            have hn3 := HNEW.out.trans hk23
            have hs3 := hk23.size
            have HROW3 := Lib.hid hrow3
            have HN3 := Lib.hid hn3
            clear hrow3 hn3
            clear hxb hw3 hk23
            go_wp2_with (at_builtin; refine wpList_append_one (cs := cellsI ⟨x0, x1, x2, x3, wrap64 v8⟩) tyIns rfl _ _ rfl rfl HROW3.out rfl rfl rfl (cellsI_one _) (by unfold maxLen; omega) (by omega) ?_; intro r6 A6 c6 w6 hrow6 hk6 hr6)
            refine ⟨⟨k + 1, acc ++ [⟨x0, x1, x2, x3, wrap64 v8⟩], r6, A6, c6, by omega, by go_num, by simp [HA.out], by simp, ?_, ?_, HD3.out, ?_, HN3.out.step hk6 fun i hi e => by have := HNX.out i e; omega⟩, by simp [intOf]; omega⟩
            · rw [List.length_append, List.flatMap_append, List.flatMap_singleton]; exact hrow6
            · intro g hg
              rcases hr6 g hg with h | h
              · exact HNX.out g h
              · have := HN3.out.size; omega
            · intro y hy
              rcases List.mem_append.1 hy with hy | hy
              · exact HWF.out y hy
              · rw [List.mem_singleton.1 hy]; exact HWX2.out
          · have hd3 : dec bs = .error ((wrong x N 8).1, 12 * k + (wrong x N 8).2) := by rw [HD2.out, HF.out, decGo_err hget hq]
            obtain ⟨g1, g2⟩ := wrong_two x N 8
            have hq' : ((wrong x N 8).1 != 0) = true := by simpa using hq
            rw [hxx] at hq' hd3 g1 g2
            subst hxx
            generalize wrong ⟨x0, x1, x2, x3, wrap64 v8⟩ N 8 = m at *
            have w7 : IntKind.i64.wrap (12 * (k : Int) + m.2) = 12 * (k : Int) + m.2 := IntWalk.i64_in _ (by omega)
            have HGET := Lib.hid hget
            have HX := Lib.hid hx
            have HWR := Lib.hid hwr
            have HD3 := Lib.hid hd3
            have HWX2 := Lib.hid hwx2
            have HN1 := Lib.hid hn1
            have HQ := Lib.hid hq
            clear hget hx hwr hd3 hwx2 hn1 hq
            go_wp2_with fail
            refine (HWR.out _).mono ?_
            rintro e w3 ⟨rfl, hw3⟩
            have hn3 := HN1.out.trans hw3
            have HN3 := Lib.hid hn3
            clear hn3
            clear hw3
            go_wp2_with fail
            refine bodyPost_ret (results_tmp3 rfl _ _ _) rfl ?_
            exact decd_err HD3.out HN3.out
    · obtain rfl : k = N := by omega
      have he : dec bs = .ok acc := by rw [HD2.out, Nat.sub_self]; simp [decGo, decFrom]
      have HE := Lib.hid he
      clear he
      go_wp2_with fail
      refine bodyPost_ret (results_tmp3 rfl _ _ _) rfl ?_
      exact decd_ok HE.out HROW.out HNX.out HWF.out HNEW.out
theorem decode_any (A : Option Addr) (n c : Nat) (bs : List UInt8) (w : World) (hb : SliceOf Rep.byte w w.heap.size A n c bs) : Calls Try.prog 20 #[.slice A n c] w fun e w' => Decd w w' e bs := by
  by_cases h : 3072 < n ∨ n % 12 ≠ 0
  · exact decode_out A n c bs w hb h
  · exact decode_in A n c bs w hb (by omega) (n / 12) (by omega)
end Go.Proofs.Ytfffjlcifokdmaa.Code
