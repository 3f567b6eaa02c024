/- The walk of firebreaklaw09's LaneOrder (layer 9). -/
import Derived.Test.YtnmocdgngkjflaaLaneM
namespace Go.Proofs.Ytnmocdgngkjflaa.Lane
open Go.RowKit Go.Fb
set_option linter.unusedVariables false
set_option maxRecDepth 100000
set_option maxHeartbeats 4000000 in
theorem order_walk (room : Int) (A : Option Addr) (n c : Nat) (l : List Bool) (w : World) (hl : SliceOf Rep.bool w w.heap.size A n c l) (hn : n ≤ 1048576) : Calls Try.prog 3 #[.int .i64 room, .slice A n c] w fun e w' => e = .returned (.bool true) ∧ New w w' := by
  have hfix := fixed_any w
  have hb := hl.bound
  have hll := hl.len
  have HLL := Lib.hid hll
  have HL := Lib.hid hl
  have HFIX := Lib.hid hfix
  clear hl hfix
  clear hll
  go_enter Try.func3, Try.ntmps3
  go_wp2_with fail
  refine HFIX.out.mono ?_
  rintro e w1 ⟨rfl, hw1⟩
  have hnew := new_own w w1 hw1 room
  have HW1 := Lib.hid hw1
  have HNEW := Lib.hid hnew
  clear hw1 hnew
  go_wp2_with fail
  refine HNEW.out.mono ?_
  rintro e w2 hw2
  rcases hw2 with ⟨g1, g2, rfl, hw2⟩ | ⟨g1, rfl, hw2⟩
  · generalize w1.heap.size = b at *
    have hlr : ∀ wr, New w wr → ∀ i (h : i < l.length), ∃ bt o, A = some ⟨bt, o, none⟩ ∧ wr.cell? ⟨bt, o + i, none⟩ = some (.bool l[i]) := by
      intro wr hk i hi
      have hll := HLL.out
      obtain ⟨bt, o, e1, _, e2⟩ := bool_at (HL.out.kept hk (Nat.le_refl _) fun _ _ h => h) (by omega)
      exact ⟨bt, o, e1, e2 i hi⟩
    have hst : Own w w2 b (laneOf room 0 0 0 0) := hw2
    have hok : Ok room 0 0 0 0 0 := ⟨by omega, by omega, by omega, by omega, ⟨g1, g2⟩, by omega⟩
    have HLR := Lib.hid hlr
    have HST := Lib.hid hst
    have HOK := Lib.hid hok
    clear hlr hst hok
    clear hw2
    go_wp2_with fail
    go_loopg [8, 9, 10, 11] n (fun g s8 s9 s10 s11 wr => ∃ (i T D E : Nat) (C : Int), i ≤ n ∧ n - i ≤ g ∧ s11 = .int .i64 i ∧ s9 = .int .i64 T ∧ s10 = .int .i64 (T + D : Nat) ∧ s8 = .int .i64 (T + D + E : Nat) ∧ Ok room T D E i C ∧ Own w wr b (laneOf room T D E C))
    case atStart => exact ⟨0, 0, 0, 0, 0, by omega, by omega, rfl, rfl, rfl, rfl, HOK.out, HST.out⟩
    case round =>
      obtain ⟨i, T, D, E, C, hi, hg, rfl, rfl, rfl, rfl, hok, how⟩ := hrel
      have k0 := hok.nx
      have k1 := hok.room
      have k2 := hok.le
      have k3 := hok.full
      have kc := And.intro hok.c0 hok.c1
      by_cases hlt : i < n
      · obtain ⟨bt, ot, rfl, x0⟩ := HLR.out wr how.fresh i (by rw [← HLL.out]; exact hlt)
        obtain ⟨t, x1⟩ : ∃ t, wr.cell? ⟨bt, ot + i, none⟩ = some (.bool t) := ⟨_, x0⟩
        clear x0
        cases t
        · by_cases hf : room ≤ (D : Int)
          · have hput := put_own how ((T + D + E : Nat) : Int) (by rw [laneOf_len]; omega)
            rw [put_full hf] at hput
            have hwait := fun w1 (h : Own w w1 b (laneOf room T D E C)) => wait_own h ((T + D + E : Nat) : Int) ((T + D + E : Nat) : Int) (by rw [laneOf_waits]; omega)
            simp only [wait_full hf] at hwait
            have hok' : Ok room T D (E + 1) (i + 1) C := ⟨hok.c0, hok.c1, hok.le, fun _ => by omega, hok.room, by omega⟩
            obtain ⟨N, hN⟩ : ∃ N, N = T + D + E := ⟨_, rfl⟩
            obtain ⟨G, hG⟩ : ∃ G, G = T + D := ⟨_, rfl⟩
            rw [← hN] at hput k0
            simp only [← hN] at hwait
            rw [← hN, ← hG]
            have HPUT := Lib.hid hput
            have HWAIT := Lib.hid hwait
            have HOK' := Lib.hid hok'
            have HN := Lib.hid hN
            have HG := Lib.hid hG
            have HOW := Lib.hid how
            have HOK := Lib.hid hok
            clear hput hwait hok' hN hG how hok
            clear k1 k2 k3 kc hf
            go_wp2_with fail
            refine (HPUT.out).mono ?_
            rintro e w3 ⟨rfl, hw3⟩
            go_wp2_with fail
            refine (HWAIT.out _ hw3).mono ?_
            rintro e w4 ⟨rfl, hw4⟩
            have HW4 := Lib.hid hw4
            clear hw4
            clear hw3
            go_wp2_with fail
            go_roundg (n - (i + 1))
            case measure => omega
            case rel => exact ⟨i + 1, T, D, E + 1, C, by omega, by omega, by go_num, rfl, by rw [HG.out], congrArg (Value.int .i64) (by have := HN.out; omega), HOK'.out, HW4.out⟩
          · obtain rfl : E = 0 := by omega
            have hput := put_own how ((T + D : Nat) : Int) (by rw [laneOf_len]; omega)
            rw [put_room (by omega)] at hput
            have hok' : Ok room T (D + 1) 0 (i + 1) C := ⟨hok.c0, hok.c1, by omega, fun _ => by omega, hok.room, by omega⟩
            obtain ⟨G, hG⟩ : ∃ G, G = T + D := ⟨_, rfl⟩
            rw [← hG] at hput k0
            rw [← hG]
            have HPUT := Lib.hid hput
            have HOK' := Lib.hid hok'
            have HG := Lib.hid hG
            have HOW := Lib.hid how
            have HOK := Lib.hid hok
            clear hput hok' hG how hok
            clear k1 k2 k3 kc hf
            go_wp2_with fail
            refine (HPUT.out).mono ?_
            rintro e w3 ⟨rfl, hw3⟩
            have HW3 := Lib.hid hw3
            clear hw3
            go_wp2_with fail
            go_roundg (n - (i + 1))
            case measure => omega
            case rel => exact ⟨i + 1, T, D + 1, 0, C, by omega, by omega, by go_num, rfl, congrArg (Value.int .i64) (by have := HG.out; omega), congrArg (Value.int .i64) (by have := HG.out; omega), HOK'.out, HW3.out⟩
        · have htake := take_own how (by rw [laneOf_len]; omega) (show 0 ≤ (laneOf room T D E C).taken ∧ (laneOf room T D E C).taken ≤ 65535 from kc)
          by_cases hD : D = 0
          · subst hD
            obtain rfl : E = 0 := by omega
            rw [take_0] at htake
            simp only [tookV] at htake
            have hok' : Ok room T 0 0 (i + 1) C := ⟨hok.c0, hok.c1, hok.le, hok.full, hok.room, by omega⟩
            have e0 : T + 0 + 0 = T := rfl
            have e1 : T + 0 = T := rfl
            rw [e0] at k0
            rw [e0]
            try rw [e1]
            have HTAKE := Lib.hid htake
            have HOK' := Lib.hid hok'
            have HOW := Lib.hid how
            have HOK := Lib.hid hok
            clear htake hok' how hok
            clear k1 k2 k3 kc e0 e1
            go_wp2_with fail
            refine (HTAKE.out).mono ?_
            rintro e w3 ⟨rfl, hw3⟩
            have hw4 := hw3.new ((Kept.refl (fun _ => False) w3).alloc (.cells #[.int .i64 0, .int .i64 0] 31))
            have HW3 := Lib.hid hw3
            have HW4 := Lib.hid hw4
            clear hw3 hw4
            go_upto_region 20 with (fail)
            generalize w3.alloc (.cells #[.int .i64 0, .int .i64 0] 31) = W4 at *
            go_wp2_with fail
            go_roundg (n - (i + 1))
            case measure => omega
            case rel => exact ⟨i + 1, T, 0, 0, C, by omega, by omega, by go_num, rfl, rfl, rfl, HOK'.out, HW4.out⟩
          · obtain ⟨d, rfl⟩ : ∃ d, D = d + 1 := ⟨D - 1, by omega⟩
            cases E with
            | zero =>
              rw [take_1] at htake
              simp only [tookV] at htake
              have hok' : Ok room (T + 1) d 0 (i + 1) (min (C + 1) 65535) := ⟨by omega, by omega, by omega, fun h => absurd h (by omega), hok.room, by omega⟩
              have hlen := fun w1 (h : Own w w1 b (laneOf room (T + 1) d 0 (min (C + 1) 65535))) => len_own h
              simp only [laneOf_len] at hlen
              obtain ⟨G, hG⟩ : ∃ G, G = T + (d + 1) := ⟨_, rfl⟩
              have e0 : T + (d + 1) + 0 = G := hG.symm
              have g3 : T < G := by omega
              have g4 : (d : Int) ≤ room := by omega
              have g5 : ¬ T = G := by omega
              have hs : IntKind.i64.wrap ((G : Int) - ((T : Int) + 1)) = (d : Int) := by rw [IntWalk.i64_in _ (by omega)]; omega
              rw [e0] at k0
              rw [e0, ← hG]
              have HTAKE := Lib.hid htake
              have HOK' := Lib.hid hok'
              have HOW := Lib.hid how
              have HOK := Lib.hid hok
              have HG := Lib.hid hG
              clear htake hok' how hok hG
              have HLEN := Lib.hid hlen
              clear k1 k2 k3 kc e0 hD hlen
              go_wp2_with fail
              refine (HTAKE.out).mono ?_
              rintro e w3 ⟨rfl, hw3⟩
              have hw4 := hw3.new ((Kept.refl (fun _ => False) w3).alloc (.cells #[.int .i64 0, .int .i64 0] 31))
              have HW3 := Lib.hid hw3
              have HW4 := Lib.hid hw4
              clear hw3 hw4
              go_upto_region 20 with (fail)
              generalize w3.alloc (.cells #[.int .i64 0, .int .i64 0] 31) = W4 at *
              go_upto_region 28 with (fail)
              have g7 : decide (room < (d : Int)) = false := by simpa using g4
              go_wp2_with fail
              refine (HLEN.out _ HW4.out).mono ?_
              rintro e w' ⟨rfl, rfl⟩
              go_wp2_with fail
              refine (HLEN.out _ HW4.out).mono ?_
              rintro e w' ⟨rfl, rfl⟩
              go_wp2_with fail
              go_roundg (n - (i + 1))
              case measure => omega
              case rel => exact ⟨i + 1, T + 1, d, 0, _, by omega, by omega, by go_num, by go_num, congrArg (Value.int .i64) (by have := HG.out; omega), congrArg (Value.int .i64) (by have := HG.out; omega), HOK'.out, HW4.out⟩
            | succ E =>
              rw [take_2] at htake
              simp only [tookV] at htake
              have hok' : Ok room (T + 1) (d + 1) E (i + 1) (min (C + 1) 65535) := ⟨by omega, by omega, hok.le, fun h => by omega, hok.room, by omega⟩
              have hlen := fun w1 (h : Own w w1 b (laneOf room (T + 1) (d + 1) E (min (C + 1) 65535))) => len_own h
              simp only [laneOf_len] at hlen
              obtain ⟨G, hG⟩ : ∃ G, G = T + (d + 1) := ⟨_, rfl⟩
              obtain ⟨N, hN⟩ : ∃ N, N = T + (d + 1) + (E + 1) := ⟨_, rfl⟩
              obtain ⟨D1, hD1⟩ : ∃ D1, D1 = d + 1 := ⟨_, rfl⟩
              have e1 : T + d + 1 = G := hG.symm
              have g3 : G < N := by omega
              have g4 : (D1 : Int) ≤ room := by omega
              have g5 : ¬ T = N := by omega
              have g6 : T < G := by omega
              have hs : IntKind.i64.wrap (((G : Int) + 1) - ((T : Int) + 1)) = (D1 : Int) := by rw [IntWalk.i64_in _ (by omega)]; omega
              rw [← hD1] at hlen
              rw [e1] at htake
              rw [← hN] at k0
              rw [← hN, ← hG]
              have HTAKE := Lib.hid htake
              have HOK' := Lib.hid hok'
              have HOW := Lib.hid how
              have HOK := Lib.hid hok
              have HG := Lib.hid hG
              have HN := Lib.hid hN
              have HD1 := Lib.hid hD1
              clear htake hok' how hok hG hN hD1
              have HLEN := Lib.hid hlen
              clear k1 k2 k3 kc e1 hD hlen
              go_wp2_with fail
              refine (HTAKE.out).mono ?_
              rintro e w3 ⟨rfl, hw3⟩
              have hw4 := hw3.new ((Kept.refl (fun _ => False) w3).alloc (.cells #[.int .i64 G, .int .i64 G] 31))
              have hb4 := Blk.made w3 31 #[.int .i64 (G : Int), .int .i64 (G : Int)]
              have HW3 := Lib.hid hw3
              have HW4 := Lib.hid hw4
              clear hw3 hw4
              go_upto_region 20 with (fail)
              generalize w3.alloc (.cells #[.int .i64 (G : Int), .int .i64 (G : Int)] 31) = W4 at *
              have z0 := hb4.cell 0
              have z1 := hb4.cell 1
              simp only [List.getElem?_toArray, List.getElem?_cons_zero, List.getElem?_cons_succ] at z0 z1
              have HB4 := Lib.hid hb4
              clear hb4
              go_upto_region 28 with (fail)
              have g7 : decide (room < (D1 : Int)) = false := by simpa using g4
              go_wp2_with fail
              refine (HLEN.out _ (by rw [HD1.out]; exact HW4.out)).mono ?_
              rintro e w' ⟨rfl, rfl⟩
              go_wp2_with fail
              refine (HLEN.out _ (by rw [HD1.out]; exact HW4.out)).mono ?_
              rintro e w' ⟨rfl, rfl⟩
              go_wp2_with fail
              go_roundg (n - (i + 1))
              case measure => omega
              case rel => exact ⟨i + 1, T + 1, d + 1, E, _, by omega, by omega, by go_num, by go_num, congrArg (Value.int .i64) (by have := HG.out; omega), congrArg (Value.int .i64) (by have := HN.out; omega), HOK'.out, HW4.out⟩
      · obtain rfl : i = n := by omega
        have hend := end_own how
        simp only [laneOf_waits] at hend
        have hsub : IntKind.i64.wrap (((T + D + E : Nat) : Int) - ((T + D : Nat) : Int)) = (E : Int) := by rw [IntWalk.i64_in _ (by omega)]; omega
        have kE : (E : Int) ≤ 1048576 := by omega
        generalize T + D + E = N at *
        generalize T + D = G at *
        have HEND := Lib.hid hend
        have HOW := Lib.hid how
        have HOK := Lib.hid hok
        clear hend how hok
        clear k1 k2 k3 kc
        go_wp2_with fail
        refine (HEND.out).mono ?_
        rintro e w3 ⟨A3, rfl, hw3⟩
        have HW3 := Lib.hid hw3
        clear hw3
        go_wp2_with fail
        go_ret
        exact ⟨by simp [Array.getD], HW3.out⟩
  · have HW2 := Lib.hid hw2
    clear hw2
    go_wp2_with fail
    go_ret
    exact ⟨rfl, HW2.out⟩
end Go.Proofs.Ytnmocdgngkjflaa.Lane
