/- The walk of package script's Encode (layer 16). -/
import Derived.Test.YtgmibjhbneggeaaScriptW
namespace Go.Proofs.Ytgmibjhbneggeaa.Script
open Go.RowKit Go.Fb Go.BytesP Go.ScriptP
set_option linter.unusedVariables false

/-- The bytes behind k steps. -/
def encTo (l : List Step) (k : Nat) : List UInt8 := ScriptP.mark ++ le l.length 2 ++ (l.take k).flatMap encS
theorem encTo_all (l : List Step) : encTo l l.length = enc l := by unfold encTo enc; rw [List.take_length]
theorem encTo_zero (l : List Step) (n : Nat) (h : n = l.length) : encTo l 0 = ScriptP.mark ++ le n 2 := by subst h; simp [encTo]
theorem encTo_succ (l : List Step) (k : Nat) (h : k < l.length) : encTo l (k + 1) = encTo l k ++ encS l[k] := by
  unfold encTo
  rw [List.take_succ_eq_append_getElem h, List.flatMap_append, List.flatMap_singleton, List.append_assoc, List.append_assoc, List.append_assoc]
theorem encTo_le (l : List Step) (k : Nat) (h : k ≤ 1024) : (encTo l k).length ≤ 13319 := by
  have := length_flat (l.take k)
  have h2 : (l.take k).length ≤ k := List.length_take_le _ _
  unfold encTo
  rw [List.length_append, List.length_append, length_le]
  have : ScriptP.mark.length = 5 := rfl
  omega
theorem encode_ok (A : Option Addr) (n c : Nat) (l : List Step) (w : World) (hl : SliceOf repStep w w.heap.size A n c l) (hm : may l = (0, 0)) :
    Calls Try.prog 11 #[.slice A n c] w fun e w' => ∃ g cap, e = .returned (.tuple #[.slice (some ⟨g, 0, none⟩) (enc l).length cap, .int .i64 0, .int .i64 0]) ∧ OwnB 5 w' w.heap.size (.slice (some ⟨g, 0, none⟩) (enc l).length cap) (enc l) ∧ New w w' := by
  have hn := hl.len
  have hb := hl.bound
  have hmo := may_ok hm
  have hle : n ≤ 1024 := by omega
  have HL := Lib.hid hl
  have HN := Lib.hid hn
  have HM := Lib.hid hm
  have HO := Lib.hid hmo
  have HV := Lib.hid (steps_inV hl)
  clear hl hn hm hmo
  have kc := fun (w : World) (C : Array Value) (n c : Nat) => Lib.run_convert_bytes_const (P := Try.prog) w 27 5 C n c Try.underlying27 Try.underlying5
  go_enter Try.func11, Try.ntmps11
  go_wp2_with fail
  refine (may_walk A n c l w HL.out).mono ?_; rintro e w1 ⟨rfl, hw1⟩
  rw [HM.out]
  have HW1 := Lib.hid hw1
  have hs1 := hw1.size
  clear hw1
  go_wp2_with fail
  refine (lay_walk w.heap.size _ n 2 ScriptP.mark _ (.inr ⟨_, 5, rfl, SliceOf.made ScriptP.mark (by decide)⟩) (by simp; omega) (by omega) (by omega) (by decide) (by decide) (by decide)).mono ?_
  rintro e w2 ⟨g2, c2, rfl, ho2, hk2, hl2⟩
  have hnew2 : New w w2 := (HW1.out.alloc _).step hk2 fun i hi e => by
    simp only [Value.ownBlock, Option.some.injEq] at e; omega
  have hB2 : w.heap.size ≤ g2 := (ho2.lt g2 rfl).1
  have Hnew2 := Lib.hid hnew2
  have Ho2 := Lib.hid ho2
  clear hnew2 ho2 hk2 hl2
  go_wp2_with fail
  go_loopw [7, 27] (fun v i wr => ∃ k g cap : Nat, k ≤ n ∧ i = .int .i64 k ∧ v = .slice (some ⟨g, 0, none⟩) (encTo l k).length cap ∧ OwnB 5 wr w.heap.size (.slice (some ⟨g, 0, none⟩) (encTo l k).length cap) (encTo l k) ∧ New w wr) (fun _ i _ => (n - intOf i).toNat)
  case atStart => exact ⟨0, g2, c2, by omega, rfl, rfl, by rw [encTo_zero l n HN.out, List.length_append, length_le]; exact Ho2.out, Hnew2.out⟩
  case round =>
    obtain ⟨k, g, cap, hk, rfl, rfl, ho, hnew⟩ := hrel
    have HW := Lib.hid hnew
    have Hown := Lib.hid ho
    clear hnew ho
    by_cases hlt : k < n
    · have hkl : k < l.length := by have := HN.out; omega
      obtain ⟨b, o, rfl, hb', hc⟩ := steps_at (HL.out.below HW.out.below) (by omega)
      obtain ⟨c0, c1, c3⟩ := hc k hkl
      have hv := HV.out l[k] (List.getElem_mem hkl)
      obtain ⟨f1, f2, f3, f4, f5⟩ := Fine.bd (s := l[k]) ⟨HO.out.2 l[k] (List.getElem_mem hkl), hv.1, hv.2⟩
      have F5 := Lib.hid f5
      have hes := encTo_succ l k hkl
      have hel := encTo_le l k (by omega)
      generalize l[k] = s at *
      have HES := Lib.hid hes
      have HEL := Lib.hid hel
      have hbk := bv_small (n := s.k) (by omega) (by omega)
      have HBK := Lib.hid hbk
      clear hc f5 hes hel hbk
      have hgl := (Hown.out.lt g rfl).2
      have hsz := HW.out.size
      go_wp2_with (at_builtin; refine wpList_byte tyBytes rfl _ _ rfl w.heap.size rfl (.inl ((Hown.out.alloc _).alloc _)) ⟨wr.heap.size + 1, 0, none⟩ 1 _ (.int .u8 s.k) rfl (new_cell _ _ _ _ (size1 _ _)) HBK.out (by have := HEL.out; omega) (by have := HW.out.size; simp; omega) ?_; intro g3 cap3 w3 ho3 hk3 hl3; have hb3 := ((Blk.made wr 38 #[.int .i64 s.k, .int .i64 s.n, .int .i64 s.v]).alloc _).far (Nat.ne_of_lt hgl) hk3; have d0 : w3.cell? ⟨wr.heap.size, 0, none⟩ = some (.int .i64 s.k) := hb3.cell 0; have d1 : w3.cell? ⟨wr.heap.size, 1, none⟩ = some (.int .i64 s.n) := hb3.cell 1; have d2 : w3.cell? ⟨wr.heap.size, 2, none⟩ = some (.int .i64 s.v) := hb3.cell 2; have HB3 := Lib.hid hb3; have HO3 := Lib.hid ho3; have HK3 := Lib.hid hk3; have HL3 := Lib.hid hl3; clear hb3 ho3 hk3 hl3)
      have hl3 : g3 ≠ wr.heap.size := HL3.out.ne (Nat.ne_of_lt hgl) (by simp; omega)
      have hn3 : New w w3 := New.step_own ((HW.out.alloc _).alloc _) (Hown.out.lt g rfl).1 HK3.out
      have HN3 := Lib.hid hn3
      clear hn3
      refine (lay_walk w.heap.size _ s.n 4 _ _ (.inl HO3.out) (by have := HK3.out.size; simp at this; omega) f3 (by omega) (by decide) (by decide) (by have := HEL.out; simp; omega)).mono ?_
      rintro e w4 ⟨g4, c4, rfl, ho4, hk4, hl4⟩
      have hb4 := HB3.out.far hl3 hk4
      have e0 : w4.cell? ⟨wr.heap.size, 0, none⟩ = some (.int .i64 s.k) := hb4.cell 0
      have e2 : w4.cell? ⟨wr.heap.size, 2, none⟩ = some (.int .i64 s.v) := hb4.cell 2
      simp only [List.length_append, List.length_singleton] at ho4
      have HO4 := Lib.hid ho4
      have HK4 := Lib.hid hk4
      clear ho4 hk4 hl4 hb4 d0 d1 d2
      by_cases h2 : s.k = 2
      · have h2' : (s.k == 2) = true := by simpa using h2
        have H2 := Lib.hid h2
        clear h2
        go_wp2_with fail
        refine (lay_walk w.heap.size _ (IntKind.u64.wrap s.v) 8 _ _ (.inl HO4.out) (by have := HK3.out.size; have := HK4.out.size; simp at *; omega) (by rw [IntKind.wrap_u64]; omega) (by rw [IntKind.wrap_u64]; omega) (by decide) (by decide) (by have := HEL.out; simp [length_le]; omega)).mono ?_
        rintro e w5 ⟨g5, c5, rfl, ho5, hk5, hl5⟩
        have HO5 := Lib.hid ho5
        have HK5 := Lib.hid hk5
        clear ho5 hk5 hl5 e0 e2
        have hE : encTo l (k + 1) = encTo l k ++ [UInt8.ofNat s.k.toNat] ++ le s.n 4 ++ le (IntKind.u64.wrap s.v) 8 := by
          rw [HES.out, encS, if_pos H2.out, le_one (by omega) (by omega), le_u64]; simp
        have HE := Lib.hid hE
        clear hE
        go_wp2_with fail
        go_roundw
        case rel => exact ⟨k + 1, g5, c5, by omega, by go_num, by rw [HE.out]; simp [length_le], by rw [HE.out, List.length_append, length_le]; exact HO5.out, ((HN3.out.step_own (HO3.out.lt g3 rfl).1 HK4.out).step_own (HO4.out.lt g4 rfl).1 HK5.out)⟩
        case measure => simp [intOf]; omega
      · have h2' : (s.k == 2) = false := by simpa using h2
        have H2 := Lib.hid h2
        clear h2
        have hE : encTo l (k + 1) = encTo l k ++ [UInt8.ofNat s.k.toNat] ++ le s.n 4 := by
          rw [HES.out, encS, if_neg H2.out, le_one (by omega) (by omega)]; simp
        have HE := Lib.hid hE
        clear hE
        go_wp2_with fail
        go_roundw
        case rel => exact ⟨k + 1, g4, c4, by omega, by go_num, by rw [HE.out]; simp [length_le], by rw [HE.out, List.length_append, List.length_append, length_le, List.length_singleton]; exact HO4.out, HN3.out.step_own (HO3.out.lt g3 rfl).1 HK4.out⟩
        case measure => simp [intOf]; omega
    · obtain rfl : k = n := by omega
      have he : encTo l k = enc l := by have := encTo_all l; rwa [← HN.out] at this
      have He := Lib.hid he
      clear he
      go_wp2_with fail
      refine bodyPost_ret (results_tmp3 rfl _ _ _) rfl ?_
      rw [← He.out]
      exact ⟨g, cap, rfl, Hown.out, HW.out⟩
end Go.Proofs.Ytgmibjhbneggeaa.Script
