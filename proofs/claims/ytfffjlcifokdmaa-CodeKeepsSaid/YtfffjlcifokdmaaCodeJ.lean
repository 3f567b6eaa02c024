/- The walks of Decode (layer 6): the reference's. -/
import Derived.Test.YtfffjlcifokdmaaCodeD
namespace Go.Proofs.Ytfffjlcifokdmaa.Code
open Go.RowKit Go.Fb Go.BytesP Go.CodeP Go.ReaderP
set_option linter.unusedVariables false

theorem tyIns : SliceTy Try.prog 31 25 5 40 := by
  obtain ⟨i, hi, hz, hs, hb⟩ := info_parts (P := Try.prog) (e := 25) (z := .agg #[.int .i64 0, .int .i64 0, .int .i64 0, .int .i64 0, .int .i64 0]) (size := 5) (bytes := 40) (by kernel_rfl)
  exact ⟨Try.underlying31, ⟨i, _, hi, hz, hs, hb, rfl⟩, by decide⟩
theorem cellsI_one (x : Ins) : ∀ u ∈ cellsI x, u.oneCell' = true := by
  intro u hu
  simp only [cellsI, List.mem_cons, List.not_mem_nil, or_false] at hu
  rcases hu with rfl | rfl | rfl | rfl | rfl <;> rfl
/-- How Decode goes on. -/
def decGo (b : List UInt8) (n : Int) (acc : List Ins) (k f : Nat) : Except (Int × Int) (List Ins) :=
  match decFrom b n k f with
  | .error e => .error e
  | .ok l => .ok (acc ++ l)
theorem decGo_ok {b : List UInt8} {n : Int} {acc : List Ins} {k f : Nat} {x : Ins} (hx : get ((b.drop (12 * k)).take 12) = x) (h : (wrong x n 8).1 = 0) : decGo b n acc k (f + 1) = decGo b n (acc ++ [x]) (k + 1) f := by
  subst hx
  simp only [decGo, decFrom]
  rw [if_pos h]
  cases decFrom b n (k + 1) f with
  | error e => rfl
  | ok l => simp
theorem decGo_err {b : List UInt8} {n : Int} {acc : List Ins} {k f : Nat} {x : Ins} (hx : get ((b.drop (12 * k)).take 12) = x) (h : (wrong x n 8).1 ≠ 0) : decGo b n acc k (f + 1) = .error ((wrong x n 8).1, 12 * k + (wrong x n 8).2) := by
  subst hx
  simp only [decGo, decFrom]
  rw [if_neg h]
def decL (b : List UInt8) : List Ins := match dec b with | .ok l => l | .error _ => []
def decE (b : List UInt8) : Int × Int := match dec b with | .ok _ => (0, 0) | .error e => e
/-- What Decode tells, in memory. -/
def Decd (w w' : World) (e : Ending) (b : List UInt8) : Prop := ∃ r A c, e = .returned (.tuple #[.slice A (decL b).length c, .int .i64 (decE b).1, .int .i64 (decE b).2]) ∧ Row w' 5 r A (decL b).length c ((decL b).flatMap cellsI) ∧ (∀ k, r = some k → w.heap.size ≤ k) ∧ (∀ x ∈ decL b, Wf x) ∧ New w w'
theorem decd_err {w w' : World} {b : List UInt8} {x : Int × Int} (h : dec b = .error x) (hw : New w w') : Decd w w' (.returned (.tuple #[.slice none 0 0, .int .i64 x.1, .int .i64 x.2])) b := by
  have h1 : decL b = [] := by unfold decL; rw [h]
  have h2 : decE b = x := by unfold decE; rw [h]
  unfold Decd
  rw [h1, h2]
  exact ⟨none, none, 0, rfl, Row.nil _ _, (by intro k hk; cases hk), (by intro x hx; cases hx), hw⟩
theorem decd_ok {w w' : World} {b : List UInt8} {l : List Ins} {r : Option Nat} {A : Option Addr} {c : Nat} (h : dec b = .ok l) (hr : Row w' 5 r A l.length c (l.flatMap cellsI)) (hn : ∀ k, r = some k → w.heap.size ≤ k) (hf : ∀ x ∈ l, Wf x) (hw : New w w') :
    Decd w w' (.returned (.tuple #[.slice A l.length c, .int .i64 0, .int .i64 0])) b := by
  have h1 : decL b = l := by unfold decL; rw [h]
  have h2 : decE b = (0, 0) := by unfold decE; rw [h]
  unfold Decd
  rw [h1, h2]
  exact ⟨r, A, c, rfl, hr, hn, hf, hw⟩
theorem wf_get (w : List UInt8) (h : w.length = 12) : Wf (get w) := by
  obtain ⟨_, h1, h2⟩ := enc_get h
  have b0 := (w.getD 0 0).toNat_lt
  have b1 := (w.getD 1 0).toNat_lt
  have b2 := (w.getD 2 0).toNat_lt
  have b3 := (w.getD 3 0).toNat_lt
  refine ⟨?_, ?_, ?_, ?_, ?_⟩ <;> simp [Lit.wf, IntKind.min, IntKind.max, IntKind.signed, IntKind.bits, CodeP.get] at * <;> omega
theorem ref_decode_out (A : Option Addr) (n c : Nat) (bs : List UInt8) (w : World) (hb : SliceOf Rep.byte w w.heap.size A n c bs) (h : 3072 < n ∨ n % 12 ≠ 0) :
    Calls Try.prog 21 #[.slice A n c] w fun e w' => Decd w w' e bs := by
  have hn := hb.len
  have hbd := hb.bound
  by_cases h1 : 3072 < n
  · have e : dec bs = .error (3, 3072) := by unfold dec; rw [if_pos (by omega)]
    have E := Lib.hid e
    have HN := Lib.hid hn
    have HB := Lib.hid hb
    clear e hn hb
    clear h
    go_enter Try.func21, Try.ntmps21
    go_wp2_with fail
    refine bodyPost_ret (results_tmp3 rfl _ _ _) rfl ?_
    exact decd_err E.out (Kept.refl _ _)
  · have e : dec bs = .error (5, n) := by unfold dec; rw [if_neg (by omega), if_pos (by omega), hn]
    have h2 : (((n : Int) % 12) != 0) = true := by rw [bne_iff_ne]; omega
    have E := Lib.hid e
    have HN := Lib.hid hn
    have HB := Lib.hid hb
    clear e hn hb
    clear h
    go_enter Try.func21, Try.ntmps21
    go_wp2_with fail
    refine bodyPost_ret (results_tmp3 rfl _ _ _) rfl ?_
    exact decd_err E.out (Kept.refl _ _)
set_option maxHeartbeats 1000000 in
theorem ref_decode_in (A : Option Addr) (n c : Nat) (bs : List UInt8) (w : World) (hb : SliceOf Rep.byte w w.heap.size A n c bs) (h : n ≤ 3072) (N : Nat) (hN : n = 12 * N) :
    Calls Try.prog 21 #[.slice A n c] w fun e w' => Decd w w' e bs := by
  subst hN
  have hn := hb.len
  have hbd := hb.bound
  have hd : dec bs = decGo bs N [] 0 N := by
    unfold dec decGo
    rw [if_neg (by omega), if_neg (by omega), show bs.length / 12 = N by omega]
    cases decFrom bs N 0 N <;> rfl
  have h1 : (((12 : Int) * (N : Int)) % 12 != 0) = false := by rw [bne_eq_false_iff_eq]; omega
  have h2 : ((12 : Int) * (N : Int)) / 12 = (N : Int) := by omega
  have HN := Lib.hid hn
  have HB := Lib.hid hb
  have HD := Lib.hid hd
  clear hn hb hd
  go_enter Try.func21, Try.ntmps21
  go_wp2_with fail
  go_loopw [6, 7] (fun v i wr => ∃ (k : Nat) (acc : List Ins) (rr : Option Nat) (AA : Option Addr) (c3 : Nat), k ≤ N ∧ i = .int .i64 k ∧ acc.length = k ∧ v = .slice AA acc.length c3 ∧ Row wr 5 rr AA acc.length c3 (acc.flatMap cellsI) ∧ (∀ g, rr = some g → w.heap.size ≤ g) ∧ dec bs = decGo bs N acc k (N - k) ∧ (∀ x ∈ acc, Wf x) ∧ New w wr) (fun _ i _ => (N - intOf i).toNat)
  case atStart => exact ⟨0, [], none, _, 0, by omega, rfl, rfl, rfl, ⟨rfl, .inl ⟨rfl, rfl, rfl⟩⟩, (by intro g hg; cases hg), HD.out, (by simp), (Kept.refl _ _).alloc _⟩
  case round =>
    obtain ⟨k, acc, rr, AA, c3, hk, rfl, ha, rfl, hrow, hnx, hd2, hwf, hnew⟩ := hrel
    have HA := Lib.hid ha
    have HROW := Lib.hid hrow
    have HNX := Lib.hid hnx
    have HD2 := Lib.hid hd2
    have HWF := Lib.hid hwf
    have HNEW := Lib.hid hnew
    clear ha hrow hnx hd2 hwf hnew
    by_cases hlt : k < N
    · obtain ⟨f, hf⟩ : ∃ f, N - k = f + 1 := ⟨N - k - 1, by omega⟩
      obtain ⟨b, o, rfl, _, _⟩ := (HB.out.below HNEW.out.below).get (by omega)
      have hs := (HB.out.below HNEW.out.below).drop (k := 12 * k) (by omega)
      rw [show 12 * k * Rep.byte.size = 12 * k from Nat.mul_one _] at hs
      have hget := ref_get w.heap.size _ _ _ _ wr hs HNEW.out.size (by omega)
      have hw12 : ((bs.drop (12 * k)).take 12).length = 12 := by rw [List.length_take, List.length_drop]; have := HN.out; omega
      have hwx := wf_get _ hw12
      generalize hx : CodeP.get ((bs.drop (12 * k)).take 12) = x at *
      have hwr := fun W => ref_wrong x N 8 W
      have hcap : ¬ c = 12 * k := by omega
      have w1 : IntKind.i64.wrap (12 * (k : Int)) = 12 * (k : Int) := IntWalk.i64_in _ (by omega)
      have hacl : acc.length ≤ 256 := by have := HA.out; omega
      unfold agg at hget hwr
      by_cases hq : (wrong x N 8).1 = 0
      · have hrw : rwrong x N 8 = (0, 0) := by unfold rwrong; rw [if_pos hq]
        rw [hrw] at hwr
        have hd3 : dec bs = decGo bs N (acc ++ [x]) (k + 1) (N - (k + 1)) := by rw [HD2.out, hf, decGo_ok hx hq, show N - (k + 1) = f by omega]
        have HF := Lib.hid hf
        have HS := Lib.hid hs
        have HGET := Lib.hid hget
        have HWX := Lib.hid hwx
        have HX := Lib.hid hx
        have HWR := Lib.hid hwr
        have HD3 := Lib.hid hd3
        have HW12 := Lib.hid hw12
        have HRW := Lib.hid hrw
        have HQ := Lib.hid hq
        clear hf hs hget hwx hx hwr hd3 hw12 hrw hq
        go_wp2_with fail
        refine HGET.out.mono ?_
        rintro e w2 ⟨rfl, hw2⟩
        have hrow2 := HROW.out.new (by decide) hw2
        have hn2 := HNEW.out.trans hw2
        have hs2 := hw2.size
        have HROW2 := Lib.hid hrow2
        have HN2 := Lib.hid hn2
        clear hrow2 hn2
        clear hw2
        go_wp2_with fail
        refine (HWR.out _).mono ?_
        rintro e w3 ⟨rfl, hw3⟩
        have hxb : Blk w3 w2.heap.size 25 #[.int .i64 x.op, .int .i64 x.a, .int .i64 x.b, .int .i64 x.c, .int .i64 x.imm] := (Blk.made w2 _ _).kept hw3 id
        have d0 : w3.cell? ⟨w2.heap.size, 0, none⟩ = some (.int .i64 x.op) := hxb.cell 0
        have d1 : w3.cell? ⟨w2.heap.size, 1, none⟩ = some (.int .i64 x.a) := hxb.cell 1
        have d2 : w3.cell? ⟨w2.heap.size, 2, none⟩ = some (.int .i64 x.b) := hxb.cell 2
        have d3 : w3.cell? ⟨w2.heap.size, 3, none⟩ = some (.int .i64 x.c) := hxb.cell 3
        have d4 : w3.cell? ⟨w2.heap.size, 4, none⟩ = some (.int .i64 x.imm) := hxb.cell 4
        have hk23 : New w2 w3 := ((Kept.refl _ _).alloc _).trans hw3
        have hrow3 := HROW2.out.new (by decide) hk23
        have hn3 := HN2.out.trans hk23
        have hs3 := hk23.size
        have HROW3 := Lib.hid hrow3
        have HN3 := Lib.hid hn3
        clear hrow3 hn3
        clear hxb hw3 hk23
        go_wp2_with (at_builtin; refine wpList_append_one (cs := cellsI x) tyIns rfl _ _ rfl rfl HROW3.out rfl rfl rfl (cellsI_one _) (by unfold maxLen; omega) (by omega) ?_; intro r6 A6 c6 w6 hrow6 hk6 hr6)
        refine ⟨⟨k + 1, acc ++ [x], r6, A6, c6, by omega, by go_num, by simp [HA.out], by simp, ?_, ?_, HD3.out, ?_, HN3.out.step hk6 fun i hi e => by have := HNX.out i e; omega⟩, by simp [intOf]; omega⟩
        · rw [List.length_append, List.flatMap_append, List.flatMap_singleton]; exact hrow6
        · intro g hg
          rcases hr6 g hg with h | h
          · exact HNX.out g h
          · have := HN3.out.size; omega
        · intro y hy
          rcases List.mem_append.1 hy with hy | hy
          · exact HWF.out y hy
          · rw [List.mem_singleton.1 hy]; exact HWX.out
      · have hrw : rwrong x N 8 = wrong x N 8 := by unfold rwrong; rw [if_neg hq]
        rw [hrw] at hwr
        have hd3 : dec bs = .error ((wrong x N 8).1, 12 * k + (wrong x N 8).2) := by rw [HD2.out, hf, decGo_err hx hq]
        obtain ⟨g1, g2⟩ := wrong_two x N 8
        have hq' : ((wrong x N 8).1 != 0) = true := by simpa using hq
        generalize wrong x N 8 = m at *
        have w7 : IntKind.i64.wrap (12 * (k : Int) + m.2) = 12 * (k : Int) + m.2 := IntWalk.i64_in _ (by omega)
        have HF := Lib.hid hf
        have HS := Lib.hid hs
        have HGET := Lib.hid hget
        have HWX := Lib.hid hwx
        have HX := Lib.hid hx
        have HWR := Lib.hid hwr
        have HD3 := Lib.hid hd3
        have HW12 := Lib.hid hw12
        have HRW := Lib.hid hrw
        have HQ := Lib.hid hq
        clear hf hs hget hwx hx hwr hd3 hw12 hrw hq
        go_wp2_with fail
        refine HGET.out.mono ?_
        rintro e w2 ⟨rfl, hw2⟩
        have hn2 := HNEW.out.trans hw2
        have HN2 := Lib.hid hn2
        clear hn2
        clear hw2
        go_wp2_with fail
        refine (HWR.out _).mono ?_
        rintro e w3 ⟨rfl, hw3⟩
        have hn3 := (HN2.out.alloc _).trans hw3
        have HN3 := Lib.hid hn3
        clear hn3
        go_wp2_with fail
        refine bodyPost_ret (results_tmp3 rfl _ _ _) rfl ?_
        exact decd_err HD3.out HN3.out
    · obtain rfl : k = N := by omega
      have he : dec bs = .ok acc := by rw [HD2.out, Nat.sub_self]; simp [decGo, decFrom]
      have HE := Lib.hid he
      clear he
      go_wp2_with fail
      refine bodyPost_ret (results_tmp3 rfl _ _ _) rfl ?_
      exact decd_ok HE.out HROW.out HNX.out HWF.out HNEW.out
theorem ref_decode (A : Option Addr) (n c : Nat) (bs : List UInt8) (w : World) (hb : SliceOf Rep.byte w w.heap.size A n c bs) : Calls Try.prog 21 #[.slice A n c] w fun e w' => Decd w w' e bs := by
  by_cases h : 3072 < n ∨ n % 12 ≠ 0
  · exact ref_decode_out A n c bs w hb h
  · exact ref_decode_in A n c bs w hb (by omega) (n / 12) (by omega)
end Go.Proofs.Ytfffjlcifokdmaa.Code
