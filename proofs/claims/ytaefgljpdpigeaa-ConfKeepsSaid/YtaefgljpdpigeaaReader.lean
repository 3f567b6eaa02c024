/- The walks of the reference's reader (Reader of firebreakref14): Fail, Number, Int, Mark. -/
import Derived.Test.YtaefgljpdpigeaaChecked
import Derived.Test.YtaefgljpdpigeaaReaderP
import Derived.Test.YtaefgljpdpigeaaLaw
import Derived.WalkLawsBesides
import Derived.Outline
import Derived.Deep.QuietTactic
import Derived.BigQuiet
import Derived.Deep.DeepMust
namespace Go.Proofs.Ytaefgljpdpigeaa.Reader
open Go.RowKit Go.Fb Go.BytesP Go.ReaderP
set_option linter.unusedVariables false

/-- The reader's cells. -/
def Rd (w : World) (r : Nat) (A : Option Addr) (n c : Nat) (a e q : Int) : Prop := Blk w r 77 #[.slice A n c, .int .i64 a, .int .i64 e, .int .i64 q]
theorem Rd.drewN {w : World} {r : Nat} {A : Option Addr} {n c : Nat} {a e q : Int} (h : Rd w r A n c a e q) (k : Nat) : Rd (w.drewN k) r A n c a e q := h
/-- How it stands. -/
def At (w : World) (r : Nat) (A : Option Addr) (n c : Nat) : St → Prop
  | .ok p => Rd w r A n c p 0 0 ∧ p ≤ n
  | .error x => ∃ a, Rd w r A n c a x.1 x.2 ∧ x.1 ≠ 0
theorem At.lt {w : World} {r : Nat} {A : Option Addr} {n c : Nat} {s : St} (h : At w r A n c s) : r < w.heap.size := by
  cases s with
  | ok p => exact Blk.lt h.1
  | error x => obtain ⟨a, h, _⟩ := h; exact Blk.lt h
theorem At.kept {G : Nat → Prop} {w w' : World} {r : Nat} {A : Option Addr} {n c : Nat} {s : St} (h : At w r A n c s) (hk : Kept G w w') (hg : ¬ G r) : At w' r A n c s := by
  cases s with
  | ok p => exact ⟨Blk.kept h.1 hk hg, h.2⟩
  | error x => obtain ⟨a, h, h2⟩ := h; exact ⟨a, Blk.kept h hk hg, h2⟩

theorem fail_ok (r : Nat) (A : Option Addr) (n c : Nat) (a e q : Int) (w : World) (hr : Rd w r A n c a 0 0) (he : e ≠ 0) :
    Calls Try.prog 51 #[.pointer (some ⟨r, 0, none⟩), .int .i64 e, .int .i64 q] w fun x w' => x = .returned (.tuple #[]) ∧ Rd w' r A n c a e q ∧ Kept (fun k => k = r) w w' := by
  have c2 : w.cell? ⟨r, 2, none⟩ = some (.int .i64 0) := Blk.cell hr 2
  have c3 : w.cell? ⟨r, 3, none⟩ = some (.int .i64 0) := Blk.cell hr 3
  have f2 : w.frozen? ⟨r, 2, none⟩ = false := Blk.free hr 2
  have f3 : w.frozen? ⟨r, 3, none⟩ = false := Blk.free hr 3
  have HR := Lib.hid hr
  clear hr
  go_enter Try.func51, Try.ntmps51
  go_wp2
  go_end0
  exact ⟨rfl, (Blk.set HR.out _).set _, ((Kept.refl (fun k => k = r) _).setCell (.inr rfl) _).setCell (.inr rfl) _⟩
theorem fail_bad (r : Nat) (A : Option Addr) (n c : Nat) (a e q e' q' : Int) (w : World) (hr : Rd w r A n c a e' q') (he : e' ≠ 0) :
    Calls Try.prog 51 #[.pointer (some ⟨r, 0, none⟩), .int .i64 e, .int .i64 q] w fun x w' => x = .returned (.tuple #[]) ∧ w = w' := by
  have c2 : w.cell? ⟨r, 2, none⟩ = some (.int .i64 e') := Blk.cell hr 2
  have h2 : (e' == 0) = false := by simpa using he
  clear hr he
  go_enter Try.func51, Try.ntmps51
  go_wp2
  go_end0
  exact ⟨rfl, rfl⟩

theorem number_bad (r m : Nat) (A : Option Addr) (n c : Nat) (a e q : Int) (w : World) (hr : Rd w r A n c a e q) (he : e ≠ 0) :
    Calls Try.prog 71 #[.pointer (some ⟨r, 0, none⟩), .int .i64 m] w fun x w' => x = .returned (.int .u64 0) ∧ w = w' := by
  have c2 : w.cell? ⟨r, 2, none⟩ = some (.int .i64 e) := Blk.cell hr 2
  have h2 : (e != 0) = true := by simpa using he
  clear hr he
  go_enter Try.func71, Try.ntmps71
  go_wp2
  go_ret
  exact ⟨rfl, rfl⟩
theorem number_short (r m p : Nat) (A : Option Addr) (n c : Nat) (w : World) (hr : Rd w r A n c p 0 0) (hm : m ≤ 8) (hp : p ≤ n) (hn : n ≤ 9223372036854775807) (hs : n < p + m) :
    Calls Try.prog 71 #[.pointer (some ⟨r, 0, none⟩), .int .i64 m] w fun x w' => x = .returned (.int .u64 0) ∧ Rd w' r A n c p 5 n ∧ Kept (fun k => k = r) w w' := by
  have c0 : w.cell? ⟨r, 0, none⟩ = some (.slice A n c) := Blk.cell hr 0
  have c1 : w.cell? ⟨r, 1, none⟩ = some (.int .i64 p) := Blk.cell hr 1
  have c2 : w.cell? ⟨r, 2, none⟩ = some (.int .i64 0) := Blk.cell hr 2
  have HR := Lib.hid hr
  clear hr
  go_enter Try.func71, Try.ntmps71
  go_wp2
  go_quiet (fail)
  go_wp2_with fail
  refine (fail_ok r A n c p 5 n _ (Rd.drewN HR.out _) (by decide)).mono ?_
  rintro e w1 ⟨rfl, hr1, hk1⟩
  have HR1 := Lib.hid hr1
  have HK1 := Lib.hid hk1
  clear hr1 hk1
  go_wp2_with fail
  go_ret
  exact ⟨rfl, HR1.out, ((Kept.refl _ _).drewN _).trans HK1.out⟩
theorem number_ok (r m p B : Nat) (A : Option Addr) (n c : Nat) (bs : List UInt8) (w : World) (hr : Rd w r A n c p 0 0) (hb : SliceOf Rep.byte w B A n c bs) (hm0 : 0 < m) (hm : m ≤ 8) (hs : p + m ≤ n) :
    Calls Try.prog 71 #[.pointer (some ⟨r, 0, none⟩), .int .i64 m] w fun x w' => x = .returned (.int .u64 (numV bs p m)) ∧ Rd w' r A n c (p + m : Nat) 0 0 ∧ Kept (fun k => k = r) w w' := by
  have c0 : w.cell? ⟨r, 0, none⟩ = some (.slice A n c) := Blk.cell hr 0
  have c1 : w.cell? ⟨r, 1, none⟩ = some (.int .i64 p) := Blk.cell hr 1
  have c2 : w.cell? ⟨r, 2, none⟩ = some (.int .i64 0) := Blk.cell hr 2
  have f1 : w.frozen? ⟨r, 1, none⟩ = false := Blk.free hr 1
  have hbd := hb.bound
  have hn := hb.len
  obtain ⟨b, o, rfl, hbB, hc⟩ := hb.bytes (by omega)
  have HR := Lib.hid hr
  have HN := Lib.hid hn
  have HC := Lib.hid hc
  clear hr hn hc
  clear hb
  go_enter Try.func71, Try.ntmps71
  go_wp2
  go_quiet (fail)
  go_wp2
  go_loopw [5, 6] (fun v i wr => ∃ k q : Nat, k ≤ m ∧ i = .int .i64 k ∧ v = .int .u64 (numV bs p k) ∧ wr = w.drewN q) (fun _ i _ => (m - intOf i).toNat)
  case atStart => exact ⟨0, _, by omega, rfl, rfl, rfl⟩
  case round =>
    obtain ⟨k, q, hk, rfl, rfl, rfl⟩ := hrel
    by_cases hlt : k < m
    · have hkb : p + k < bs.length := by have := HN.out; omega
      have hcell := HC.out (p + k) hkb
      have hvl := numV_lt bs p k
      have hor := or_byte (c := bs[p + k].toNat) hvl (by omega) bs[p + k].toNat_lt
      have hsn := numV_snoc hkb
      have hcv := u64_byte bs[p + k]
      have w1 : IntKind.i64.wrap ((p : Int) + (k : Int)) = (p : Int) + (k : Int) := IntWalk.i64_in _ (by omega)
      have w2 : ((p : Int) + (k : Int)).toNat = p + k := by omega
      have w3 : (0 : Int) ≤ (p : Int) + (k : Int) := by omega
      have w4 : (p : Int) + (k : Int) < (n : Int) := by omega
      have w5 : IntKind.i64.wrap (8 * (k : Int)) = 8 * (k : Int) := IntWalk.i64_in _ (by omega)
      have HOR := Lib.hid hor
      have HSN := Lib.hid hsn
      clear hor hsn
      clear hvl
      go_wp2
      go_quiet (fail)
      clear w1 w2 w3 w4 w5
      go_wp2
      exact ⟨⟨k + 1, _, by omega, by go_num, by rw [HSN.out, ← HOR.out], rfl⟩, by simp [intOf]; omega⟩
    · obtain rfl : k = m := by omega
      go_wp2
      go_ret
      refine ⟨rfl, ?_, ((Kept.refl (fun k => k = r) _).drewN _).setCell (.inr rfl) _⟩
      exact Blk.set (w := w.drewN q) HR.out _

/-- Number, however the reader stands. -/
theorem number_any (r m B : Nat) (A : Option Addr) (n c : Nat) (bs : List UInt8) (s : St) (w : World) (hr : At w r A n c s) (hb : SliceOf Rep.byte w B A n c bs) (hm0 : 0 < m) (hm : m ≤ 8) :
    Calls Try.prog 71 #[.pointer (some ⟨r, 0, none⟩), .int .i64 m] w fun x w' => x = .returned (.int .u64 (rNum bs s m).1) ∧ At w' r A n c (rNum bs s m).2 ∧ Kept (fun k => k = r) w w' := by
  have hn := hb.len
  have hbd := hb.bound
  cases s with
  | error x =>
    obtain ⟨a, hr, he⟩ := hr
    exact (number_bad r m A n c a x.1 x.2 w hr he).mono fun e w' ⟨h1, h2⟩ => ⟨h1, ⟨a, h2 ▸ hr, he⟩, h2 ▸ Kept.refl _ _⟩
  | ok p =>
    obtain ⟨hr, hp⟩ := hr
    by_cases h : bs.length < p + m
    · have e : rNum bs (.ok p) m = (0, .error (5, bs.length)) := by unfold rNum; simp only; rw [if_pos h]
      rw [e, ← hn]
      exact (number_short r m p A n c w hr hm hp (by omega) (by omega)).mono fun e w' ⟨h1, h2, h3⟩ => ⟨h1, ⟨p, h2, by simp⟩, h3⟩
    · have e : rNum bs (.ok p) m = (numV bs p m, .ok (p + m)) := by unfold rNum; simp only; rw [if_neg h]
      rw [e]
      exact (number_ok r m p B A n c bs w hr hb hm0 hm (by omega)).mono fun e w' ⟨h1, h2, h3⟩ => ⟨h1, ⟨h2, by omega⟩, h3⟩
theorem At.cells {w : World} {r : Nat} {A : Option Addr} {n c : Nat} {s : St} (h : At w r A n c s) : ∃ a e q, Rd w r A n c a e q ∧ (match s with | .ok p => a = p ∧ e = 0 | .error x => e = x.1 ∧ e ≠ 0) := by
  cases s with
  | ok p => exact ⟨p, 0, 0, h.1, rfl, rfl⟩
  | error x => obtain ⟨a, h, he⟩ := h; exact ⟨a, x.1, x.2, h, rfl, he⟩
/-- Int. -/
theorem int_any (r m B : Nat) (A : Option Addr) (n c : Nat) (bs : List UInt8) (s : St) (w : World) (least most low high : Int) (hr : At w r A n c s) (hb : SliceOf Rep.byte w B A n c bs) (hB : B ≤ r) (hm0 : 0 < m) (hm : m ≤ 2) (hl : low ≠ 0) (hh : high ≠ 0) (hlm : least ≤ most) :
    Calls Try.prog 70 #[.pointer (some ⟨r, 0, none⟩), .int .i64 m, .int .i64 least, .int .i64 most, .int .i64 low, .int .i64 high] w fun x w' =>
      x = .returned (.int .i64 (rInt bs s m least most low high).1) ∧ At w' r A n c (rInt bs s m least most low high).2 ∧ Kept (fun k => k = r) w w' := by
  have hn := hb.len
  have hbd := hb.bound
  cases s with
  | error x =>
    obtain ⟨a, hr, he⟩ := hr
    have c1 : w.cell? ⟨r, 1, none⟩ = some (.int .i64 a) := Blk.cell hr 1
    have c2 : w.cell? ⟨r, 2, none⟩ = some (.int .i64 x.1) := Blk.cell hr 2
    have h2 : (x.1 != 0) = true := by simpa using he
    have E := Lib.hid (show rInt bs (.error x) m least most low high = (0, .error x) from rfl)
    have HR := Lib.hid hr
    have HE := Lib.hid he
    have HN := Lib.hid hn
    have HB := Lib.hid hb
    clear hr he hn hb
    go_enter Try.func70, Try.ntmps70
    go_wp2_with fail
    refine (number_bad r m A n c a x.1 x.2 w HR.out HE.out).mono ?_
    rintro e w1 ⟨rfl, rfl⟩
    go_wp2_with fail
    go_ret
    rw [E.out]
    exact ⟨rfl, ⟨a, HR.out, HE.out⟩, Kept.refl _ _⟩
  | ok p =>
    obtain ⟨hr, hp⟩ := hr
    have c1 : w.cell? ⟨r, 1, none⟩ = some (.int .i64 p) := Blk.cell hr 1
    by_cases h : bs.length < p + m
    · have E := Lib.hid (show rInt bs (.ok p) m least most low high = (0, .error (5, bs.length)) by unfold rInt; simp only; rw [if_pos h])
      have hs : n < p + m := by omega
      have HS := Lib.hid hs
      have HR := Lib.hid hr
      have HN := Lib.hid hn
      have HB := Lib.hid hb
      clear hr hn hb
      clear h hs
      go_enter Try.func70, Try.ntmps70
      go_wp2_with fail
      refine (number_short r m p A n c w HR.out (by omega) hp (by omega) HS.out).mono ?_
      rintro e w1 ⟨rfl, hr1, hk1⟩
      have d2 : w1.cell? ⟨r, 2, none⟩ = some (.int .i64 5) := Blk.cell hr1 2
      have HR1 := Lib.hid hr1
      have HK1 := Lib.hid hk1
      clear hr1 hk1
      go_wp2_with fail
      go_ret
      rw [E.out, ← HN.out]
      exact ⟨rfl, ⟨p, HR1.out, by simp⟩, HK1.out⟩
    · have e : rInt bs (.ok p) m least most low high = ((numV bs p m : Int), if (numV bs p m : Int) < least then .error (low, p) else if most < (numV bs p m : Int) then .error (high, p) else .ok (p + m)) := by unfold rInt; simp only; rw [if_neg h]
      have hv := numV_lt bs p m
      have hv2 : 256 ^ m ≤ 256 ^ 2 := Nat.pow_le_pow_right (by decide) hm
      have hv3 : numV bs p m < 65536 := by omega
      have Hs : Hid (p + m ≤ n) := Lib.hid (by omega)
      have hnum := number_ok r m p B A n c bs w hr hb hm0 (by omega) (by omega)
      have HNUM := Lib.hid hnum
      generalize numV bs p m = v at *
      rw [e]
      clear hv hv2 h hr hb hn hnum
      by_cases h1 : (v : Int) < least
      · rw [if_pos h1]
        have h1' : ¬ most < (v : Int) := by omega
        clear e
        go_enter Try.func70, Try.ntmps70
        go_wp2_with fail
        refine HNUM.out.mono ?_
        rintro e w1 ⟨rfl, hr1, hk1⟩
        have d2 : w1.cell? ⟨r, 2, none⟩ = some (.int .i64 0) := Blk.cell hr1 2
        have HR1 := Lib.hid hr1
        have HK1 := Lib.hid hk1
        clear hr1 hk1
        go_wp2_with fail
        refine (fail_ok r A n c _ low p _ HR1.out hl).mono ?_
        rintro e w2 ⟨rfl, hr2, hk2⟩
        have HR2 := Lib.hid hr2
        have HK2 := Lib.hid hk2
        clear hr2 hk2
        go_wp2_with fail
        go_ret
        exact ⟨rfl, ⟨_, HR2.out, hl⟩, HK1.out.trans HK2.out⟩
      · rw [if_neg h1]
        by_cases h2 : most < (v : Int)
        · rw [if_pos h2]
          clear e
          go_enter Try.func70, Try.ntmps70
          go_wp2_with fail
          refine HNUM.out.mono ?_
          rintro e w1 ⟨rfl, hr1, hk1⟩
          have d2 : w1.cell? ⟨r, 2, none⟩ = some (.int .i64 0) := Blk.cell hr1 2
          have HR1 := Lib.hid hr1
          have HK1 := Lib.hid hk1
          clear hr1 hk1
          go_wp2_with fail
          refine (fail_ok r A n c _ high p _ HR1.out hh).mono ?_
          rintro e w2 ⟨rfl, hr2, hk2⟩
          have HR2 := Lib.hid hr2
          have HK2 := Lib.hid hk2
          clear hr2 hk2
          go_wp2_with fail
          go_ret
          exact ⟨rfl, ⟨_, HR2.out, hh⟩, HK1.out.trans HK2.out⟩
        · rw [if_neg h2]
          clear e
          go_enter Try.func70, Try.ntmps70
          go_wp2_with fail
          refine HNUM.out.mono ?_
          rintro e w1 ⟨rfl, hr1, hk1⟩
          have d2 : w1.cell? ⟨r, 2, none⟩ = some (.int .i64 0) := Blk.cell hr1 2
          have HR1 := Lib.hid hr1
          have HK1 := Lib.hid hk1
          clear hr1 hk1
          go_wp2_with fail
          go_ret
          exact ⟨rfl, ⟨HR1.out, Hs.out⟩, HK1.out⟩

theorem byte_get (s : ByteArray) (k : Nat) (h : k < s.size) : s.data.toList.drop k = s[k] :: s.data.toList.drop (k + 1) := by
  rw [List.drop_eq_getElem_cons (by simpa using h)]; rfl
set_option maxHeartbeats 400000 in
/-- Mark. -/
theorem mark_any (r B : Nat) (A : Option Addr) (n c : Nat) (bs : List UInt8) (s : St) (w : World) (t : ByteArray) (ht : t.size ≤ 1000) (hr : At w r A n c s) (hb : SliceOf Rep.byte w B A n c bs) (hB : B ≤ r) :
    Calls Try.prog 69 #[.pointer (some ⟨r, 0, none⟩), .string t] w fun x w' => x = .returned (.tuple #[]) ∧ At w' r A n c (rMark bs s t.data.toList) ∧ Kept (fun k => k = r) w w' := by
  have hn := hb.len
  have hbd := hb.bound
  have HR := Lib.hid hr
  have HN := Lib.hid hn
  have HB := Lib.hid hb
  clear hr hn hb
  go_enter Try.func69, Try.ntmps69
  go_wp2_with fail
  go_loopw [4] (fun i wr => ∃ (k : Nat) (s' : St), k ≤ t.size ∧ i = .int .i64 k ∧ At wr r A n c s' ∧ rMark bs s t.data.toList = rMark bs s' (t.data.toList.drop k) ∧ Kept (fun k => k = r) w wr) (fun i _ => (t.size - intOf i).toNat)
  case atStart => exact ⟨0, s, by omega, rfl, HR.out, rfl, Kept.refl _ _⟩
  case round =>
    obtain ⟨k, s', hk, rfl, ha, hm, hkp⟩ := hrel
    have hb1 := HB.out.on hkp hB HR.out.lt
    by_cases hlt : k < t.size
    · have hd := byte_get t k hlt
      rw [hd] at hm
      have hu := u64_byte t[k]
      cases s' with
      | error x =>
        obtain ⟨a, hr, he⟩ := ha
        have c1 : wr.cell? ⟨r, 1, none⟩ = some (.int .i64 a) := Blk.cell hr 1
        have c2 : wr.cell? ⟨r, 2, none⟩ = some (.int .i64 x.1) := Blk.cell hr 2
        have h2 : (x.1 == 0) = false := by simpa using he
        have HR_ := Lib.hid hr
        have HE := Lib.hid he
        have HD := Lib.hid hd
        have HM := Lib.hid hm
        have HKP := Lib.hid hkp
        have HB1 := Lib.hid hb1
        clear hr he hd hm hkp hb1
        go_wp2_with fail
        refine (number_bad r 1 A n c a x.1 x.2 wr HR_.out HE.out).mono ?_
        rintro e w1 ⟨rfl, rfl⟩
        go_wp2_with fail
        exact ⟨⟨k + 1, .error x, by omega, by go_num, ⟨a, HR_.out, HE.out⟩, by rw [HM.out]; rfl, HKP.out⟩, by simp [intOf]; omega⟩
      | ok p =>
        obtain ⟨hr, hp⟩ := ha
        have c1 : wr.cell? ⟨r, 1, none⟩ = some (.int .i64 p) := Blk.cell hr 1
        by_cases h : bs.length < p + 1
        · have hm2 : rMark bs s t.data.toList = rMark bs (.error (5, bs.length)) (t.data.toList.drop (k + 1)) := by rw [hm]; simp only [rMark]; rw [if_pos h]
          have hs : n < p + 1 := by have := HN.out; omega
          have HR_ := Lib.hid hr
          have HD := Lib.hid hd
          have HM2 := Lib.hid hm2
          have HKP := Lib.hid hkp
          have HB1 := Lib.hid hb1
          have HS := Lib.hid hs
          clear hr hd hm2 hkp hb1 hs
          clear h hm
          go_wp2_with fail
          refine (number_short r 1 p A n c wr HR_.out (by decide) hp (by omega) HS.out).mono ?_
          rintro e w1 ⟨rfl, hr1, hk1⟩
          have c2 : w1.cell? ⟨r, 2, none⟩ = some (.int .i64 5) := Blk.cell hr1 2
          have HR1 := Lib.hid hr1
          have HK1 := Lib.hid hk1
          clear hr1 hk1
          go_wp2_with fail
          exact ⟨⟨k + 1, .error (5, n), by omega, by go_num, ⟨p, HR1.out, by simp⟩, by rw [HM2.out, ← HN.out], HKP.out.trans HK1.out⟩, by simp [intOf]; omega⟩
        · have hm2 : rMark bs s t.data.toList = rMark bs (if numV bs p 1 = t[k].toNat then .ok (p + 1) else .error (4, p)) (t.data.toList.drop (k + 1)) := by rw [hm]; simp only [rMark]; rw [if_neg h]
          have hnum := number_ok r 1 p B A n c bs wr hr hb1 (by decide) (by decide) (by have := HN.out; omega)
          have hv := numV_lt bs p 1
          have Hs : Hid (p + 1 ≤ n) := Lib.hid (by have := HN.out; omega)
          generalize numV bs p 1 = v at *
          have HNUM := Lib.hid hnum
          have HD := Lib.hid hd
          have HM2 := Lib.hid hm2
          have HKP := Lib.hid hkp
          have HB1 := Lib.hid hb1
          clear hnum hd hm2 hkp hb1
          clear h hm hr
          by_cases hq : v = t[k].toNat
          · have hq' : ((v : Int) != (t[k].toNat : Int)) = false := by rw [hq]; simp
            have HQ := Lib.hid hq
            clear hq
            go_wp2_with fail
            refine HNUM.out.mono ?_
            rintro e w1 ⟨rfl, hr1, hk1⟩
            have c2 : w1.cell? ⟨r, 2, none⟩ = some (.int .i64 0) := Blk.cell hr1 2
            have HR1 := Lib.hid hr1
            have HK1 := Lib.hid hk1
            clear hr1 hk1
            go_wp2_with fail
            exact ⟨⟨k + 1, .ok (p + 1), by omega, by go_num, ⟨HR1.out, Hs.out⟩, by rw [HM2.out, if_pos HQ.out], HKP.out.trans HK1.out⟩, by simp [intOf]; omega⟩
          · have hq' : ((v : Int) != (t[k].toNat : Int)) = true := by rw [bne_iff_ne]; intro e; apply hq; omega
            have HQ := Lib.hid hq
            clear hq
            go_wp2_with fail
            refine HNUM.out.mono ?_
            rintro e w1 ⟨rfl, hr1, hk1⟩
            have c2 : w1.cell? ⟨r, 2, none⟩ = some (.int .i64 0) := Blk.cell hr1 2
            have HR1 := Lib.hid hr1
            have HK1 := Lib.hid hk1
            clear hr1 hk1
            go_wp2_with fail
            refine (fail_ok r A n c _ 4 p _ HR1.out (by decide)).mono ?_
            rintro e w2 ⟨rfl, hr2, hk2⟩
            have HR2 := Lib.hid hr2
            have HK2 := Lib.hid hk2
            clear hr2 hk2
            go_wp2_with fail
            exact ⟨⟨k + 1, .error (4, p), by omega, by go_num, ⟨_, HR2.out, by simp⟩, by rw [HM2.out, if_neg HQ.out], (HKP.out.trans HK1.out).trans HK2.out⟩, by simp [intOf]; omega⟩
    · obtain rfl : k = t.size := by omega
      have HA := Lib.hid ha
      have HM := Lib.hid hm
      have HKP := Lib.hid hkp
      clear ha hm hkp
      go_wp2_with fail
      go_end0
      refine ⟨rfl, ?_, HKP.out⟩
      rw [HM.out, List.drop_of_length_le (by simp)]
      cases s' <;> exact HA.out
end Go.Proofs.Ytaefgljpdpigeaa.Reader
