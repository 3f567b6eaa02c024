/- The walk of package post's Take (layer 10). -/
import Derived.Test.YtnfaafdgfafcjaaPostT
import Derived.WalkMore
namespace Go.Proofs.Ytnfaafdgfafcjaa.Lane
open Go.RowKit Go.Fb Go.Shelf
attribute [local go_sem] Oper.semAt_some
set_option linter.unusedVariables false
/-! ### What Take answers, plainly. -/
def fullAt (Ls : List Lane) (c : Int) (k : Nat) : Bool := decide (0 < (laneAt Ls ((c + (k : Int)) % (Ls.length : Int))).vals.length)
def findP (Ls : List Lane) (c : Int) : Nat := (List.range Ls.length).findIdx (fullAt Ls c)
def tookN (v i : Int) (q : Int × Int) (lt : Bool) (e : Int) : Value := .tuple #[.int .i64 v, .int .i64 i, .agg #[.int .i64 q.1, .int .i64 q.2], .bool lt, .int .i64 e]
def takeV (L : Lane) : Int × (Int × Int) × Bool × Int := match L.vals, L.waits with
  | [], _ => (0, (0, 0), false, 21)
  | v :: _, [] => (v, (0, 0), false, 0)
  | v :: _, q :: _ => (v, q, true, 0)
def takeT (L : Lane) (i : Int) : Value := tookN (takeV L).1 i (takeV L).2.1 (takeV L).2.2.1 (takeV L).2.2.2
theorem take_form (L : Lane) : (takeL L).2 = tookV (takeV L).1 (takeV L).2.1 (takeV L).2.2.1 (takeV L).2.2.2 := by
  unfold takeL takeV
  cases hv : L.vals with
  | nil => rfl
  | cons v r =>
    cases hw : L.waits with
    | nil => rfl
    | cons q ws => rfl
def nextP (Ls : List Lane) (c : Int) : Int := (c + (findP Ls c : Int)) % (Ls.length : Int)
def takeP (Ls : List Lane) (c : Int) : List Lane × Int × Value :=
  if findP Ls c < Ls.length then (Ls.set (nextP Ls c).toNat (takeL (laneAt Ls (nextP Ls c))).1, (nextP Ls c + 1) % (Ls.length : Int), takeT (laneAt Ls (nextP Ls c)) (nextP Ls c))
  else (Ls, c, tookN 0 0 (0, 0) false 21)
theorem takeP_none {Ls : List Lane} {c : Int} (h : ∀ k, k < Ls.length → fullAt Ls c k = false) : takeP Ls c = (Ls, c, tookN 0 0 (0, 0) false 21) := by
  unfold takeP
  rw [if_neg]
  unfold findP
  rw [List.findIdx_eq_length_of_false (fun x hx => by rw [h x (List.mem_range.1 hx)])]
  simp
theorem findP_eq {Ls : List Lane} {c : Int} {k : Nat} (hk : k < Ls.length) (hf : fullAt Ls c k = true) (h : ∀ j, j < k → fullAt Ls c j = false) : findP Ls c = k := by
  unfold findP
  rw [List.findIdx_eq (by rw [List.length_range]; exact hk)]
  exact ⟨by rw [List.getElem_range]; exact hf, fun j hj => by rw [List.getElem_range]; exact h j hj⟩
theorem takeP_at {Ls : List Lane} {c : Int} {k i : Nat} (hk : k < Ls.length) (hf : fullAt Ls c k = true) (h : ∀ j, j < k → fullAt Ls c j = false) (hi : (c + (k : Int)) % (Ls.length : Int) = i) (hil : i < Ls.length) : takeP Ls c = (Ls.set i (takeL Ls[i]).1, ((i : Int) + 1) % (Ls.length : Int), takeT Ls[i] i) := by
  unfold takeP
  have e : nextP Ls c = i := by unfold nextP; rw [findP_eq hk hf h, hi]
  rw [findP_eq hk hf h, if_pos hk, e, laneAt_eq hil, Int.toNat_natCast]
theorem numsTo_split {c n : Nat} {h0 : 0 < n} {pre : List (Num n)} {x : Num n} (h : pre ++ [x] <+: numsTo c n h0 n) : pre.length < n ∧ x = numK c n pre.length h0 ∧ ∀ j, j < pre.length → numK c n j h0 ∈ pre := by
  obtain ⟨t, ht⟩ := h
  have hl : pre.length + 1 + t.length = n := by have := congrArg List.length ht; simp [numsTo_len] at this; omega
  have hg : ∀ j, j < n → (numsTo c n h0 n)[j]? = some (numK c n j h0) := fun j hj => by simp [numsTo, hj]
  refine ⟨by omega, ?_, fun j hj => ?_⟩
  · have := hg pre.length (by omega)
    rw [← ht] at this
    simpa using this
  · have := hg j (by omega)
    rw [← ht, List.append_assoc, List.getElem?_append_left hj] at this
    exact List.mem_of_getElem? this
theorem numsTo_all {c n : Nat} {h0 : 0 < n} (j : Nat) (hj : j < n) : numK c n j h0 ∈ numsTo c n h0 n := List.mem_map.2 ⟨j, List.mem_range.2 hj, rfl⟩
theorem ltake_any {w : World} {b : Nat} {F : Nat → Prop} {L : Lane} (h : At w b F L) (hv64 : L.vals.length ≤ 1048576) (ht : 0 ≤ L.taken ∧ L.taken ≤ 65535) : Calls Try.prog 25 #[.pointer (some ⟨b, 0, none⟩)] w (Ends w b F (takeL L).1 (takeL L).2) := by
  match hv : L.vals, hw : L.waits with
  | [], _ =>
    have e : takeL L = (L, tookV 0 (0, 0) false 21) := by unfold takeL; rw [hv]
    rw [e]; exact take_none h hv
  | x :: rest, [] =>
    have e : takeL L = ({ L with vals := rest, taken := min (L.taken + 1) 65535 }, tookV x (0, 0) false 0) := by unfold takeL; rw [hv, hw]
    rw [e]; exact take_plain h x rest hv hw ht
  | x :: rest, q :: ws =>
    have e : takeL L = ({ L with vals := rest ++ [q.2], waits := ws, taken := min (L.taken + 1) 65535 }, tookV x q true 0) := by unfold takeL; rw [hv, hw]
    rw [e]; exact take_in h x rest hv q ws hw hv64 ht
theorem kept_putObj {g : Nat → Prop} {a w : World} (h : Kept g a w) {D : Nat} (hD : a.heap.size ≤ D) (o : Obj) : Kept g a (w.putObj D o) := ⟨h.os, h.tape, h.output, by rw [World.putObj_size]; exact h.size, fun k hk hn => (World.putObj_heap_other (by omega)).trans (h.block k hk hn)⟩
section
variable {TP TL : TypeId} {w w' : World} {b : Nat} {r : Option Nat} {A : Option Addr} {c : Nat} {bs : Nat → Nat} {Fs Fs' : Nat → Nat → Prop} {Ls Ls' : List Lane} {cur cur' : Int} {F : Nat → Prop}
theorem PParts.turn (h : PParts TP TL w b r A c bs Fs Ls cur) (cur' : Int) : PParts TP TL (w.setCell ⟨b, 1, none⟩ (.int .i64 cur')) b r A c bs Fs Ls cur' := by
  have hk : Kept (fun k => k = b) w (w.setCell ⟨b, 1, none⟩ (.int .i64 cur')) := kept_at (Kept.refl _ w) 1 _
  exact ⟨h.blk.set (i := 1) _, h.row.of_kept (by decide) hk (fun k e e' => h.rb (e'▸ e)), fun i hi => (h.lanes i hi).kept hk (fun k e e' => (h.apart i k e).1 e'), h.apart, h.dis, h.rb, fun i k e => Nat.lt_of_lt_of_le (h.lt i k e) hk.size⟩
theorem PParts.ends2 (hlt : ∀ k, F k → k < w.heap.size) (hf : ∀ k, foot b r Fs k → F k) (hfp : ∀ i k, Fs' i k → Fs i k ∨ w.heap.size ≤ k) (hk : Kept F w w') (hp : PParts TP TL w' b r A c bs Fs' Ls' cur') (v : Value) : PEndsT TP TL w b F Ls' cur' v (.returned v) w' := by
  refine ⟨rfl, ⟨⟨r, A, c, bs, Fs', hp, ?_⟩, fun k e => e.2⟩, hk⟩
  rintro k (e | e | ⟨i, e⟩)
  · exact ⟨.inl (hf k (.inl e)), hp.foot_lt k (.inl e)⟩
  · exact ⟨.inl (hf k (.inr (.inl e))), hp.foot_lt k (.inr (.inl e))⟩
  · refine ⟨?_, hp.lt i k e⟩
    rcases hfp i k e with e' | e'
    · exact .inl (hf k (.inr (.inr ⟨i, e'⟩)))
    · exact .inr e'
end
section
variable {w : World} {b : Nat} {F : Nat → Prop} {Ls : List Lane} {cur : Int}
set_option maxRecDepth 100000 in
set_option maxHeartbeats 4000000 in
theorem ptake_any (h : PAt w b F Ls cur) (c : Nat) (hc : cur = c) (hcl : c < Ls.length) (hn9 : Ls.length ≤ 9) (hl : ∀ L ∈ Ls, L.vals.length ≤ 1048576) (ht : ∀ L ∈ Ls, 0 ≤ L.taken ∧ L.taken ≤ 65535) : Calls Try.prog 9 #[.pointer (some ⟨b, 0, none⟩)] w (PEnds w b F (takeP Ls c).1 (takeP Ls c).2.1 (takeP Ls c).2.2) := by
  have k1 : New w (((w.alloc (.cells #[.pointer (some ⟨b, 0, none⟩)] 30)).alloc (.cells #[.int .i64 (-1)] 3)).alloc (.cells #[.int .i64 0, .int .i64 0] 36)) := (((Kept.refl _ _).alloc _).alloc _).alloc _
  have hb0 := ((Blk.made w 30 #[.pointer (some ⟨b, 0, none⟩)]).alloc (.cells #[.int .i64 (-1)] 3)).alloc (.cells #[.int .i64 0, .int .i64 0] 36)
  have hb1 := (Blk.made_at (w.alloc (.cells #[.pointer (some ⟨b, 0, none⟩)] 30)) 3 #[.int .i64 (-1)] (w.heap.size + 1) (size1 _ _)).alloc (.cells #[.int .i64 0, .int .i64 0] 36)
  have hb2 := Blk.made_at ((w.alloc (.cells #[.pointer (some ⟨b, 0, none⟩)] 30)).alloc (.cells #[.int .i64 (-1)] 3)) 36 #[.int .i64 0, .int .i64 0] (w.heap.size + 1 + 1) (by rw [size1 w (.cells #[.pointer (some ⟨b, 0, none⟩)] 30), size1])
  have HR := Lib.hid (fun W (hW : New w W) => round_any (h.new hW))
  obtain ⟨⟨r, A, cc, bs, Fs, hp, hf⟩, hlt⟩ := h
  have hbb := hp.row.bound
  have HP := Lib.hid (fun W (hW : New w W) => hp.new hW)
  obtain ⟨n, hn⟩ : ∃ n, n = Ls.length := ⟨_, rfl⟩
  rw [← hn] at hcl hn9 hbb
  simp only [← hn] at HR
  subst hc
  have K1 := Lib.hid k1
  have HB0 := Lib.hid hb0
  have HB1 := Lib.hid hb1
  have HB2 := Lib.hid hb2
  have HF := Lib.hid hf
  have HLT := Lib.hid hlt
  have HN := Lib.hid hn
  clear k1 hb0 hb1 hb2 hf hlt hn
  clear hp
  refine (callsIn_wide (n := 9)).1 ?_
  refine callsIn_of_wp_marks Try.func9 rfl trivial ?_ rfl
  simp only [Try.ntmps9, List.size_toArray, List.length_cons, List.length_nil, Nat.reduceAdd, Nat.reduceSub, Array.replicate_succ, Array.replicate_zero, List.push_toArray, List.append_toArray, List.nil_append, List.cons_append]
  refine (wpIn_wide (n := 9)).2 ?_
  go_wp2_with fail
  go_step3
  go_wp2_with fail
  go_step3
  go_wp2_with fail
  refine (HR.out _ K1.out).mono ?_
  rintro e w2 ⟨b3, b4, rfl, x3, x4, g3, g4, hn2⟩
  have hb02 := HB0.out.kept hn2 id
  have hb12 := HB1.out.kept hn2 id
  have hb22 := HB2.out.kept hn2 id
  have hnw := K1.out.trans hn2
  have hz3 : w.heap.size + 1 + 1 < b3 := by have := HB2.out.lt; omega
  have hz4 : w.heap.size + 1 + 1 < b4 := by have := HB2.out.lt; omega
  have hl3 := (lt_of_cell x3).1
  have hl4 := (lt_of_cell x4).1
  have hz2 := hb22.lt
  have hnp : 0 < n := by omega
  obtain ⟨bl, hbl⟩ : ∃ bl, bl = w.heap.size + 1 := ⟨_, rfl⟩
  have HK : Hid (∀ A B : World, Kept (fun k => k = bl ∨ w2.heap.size ≤ k) A B → w2.heap.size ≤ A.heap.size → True) := Lib.hid fun _ _ _ _ => trivial
  have HB02 := Lib.hid hb02
  have HB12 := Lib.hid hb12
  have HB22 := Lib.hid hb22
  have HNW := Lib.hid hnw
  have HBL := Lib.hid hbl
  clear hb02 hb12 hb22 hnw hbl
  go_wp2_with fail
  refine (wpIn_wide (n := 9)).1 ?_
  refine wpIn_rangeFunc_ownG (α := Num n) (F := Fence.wide) (S := fun xs => xs = numsTo c n hnp n) (Sp := fun pre => pre <+: numsTo c n hnp n) (N := n) (w0 := w2) rfl (by decide) (gf := 47) (lb := #[.pointer (some ⟨b4, 0, none⟩), .pointer (some ⟨b3, 0, none⟩)]) rfl trivial (enters_of Try.func47 (by kernel_rfl) rfl)
    (encs := fun x : Num n => #[.int .i64 x.1]) (Kp := fun W W' => ∀ k, k < w2.heap.size → k ≠ bl → W'.heap[k]? = W.heap[k]?)
    (fun l J Jx W hW _ _ hY hJ => round1_in Fence.wide 8 trivial rfl (by decide) l b3 b4 c n hnp hcl (by omega) _ ?k1 ?k2 ?k3 J Jx hY W ((hW.cell (p := ⟨b3, 0, none⟩) hl3).trans x3) ((hW.cell (p := ⟨b4, 0, none⟩) hl4).trans x4) hJ) ?k4 ?k5 (Below.refl _ _) (fun _ => rfl)
    (fun pre W => New w2 W ∧ Hid (∀ x ∈ pre, (laneAt Ls x.1).vals.length = 0))
    (fun cd pre W => cd = .exit 0 ∧ ∃ pre' x, pre = pre' ++ [x] ∧ Hid (∀ y ∈ pre', (laneAt Ls y.1).vals.length = 0) ∧ 0 < (laneAt Ls x.1).vals.length ∧ W.cell? ⟨bl, 0, none⟩ = some (.int .i64 x.1) ∧ W.frozen? ⟨bl, 0, none⟩ = false ∧ Kept (fun k => k = bl) w2 W)
    ?k6 ?k7 ?k8 (fun x => { tmps := #[.pointer (some ⟨b, 0, none⟩), .pointer (some ⟨w.heap.size, 0, none⟩), .int .i64 0, .pointer (some ⟨w.heap.size + 1, 0, none⟩), .pointer (some ⟨w.heap.size + 1 + 1, 0, none⟩), .bool false, .int .i64 0, .int .i64 x.1, .pointer (some ⟨b, 0, none⟩), .func (.func 47) #[] #[.pointer (some ⟨b4, 0, none⟩), .pointer (some ⟨b3, 0, none⟩)], .int .i64 x.1, undef, undef, undef, undef, undef, undef, undef, undef, undef, undef, undef, undef, undef, undef, undef, undef, undef, undef, undef, undef, undef, undef, undef, undef, undef, undef, undef, undef, undef, undef, undef, undef, undef, undef, undef, undef, undef, undef, undef, undef, undef, undef], defers := [] }) ?assign ?body ?done ?stop
  case k1 => exact fun h1 h2 k hk hne => (h2 k hk hne).trans (h1 k hk hne)
  case k2 => exact fun W k hk hne => rfl
  case k3 => exact fun W W' h => ⟨World.cell?_of_block (h b3 hl3 (by have := HBL.out; omega)), World.cell?_of_block (h b4 hl4 (by have := HBL.out; omega))⟩
  case k4 => exact fun h1 h2 k hk hne => (h2 k hk hne).trans (h1 k hk hne)
  case k5 => exact fun W l o o' hl ho _ _ k hk hne => World.putObj_heap_other (by omega)
  case k6 => exact fun s W W' row hs hg hr => ⟨Kept.grown hs.1 hg (fun k e => .inl (hr k e).1), hs.2⟩
  case k7 =>
    rintro cd s W W' row ⟨h1, pre', x, h2, h3, h4, h5, h5f, h6⟩ hg hr
    exact ⟨h1, pre', x, h2, h3, h4, (World.cell?_of_block (w := W) (hg.block bl (lt_of_cell h5).1 (fun e => by have := (hr bl e.symm).1; have := HBL.out; omega))).trans h5, (World.frozen?_of_block (w := W) (hg.block bl (lt_of_cell h5).1 (fun e => by have := (hr bl e.symm).1; have := HBL.out; omega))).trans h5f, Kept.grown h6 hg (fun k e => .inl (hr k e).1)⟩
  case k8 => exact ⟨Kept.refl _ _, Lib.hid fun x hx => by cases hx⟩
  case assign =>
    intro l x W K hK
    gi_wp2
    exact hK
  case body =>
    rintro l pre ⟨xi, hx0, hx1⟩ W ⟨hW, hpre⟩ _
    obtain ⟨i, rfl⟩ : ∃ i : Nat, xi = i := ⟨xi.toNat, by omega⟩
    have hil : i < Ls.length := by have := HN.out; omega
    have hnW := HNW.out.trans hW
    obtain ⟨g, o, rfl, -, y0⟩ := (HP.out W hnW).cell i hil
    have c0 : W.cell? ⟨b, 0, none⟩ = some (.slice (some ⟨g, o, none⟩) n cc) := by rw [HN.out]; exact (HP.out W hnW).blk.cell 0
    have z0 : W.cell? ⟨w.heap.size, 0, none⟩ = some (.pointer (some ⟨b, 0, none⟩)) := (HB02.out.kept hW id).cell 0
    have z1 : W.cell? ⟨w.heap.size + 1, 0, none⟩ = some (.int .i64 (-1)) := (HB12.out.kept hW id).cell 0
    have zf : W.frozen? ⟨w.heap.size + 1, 0, none⟩ = false := (HB12.out.kept hW id).free 0
    have hln := len_any ((HP.out W hnW).lanes i hil)
    have hla := laneAt_eq hil
    have hlen : ((laneAt Ls (i : Int)).vals.length) = Ls[i].vals.length := by rw [hla]
    generalize Ls[i].vals.length = nv at *
    generalize bs i = bi at *
    have hi2 : i < n := by rw [HN.out]; exact hil
    have HPRE := hpre
    have HW := Lib.hid hW
    have HNW := Lib.hid hnW
    have HLN := Lib.hid hln
    have HLEN := Lib.hid hlen
    clear hW hnW hln hlen
    clear hpre hla
    by_cases hv : 0 < nv
    · have hv' : (0 : Int) < (nv : Int) := by omega
      gi_wp2_with (refine ⟨trivial, ?_⟩; gi_at_call 24; refine (CallsIn.inRound l (callsIn_wide.2 HLN.out)).mono ?_; rintro e w' ⟨rfl, rfl⟩)
      have h1 : (W.setCell ⟨w.heap.size + 1, 0, none⟩ (.int .i64 (i : Int))).cell? ⟨w.heap.size + 1, 0, none⟩ = some (.int .i64 (i : Int)) := World.cell?_setCell_same' _ _ _ (by rw [z1]; rfl)
      refine ⟨(KeepsOthers.setCell _ _ _).from _, rfl, pre, ⟨(i : Int), hx0, hx1⟩, rfl, HPRE, by rw [HLEN.out]; exact hv, by rw [HBL.out]; exact h1, by rw [HBL.out, World.frozen?_setCell]; exact zf, ?_⟩
      rw [HBL.out]
      exact Kept.setCell (g := fun k => k = w.heap.size + 1) (p := ⟨w.heap.size + 1, 0, none⟩) (HW.out.mono fun _ _ h => h.elim) (.inr rfl) _
    · have hv' : (nv : Int) ≤ 0 := by omega
      gi_wp2_with (refine ⟨trivial, ?_⟩; gi_at_call 24; refine (CallsIn.inRound l (callsIn_wide.2 HLN.out)).mono ?_; rintro e w' ⟨rfl, rfl⟩)
      refine ⟨KeepsFrom.refl _ _, fun k hk hne => rfl, HW.out, Lib.hid fun y hy => ?_⟩
      rcases List.mem_append.1 hy with hy | hy
      · exact HPRE.out y hy
      · rw [List.mem_singleton.1 hy]
        show (laneAt Ls (i : Int)).vals.length = 0
        rw [HLEN.out]; omega
  case done =>
    rintro D xs W hD hxs ⟨hW, hno⟩ hDef
    have z1 : W.cell? ⟨w.heap.size + 1, 0, none⟩ = some (.int .i64 (-1)) := (HB12.out.kept hW id).cell 0
    have zf : W.frozen? ⟨w.heap.size + 1, 0, none⟩ = false := (HB12.out.kept hW id).free 0
    have y0 : W.cell? ⟨w.heap.size + 1 + 1, 0, none⟩ = some (.int .i64 0) := (HB22.out.kept hW id).cell 0
    have y1 : W.cell? ⟨w.heap.size + 1 + 1, 1, none⟩ = some (.int .i64 0) := (HB22.out.kept hW id).cell 1
    have yf : ∀ i, W.frozen? ⟨w.heap.size + 1 + 1, i, none⟩ = false := (HB22.out.kept hW id).free
    have HW := Lib.hid hW
    have HNO := Lib.hid hno
    have HD := Lib.hid hD
    have HDEF := Lib.hid hDef
    have HXS := Lib.hid hxs
    clear hW hno hD hDef hxs
    go_wp2_with fail
    rw [Exit.noGoto_ret]
    have hDs : D < W.heap.size := (Array.getElem?_eq_some_iff.1 HDEF.out).1
    have k3 : Kept (fun k => k = w.heap.size + 1 ∨ k = w.heap.size + 1 + 1) W (((W.setCell ⟨w.heap.size + 1, 0, none⟩ (.int .i64 0)).setCell ⟨w.heap.size + 1 + 1, 0, none⟩ (.int .i64 0)).setCell ⟨w.heap.size + 1 + 1, 1, none⟩ (.int .i64 0)) :=
      Kept.setCell (p := ⟨w.heap.size + 1 + 1, 1, none⟩) (Kept.setCell (p := ⟨w.heap.size + 1 + 1, 0, none⟩) (Kept.setCell (p := ⟨w.heap.size + 1, 0, none⟩) (Kept.refl _ _) (.inr (.inl rfl)) _) (.inr (.inr rfl)) _) (.inr (.inr rfl)) _
    have hDD := HD.out
    have hDef' := (k3.block D hDs (by omega)).trans HDEF.out
    have kw : New w (((W.setCell ⟨w.heap.size + 1, 0, none⟩ (.int .i64 0)).setCell ⟨w.heap.size + 1 + 1, 0, none⟩ (.int .i64 0)).setCell ⟨w.heap.size + 1 + 1, 1, none⟩ (.int .i64 0)) := Kept.step (HNW.out.trans HW.out) k3 fun k hk e => by omega
    have kd := kept_putObj kw (D := D) (by omega) (.deferred none)
    have E : takeP Ls c = (Ls, (c : Int), tookN 0 0 (0, 0) false 21) := takeP_none fun k hk => by
      have := HNO.out.out (numK c n k hnp) (by rw [HXS.out]; exact numsTo_all k (by rw [HN.out]; exact hk))
      unfold fullAt
      refine decide_eq_false fun h => ?_
      rw [← HN.out] at h
      have e2 : (numK c n k hnp).1 = ((c : Int) + (k : Int)) % (n : Int) := rfl
      rw [e2] at this
      omega
    rw [E]
    have b1 := (HB12.out.kept HW.out id)
    have b2 := (HB22.out.kept HW.out id)
    have r1 := (((b1.set (i := 0) (.int .i64 0)).other (p := ⟨w.heap.size + 1 + 1, 0, none⟩) (by simp) (.int .i64 0)).other (p := ⟨w.heap.size + 1 + 1, 1, none⟩) (by simp) (.int .i64 0)).cell 0
    have hne1 : w.heap.size + 1 ≠ D := by omega
    have hne2 : w.heap.size + 1 + 1 ≠ D := by omega
    have b3' := (b2.other (p := ⟨w.heap.size + 1, 0, none⟩) (by simp) (.int .i64 0))
    have b4' := (b3'.set (i := 0) (.int .i64 0)).set (i := 1) (.int .i64 0)
    have r2 := b4'.cell 0
    have r3 := b4'.cell 1
    generalize (((W.setCell ⟨w.heap.size + 1, 0, none⟩ (.int .i64 0)).setCell ⟨w.heap.size + 1 + 1, 0, none⟩ (.int .i64 0)).setCell ⟨w.heap.size + 1 + 1, 1, none⟩ (.int .i64 0)) = W3 at *
    have r1' : (W3.putObj D (.deferred none)).cell? ⟨w.heap.size + 1, 0, none⟩ = some (.int .i64 0) := (World.cell?_of_block (w := W3) (World.putObj_heap_other hne1)).trans r1
    have r2' : (W3.putObj D (.deferred none)).cell? ⟨w.heap.size + 1 + 1, 0, none⟩ = some (.int .i64 0) := (World.cell?_of_block (w := W3) (World.putObj_heap_other hne2)).trans r2
    have r3' : (W3.putObj D (.deferred none)).cell? ⟨w.heap.size + 1 + 1, 1, none⟩ = some (.int .i64 0) := (World.cell?_of_block (w := W3) (World.putObj_heap_other hne2)).trans r3
    refine ⟨by simp, .inl ⟨_, _, rfl, run_takeDeferred hDef', ?_⟩⟩
    generalize W3.putObj D (.deferred none) = W4 at *
    clear HK HNO HDEF HD HXS HW hDef' k3 kw r1 r2 r3 b1 b2 b3' b4' z1 zf y0 y1 yf
    refine ⟨tookN 0 0 (0, 0) false 21, ?_, ?_⟩
    · simp [results, Try.results9, go_sem, tookN, r1', r2', r3']
    · exact PParts.ends2 HLT.out HF.out (fun _ _ e => .inl e) (kd.mono fun _ _ h => h.elim) (HP.out _ kd) _
  case stop =>
    rintro D cd pre W hD hpre ⟨rfl, pre', x, rfl, hno, hpos, hcell, hfrz, hk⟩ hDef
    obtain ⟨hkn, hx, hbe⟩ := numsTo_split hpre
    obtain ⟨xi, hx0, hx1⟩ := x
    obtain ⟨i, rfl⟩ : ∃ i : Nat, xi = i := ⟨xi.toNat, by omega⟩
    have hi2 : i < n := by omega
    have hil : i < Ls.length := by have := HN.out; omega
    have hxe : ((c : Int) + (pre'.length : Int)) % (n : Int) = i := (congrArg Subtype.val hx).symm
    have E : takeP Ls c = (Ls.set i (takeL Ls[i]).1, ((i : Int) + 1) % (n : Int), takeT Ls[i] i) := by
      have hn := HN.out
      have := takeP_at (Ls := Ls) (c := (c : Int)) (k := pre'.length) (i := i) (by omega) ?_ ?_ (by rw [← hn]; exact hxe) hil
      · rw [← hn] at this; exact this
      · unfold fullAt
        rw [← hn, hxe]
        exact decide_eq_true hpos
      · intro j hj
        unfold fullAt
        rw [← hn]
        have := hno.out _ (hbe j hj)
        rw [show (numK c n j hnp).1 = ((c : Int) + (j : Int)) % (n : Int) from rfl] at this
        exact decide_eq_false (by omega)
    have hn2' : Kept (fun k => k = bl) w2 W := hk
    have hnW : New w W := HNW.out.step hn2' fun k hk e => by have := HBL.out; omega
    replace hcell : W.cell? ⟨bl, 0, none⟩ = some (.int .i64 (i : Int)) := hcell
    clear hno hpos hbe hx hxe hpre hx0 hx1
    have hDs : D < W.heap.size := (Array.getElem?_eq_some_iff.1 hDef).1
    obtain ⟨g, o, rfl, -, y0⟩ := (HP.out W hnW).cell i hil
    have c0 : W.cell? ⟨b, 0, none⟩ = some (.slice (some ⟨g, o, none⟩) n cc) := by rw [HN.out]; exact (HP.out W hnW).blk.cell 0
    have c1 : W.cell? ⟨b, 1, none⟩ = some (.int .i64 (c : Int)) := (HP.out W hnW).blk.cell 1
    have f1 : W.frozen? ⟨b, 1, none⟩ = false := (HP.out W hnW).blk.free 1
    have hbW := (HP.out W hnW).blk
    have HTK := Lib.hid (fun V (hV : PParts 58 87 V b r (some ⟨g, o, none⟩) cc bs Fs Ls (((i : Int) + 1) % (n : Int))) => ltake_any (hV.lanes i hil) (hl _ (List.getElem_mem hil)) (ht _ (List.getElem_mem hil)))
    rw [take_form] at HTK
    have z0 : W.cell? ⟨w.heap.size, 0, none⟩ = some (.pointer (some ⟨b, 0, none⟩)) := (HB02.out.kept hk (by rw [HBL.out]; omega)).cell 0
    rw [HBL.out] at hcell hfrz
    have HNW_ := Lib.hid hnW
    have HK_ := Lib.hid hk
    have HD := Lib.hid hD
    have HDEF := Lib.hid hDef
    have HBW := Lib.hid hbW
    have HDS := Lib.hid hDs
    clear hnW hk hD hDef hbW hDs
    clear hl ht
    have i1 : (0 : Int) ≤ (i : Int) := by omega
    have i2 : (i : Int) < (n : Int) := by omega
    have i3 : (0 : Int) < (n : Int) := by omega
    have hwr : IntKind.i64.wrap ((i : Int) + 1) = (i : Int) + 1 := IntWalk.i64_in _ (by omega)
    obtain ⟨m, hm⟩ : ∃ m : Nat, ((i : Int) + 1) % (n : Int) = (m : Int) := ⟨(((i : Int) + 1) % (n : Int)).toNat, by have := Int.emod_nonneg ((i : Int) + 1) (show (n : Int) ≠ 0 by omega); omega⟩
    have hm2 : m < n := by have := Int.emod_lt_of_pos ((i : Int) + 1) i3; omega
    have hwm : IntKind.i64.wrap (m : Int) = (m : Int) := IntWalk.i64_in _ (by omega)
    have hnn : ¬ n = 0 := by omega
    have hmt : ((i : Int) + 1).tmod (n : Int) = (m : Int) := (IntWalk.rem_in _ _ (by omega)).trans hm
    rw [hm] at E HTK
    unfold takeT at E
    clear hm
    have HSB : Hid (∀ v, (W.setCell ⟨b, 1, none⟩ v).drew.cell? ⟨w.heap.size, 0, none⟩ = some (.pointer (some ⟨b, 0, none⟩)) ∧ (W.setCell ⟨b, 1, none⟩ v).drew.cell? ⟨w.heap.size + 1, 0, none⟩ = some (.int .i64 (i : Int)) ∧ (W.setCell ⟨b, 1, none⟩ v).drew.cell? ⟨b, 0, none⟩ = some (.slice (some ⟨g, o, none⟩) n cc)) := Lib.hid fun v => by
      show (W.setCell ⟨b, 1, none⟩ v).cell? ⟨w.heap.size, 0, none⟩ = some (.pointer (some ⟨b, 0, none⟩)) ∧ (W.setCell ⟨b, 1, none⟩ v).cell? ⟨w.heap.size + 1, 0, none⟩ = some (.int .i64 (i : Int)) ∧ (W.setCell ⟨b, 1, none⟩ v).cell? ⟨b, 0, none⟩ = some (.slice (some ⟨g, o, none⟩) n cc)
      have hV : New W W := Kept.refl _ _
      have hbw : b < w.heap.size := HLT.out b (HF.out b (.inl rfl))
      refine ⟨?_, ?_, ?_⟩
      · rw [World.cell?_setCell_other W ⟨b, 1, none⟩ ⟨w.heap.size, 0, none⟩ _ (by simp; try omega)]
        exact new_holds hV z0
      · rw [World.cell?_setCell_other W ⟨b, 1, none⟩ ⟨w.heap.size + 1, 0, none⟩ _ (by simp; try omega)]
        exact new_holds hV hcell
      · rw [World.cell?_setCell_other W ⟨b, 1, none⟩ ⟨b, 0, none⟩ _ (by simp)]
        exact new_holds hV c0
    have HS : Hid (∀ V, New W V → V.cell? ⟨w.heap.size, 0, none⟩ = some (.pointer (some ⟨b, 0, none⟩)) ∧ V.cell? ⟨w.heap.size + 1, 0, none⟩ = some (.int .i64 (i : Int)) ∧ V.cell? ⟨b, 0, none⟩ = some (.slice (some ⟨g, o, none⟩) n cc)) := Lib.hid fun V hV => ⟨new_holds hV z0, new_holds hV hcell, new_holds hV c0⟩
    have E_ := Lib.hid E
    clear E
    refine (wpIn_wide (n := 9)).2 ?_
    go_wp2_with fail
    go_region_held3 (fun V => V.cell? ⟨w.heap.size, 0, none⟩ = some (.pointer (some ⟨b, 0, none⟩)) ∧ V.cell? ⟨w.heap.size + 1, 0, none⟩ = some (.int .i64 (i : Int)) ∧ V.cell? ⟨b, 0, none⟩ = some (.slice (some ⟨g, o, none⟩) n cc)) (first | (with_reducible exact HSB.out _) | (refine HS.out _ ?_; repeat (first | exact Kept.refl _ _ | refine Kept.drew ?_)) | go_keep) (fail)
    have hb22 := HB22.out.kept HK_.out (by rw [HBL.out]; omega)
    have hk1 : Kept (fun k => k = b) W (W.setCell ⟨b, 1, none⟩ (.int .i64 (m : Int))).drew := (kept_at (Kept.refl _ W) 1 _).drew
    have hbw : b < w.heap.size := HLT.out b (HF.out b (.inl rfl))
    have hpp := ((HP.out W HNW_.out).turn (m : Int)).new ((Kept.refl _ _).drew)
    have hb22' := hb22.kept hk1 (by show ¬ (w.heap.size + 1 + 1 = b); omega)
    have hDs1 := (hk1.block D HDS.out (by show ¬ (D = b); have := HD.out; omega)).trans HDEF.out
    obtain ⟨q0, q1, q2⟩ := HSB.out (.int .i64 (m : Int))
    have hfull : Kept F w (W.setCell ⟨b, 1, none⟩ (.int .i64 (m : Int))).drew := (HNW_.out.mono fun _ _ h => h.elim).step hk1 fun k _ e => e ▸ HF.out b (.inl rfl)
    have f1W := (hk1.frozen (p := ⟨w.heap.size + 1, 0, none⟩) (lt_of_cell hcell).1 (by show ¬ (w.heap.size + 1 = b); omega)).trans hfrz
    clear HS HSB z0 hcell hfrz c0 c1 f1 y0
    generalize (W.setCell ⟨b, 1, none⟩ (.int .i64 (m : Int))).drew = W1 at *
    obtain ⟨g', o', e, -, y0⟩ := hpp.cell i hil
    injection e with e
    injection e with e1 e2
    subst e1
    subst e2
    have hct : Calls Try.prog 25 #[.pointer (some ⟨bs i, 0, none⟩)] W1.drew fun e w' => e = .returned (tookV (takeV Ls[i]).1 (takeV Ls[i]).2.1 (takeV Ls[i]).2.2.1 (takeV Ls[i]).2.2.2) ∧ AtT 87 w' (bs i) (grow (Fs i) W1 w') (takeL Ls[i]).1 ∧ Kept (Fs i) W1 w' := (HTK.out W1.drew (hpp.new (Kept.refl _ _).drew)).mono fun e w' h => ⟨h.1, h.2.1, (((Kept.refl (Fs i) W1).drew).trans h.2.2)⟩
    simp only [tookV] at hct
    have hzr : ∀ k, Fs i k → k < w.heap.size ∧ k ≠ b ∧ k ≠ g := fun k hk => ⟨HLT.out k (HF.out k (.inr (.inr ⟨i, hk⟩))), (hpp.apart i k hk).1, fun e => (hpp.apart i k hk).2 (by rw [e]; obtain ⟨g', o', e1, e2, -⟩ := hpp.cell i hil; injection e1 with e1; injection e1 with e3 e4; rw [e2, e3])⟩
    have HSV : Hid (∀ V, Kept (Fs i) W1 V → V.cell? ⟨w.heap.size, 0, none⟩ = some (.pointer (some ⟨b, 0, none⟩)) ∧ V.cell? ⟨w.heap.size + 1, 0, none⟩ = some (.int .i64 (i : Int)) ∧ V.cell? ⟨b, 0, none⟩ = some (.slice (some ⟨g, o, none⟩) n cc) ∧ V.cell? ⟨g, o + i, none⟩ = some (.pointer (some ⟨bs i, 0, none⟩))) := Lib.hid fun V hV =>
      ⟨(hV.cell (p := ⟨w.heap.size, 0, none⟩) (lt_of_cell q0).1 (fun h => by have := (hzr _ h).1; simp at this)).trans q0, (hV.cell (p := ⟨w.heap.size + 1, 0, none⟩) (lt_of_cell q1).1 (fun h => by have := (hzr _ h).1; simp at this; omega)).trans q1,
        (hV.cell (p := ⟨b, 0, none⟩) (lt_of_cell q2).1 (fun h => (hzr _ h).2.1 rfl)).trans q2, (hV.cell (p := ⟨g, o + i, none⟩) (lt_of_cell y0).1 (fun h => (hzr _ h).2.2 rfl)).trans y0⟩
    have HSW : Hid (∀ V v0 v1, Kept (Fs i) W1 V → ((V.setCell ⟨w.heap.size + 1 + 1, 0, none⟩ v0).setCell ⟨w.heap.size + 1 + 1, 1, none⟩ v1).cell? ⟨w.heap.size, 0, none⟩ = some (.pointer (some ⟨b, 0, none⟩)) ∧ ((V.setCell ⟨w.heap.size + 1 + 1, 0, none⟩ v0).setCell ⟨w.heap.size + 1 + 1, 1, none⟩ v1).cell? ⟨w.heap.size + 1, 0, none⟩ = some (.int .i64 (i : Int)) ∧ ((V.setCell ⟨w.heap.size + 1 + 1, 0, none⟩ v0).setCell ⟨w.heap.size + 1 + 1, 1, none⟩ v1).cell? ⟨b, 0, none⟩ = some (.slice (some ⟨g, o, none⟩) n cc) ∧ ((V.setCell ⟨w.heap.size + 1 + 1, 0, none⟩ v0).setCell ⟨w.heap.size + 1 + 1, 1, none⟩ v1).cell? ⟨g, o + i, none⟩ = some (.pointer (some ⟨bs i, 0, none⟩))) := Lib.hid fun V v0 v1 hV => by
      have hk : Kept (fun k => k = w.heap.size + 1 + 1) V ((V.setCell ⟨w.heap.size + 1 + 1, 0, none⟩ v0).setCell ⟨w.heap.size + 1 + 1, 1, none⟩ v1) := kept_at (kept_at (Kept.refl _ V) 0 v0) 1 v1
      obtain ⟨s0, s1, s2, s3⟩ := HSV.out V hV
      have hgw : g < w.heap.size := HLT.out g (HF.out g (.inr (.inl (by obtain ⟨g', o', e1, e2, -⟩ := hpp.cell i hil; injection e1 with e1; injection e1 with e3 e4; rw [e2, e3]))))
      refine ⟨(hk.cell (p := ⟨w.heap.size, 0, none⟩) (lt_of_cell s0).1 (by simp; omega)).trans s0, (hk.cell (p := ⟨w.heap.size + 1, 0, none⟩) (lt_of_cell s1).1 (by simp)).trans s1, (hk.cell (p := ⟨b, 0, none⟩) (lt_of_cell s2).1 (by simp; omega)).trans s2, (hk.cell (p := ⟨g, o + i, none⟩) (lt_of_cell s3).1 (by simp; omega)).trans s3⟩
    have HPST := Lib.hid (fun w' L' hk hL => hpp.step (w' := w') (L' := L') i hil hk hL)
    have hfpp := Lib.hid (hpp.blk.lt)
    generalize (takeL Ls[i]).1 = L' at *
    generalize takeV Ls[i] = tv at *
    have HN2 := Lib.hid (fun V (hV : Kept (Fs i) W1 V) => hb22'.kept hV (fun h => by have := (hzr _ h).1; omega))
    have HCT := Lib.hid hct
    clear hct
    clear hpp
    go_wp2_with fail
    go_region_held3 (fun V => V.cell? ⟨w.heap.size, 0, none⟩ = some (.pointer (some ⟨b, 0, none⟩)) ∧ V.cell? ⟨w.heap.size + 1, 0, none⟩ = some (.int .i64 (i : Int)) ∧ V.cell? ⟨b, 0, none⟩ = some (.slice (some ⟨g, o, none⟩) n cc) ∧ V.cell? ⟨g, o + i, none⟩ = some (.pointer (some ⟨bs i, 0, none⟩))) (first | (with_reducible refine HSW.out _ _ _ ?_; with_reducible assumption) | (refine HSV.out _ ?_; with_reducible first | assumption | exact Kept.drew (by assumption) | exact Kept.drew (Kept.refl _ _) | exact Kept.refl _ _) | go_keep) ((go_at_call 25; refine HCT.out.mono ?_; rintro e w3 ⟨rfl, hL3, hk3⟩; have d0 := (HN2.out w3 hk3).cell 0; have d1 := (HN2.out w3 hk3).cell 1; have df := (HN2.out w3 hk3).free; have HK4 := Lib.hid hk3; have HL4 := Lib.hid hL3; clear hL3))
    have hlt1 := HLT.out
    have hnew5 : Kept (fun k => k = w.heap.size + 1 + 1) w3 ((w3.setCell ⟨w.heap.size + 1 + 1, 0, none⟩ (.int .i64 tv.2.1.1)).setCell ⟨w.heap.size + 1 + 1, 1, none⟩ (.int .i64 tv.2.1.2)) := kept_at (kept_at (Kept.refl _ w3) 0 _) 1 _
    have hzD : w.heap.size ≤ D ∧ D ≠ w.heap.size + 1 ∧ D ≠ w.heap.size + 1 + 1 := by have := HD.out; omega
    have hb2l := HB22.out.lt
    have hs1 : w.heap.size + 1 + 1 < W1.heap.size := Nat.lt_of_lt_of_le hb22.lt hk1.size
    have hrl : ∀ k, r = some k → k < w.heap.size := fun k e => HLT.out k (HF.out k (.inr (.inl e)))
    have hfs : ∀ j k, (if j = i then grow (Fs i) W1 w3 else Fs j) k → Fs j k ∨ (w.heap.size ≤ k ∧ k ≠ w.heap.size + 1 + 1 ∧ k ≠ w.heap.size + 1 ∧ (k < W1.heap.size → False)) := by
      intro j k e
      by_cases c1 : j = i
      · rw [if_pos c1] at e
        rcases e.1 with e' | e'
        · subst c1; exact .inl e'
        · exact .inr ⟨by omega, by omega, by omega, fun h => by omega⟩
      · rw [if_neg c1] at e; exact .inl e
    have hlt2 : ∀ j k, Fs j k → k < w.heap.size := fun j k e => HLT.out k (HF.out k (.inr (.inr ⟨j, e⟩)))
    have hp5 := (HPST.out w3 L' HK4.out HL4.out).kept hnew5 (by
      rintro k (e | e | ⟨j, e⟩) e2
      · omega
      · have := hrl k e; omega
      · rcases hfs j k e with e3 | e3
        · have := hlt2 j k e3; omega
        · exact e3.2.1 e2)
    have hk5 := (hfull.step hk3 fun k _ e => HF.out k (.inr (.inr ⟨i, e⟩))).step hnew5 fun k hk e => by omega
    have hs3 := hk3.size
    have r1 := (hnew5.cell (p := ⟨w.heap.size + 1, 0, none⟩) (by have := (lt_of_cell q1).1; simp at this ⊢; omega) (by simp)).trans ((HSV.out w3 hk3).2.1)
    have f1 := (hnew5.frozen (p := ⟨w.heap.size + 1, 0, none⟩) (by have := (lt_of_cell q1).1; simp at this ⊢; omega) (by simp)).trans ((hk3.frozen (p := ⟨w.heap.size + 1, 0, none⟩) (lt_of_cell q1).1 (fun h => by have := (hzr _ h).1; simp at this; omega)).trans f1W)
    have hb25 := ((HN2.out w3 hk3).set (i := 0) (.int .i64 tv.2.1.1)).set (i := 1) (.int .i64 tv.2.1.2)
    have r2 := hb25.cell 0
    have r3 := hb25.cell 1
    have fr := hb25.free
    have hD5 := (hnew5.block D (by have := (Array.getElem?_eq_some_iff.1 hDs1).1; omega) (fun h => hzD.2.2 h)).trans ((hk3.block D (Array.getElem?_eq_some_iff.1 hDs1).1 (fun h => by have := (hzr _ h).1; omega)).trans hDs1)
    have hk5s := hk5.size
    have hDW := (Array.getElem?_eq_some_iff.1 hDs1).1
    have hpt := hfs
    clear HR K1 HB0 HB1 HB2 HK HB02 HB12 HB22 HNW HP HNW_ HK_ HBW HSV HSW HPST hfpp HTK HN2 HCT hDs1 q0 q1 q2 y0 hk1 hfull hb22 hb22' d0 d1 df hk3 hnew5 hb25 hzr hfs f1W HDEF
    generalize ((w3.setCell ⟨w.heap.size + 1 + 1, 0, none⟩ (.int .i64 tv.2.1.1)).setCell ⟨w.heap.size + 1 + 1, 1, none⟩ (.int .i64 tv.2.1.2)) = W5 at *
    go_wp2_with fail
    go_upto_region 10 with (fail)
    have HQ0 : Hid (W5.cell? ⟨w.heap.size + 1, 0, none⟩ = some (.int .i64 (i : Int)) ∧ W5.cell? ⟨w.heap.size + 1 + 1, 0, none⟩ = some (.int .i64 tv.2.1.1) ∧ W5.cell? ⟨w.heap.size + 1 + 1, 1, none⟩ = some (.int .i64 tv.2.1.2)) := Lib.hid ⟨r1, r2, r3⟩
    have HQD : Hid (∀ V : World, V.cell? ⟨w.heap.size + 1, 0, none⟩ = some (.int .i64 (i : Int)) ∧ V.cell? ⟨w.heap.size + 1 + 1, 0, none⟩ = some (.int .i64 tv.2.1.1) ∧ V.cell? ⟨w.heap.size + 1 + 1, 1, none⟩ = some (.int .i64 tv.2.1.2) → V.drew.cell? ⟨w.heap.size + 1, 0, none⟩ = some (.int .i64 (i : Int)) ∧ V.drew.cell? ⟨w.heap.size + 1 + 1, 0, none⟩ = some (.int .i64 tv.2.1.1) ∧ V.drew.cell? ⟨w.heap.size + 1 + 1, 1, none⟩ = some (.int .i64 tv.2.1.2)) := Lib.hid fun V h => h
    have HQ1 : Hid (∀ V : World, V.cell? ⟨w.heap.size + 1, 0, none⟩ = some (.int .i64 (i : Int)) ∧ V.cell? ⟨w.heap.size + 1 + 1, 0, none⟩ = some (.int .i64 tv.2.1.1) ∧ V.cell? ⟨w.heap.size + 1 + 1, 1, none⟩ = some (.int .i64 tv.2.1.2) → (V.setCell ⟨w.heap.size + 1, 0, none⟩ (.int .i64 (i : Int))).cell? ⟨w.heap.size + 1, 0, none⟩ = some (.int .i64 (i : Int)) ∧ (V.setCell ⟨w.heap.size + 1, 0, none⟩ (.int .i64 (i : Int))).cell? ⟨w.heap.size + 1 + 1, 0, none⟩ = some (.int .i64 tv.2.1.1) ∧ (V.setCell ⟨w.heap.size + 1, 0, none⟩ (.int .i64 (i : Int))).cell? ⟨w.heap.size + 1 + 1, 1, none⟩ = some (.int .i64 tv.2.1.2)) := Lib.hid fun V ⟨h1, h2, h3⟩ =>
      ⟨World.cell?_setCell_same' _ _ _ (by rw [h1]; rfl), (World.cell?_setCell_other V ⟨w.heap.size + 1, 0, none⟩ ⟨w.heap.size + 1 + 1, 0, none⟩ _ (by simp)).trans h2, (World.cell?_setCell_other V ⟨w.heap.size + 1, 0, none⟩ ⟨w.heap.size + 1 + 1, 1, none⟩ _ (by simp)).trans h3⟩
    have HQ2 : Hid (∀ V : World, V.cell? ⟨w.heap.size + 1, 0, none⟩ = some (.int .i64 (i : Int)) ∧ V.cell? ⟨w.heap.size + 1 + 1, 0, none⟩ = some (.int .i64 tv.2.1.1) ∧ V.cell? ⟨w.heap.size + 1 + 1, 1, none⟩ = some (.int .i64 tv.2.1.2) → (V.setCell ⟨w.heap.size + 1 + 1, 0, none⟩ (.int .i64 tv.2.1.1)).cell? ⟨w.heap.size + 1, 0, none⟩ = some (.int .i64 (i : Int)) ∧ (V.setCell ⟨w.heap.size + 1 + 1, 0, none⟩ (.int .i64 tv.2.1.1)).cell? ⟨w.heap.size + 1 + 1, 0, none⟩ = some (.int .i64 tv.2.1.1) ∧ (V.setCell ⟨w.heap.size + 1 + 1, 0, none⟩ (.int .i64 tv.2.1.1)).cell? ⟨w.heap.size + 1 + 1, 1, none⟩ = some (.int .i64 tv.2.1.2)) := Lib.hid fun V ⟨h1, h2, h3⟩ =>
      ⟨(World.cell?_setCell_other V ⟨w.heap.size + 1 + 1, 0, none⟩ ⟨w.heap.size + 1, 0, none⟩ _ (by simp)).trans h1, World.cell?_setCell_same' _ _ _ (by rw [h2]; rfl), (World.cell?_setCell_other V ⟨w.heap.size + 1 + 1, 0, none⟩ ⟨w.heap.size + 1 + 1, 1, none⟩ _ (by simp)).trans h3⟩
    have HQ3 : Hid (∀ V : World, V.cell? ⟨w.heap.size + 1, 0, none⟩ = some (.int .i64 (i : Int)) ∧ V.cell? ⟨w.heap.size + 1 + 1, 0, none⟩ = some (.int .i64 tv.2.1.1) ∧ V.cell? ⟨w.heap.size + 1 + 1, 1, none⟩ = some (.int .i64 tv.2.1.2) → (V.setCell ⟨w.heap.size + 1 + 1, 1, none⟩ (.int .i64 tv.2.1.2)).cell? ⟨w.heap.size + 1, 0, none⟩ = some (.int .i64 (i : Int)) ∧ (V.setCell ⟨w.heap.size + 1 + 1, 1, none⟩ (.int .i64 tv.2.1.2)).cell? ⟨w.heap.size + 1 + 1, 0, none⟩ = some (.int .i64 tv.2.1.1) ∧ (V.setCell ⟨w.heap.size + 1 + 1, 1, none⟩ (.int .i64 tv.2.1.2)).cell? ⟨w.heap.size + 1 + 1, 1, none⟩ = some (.int .i64 tv.2.1.2)) := Lib.hid fun V ⟨h1, h2, h3⟩ =>
      ⟨(World.cell?_setCell_other V ⟨w.heap.size + 1 + 1, 1, none⟩ ⟨w.heap.size + 1, 0, none⟩ _ (by simp)).trans h1, (World.cell?_setCell_other V ⟨w.heap.size + 1 + 1, 1, none⟩ ⟨w.heap.size + 1 + 1, 0, none⟩ _ (by simp)).trans h2, World.cell?_setCell_same' _ _ _ (by rw [h3]; rfl)⟩
    go_region_held3 (fun V => V.cell? ⟨w.heap.size + 1, 0, none⟩ = some (.int .i64 (i : Int)) ∧ V.cell? ⟨w.heap.size + 1 + 1, 0, none⟩ = some (.int .i64 tv.2.1.1) ∧ V.cell? ⟨w.heap.size + 1 + 1, 1, none⟩ = some (.int .i64 tv.2.1.2)) (first | (with_reducible refine HQD.out _ ?_; with_reducible repeat (first | exact HQ0.out | refine HQ3.out _ ?_ | refine HQ2.out _ ?_ | refine HQ1.out _ ?_)) | go_keep) (fail)
    have hk6 : Kept (fun k => k = w.heap.size + 1 ∨ k = w.heap.size + 1 + 1) W5 (((W5.setCell ⟨w.heap.size + 1, 0, none⟩ (.int .i64 (i : Int))).setCell ⟨w.heap.size + 1 + 1, 0, none⟩ (.int .i64 tv.2.1.1)).setCell ⟨w.heap.size + 1 + 1, 1, none⟩ (.int .i64 tv.2.1.2)).drew :=
      (Kept.setCell (p := ⟨w.heap.size + 1 + 1, 1, none⟩) (Kept.setCell (p := ⟨w.heap.size + 1 + 1, 0, none⟩) (Kept.setCell (p := ⟨w.heap.size + 1, 0, none⟩) (Kept.refl _ _) (.inr (.inl rfl)) _) (.inr (.inr rfl)) _) (.inr (.inr rfl)) _).drew
    obtain ⟨s1, s2, s3⟩ := HQD.out _ (HQ3.out _ (HQ2.out _ (HQ1.out _ HQ0.out)))
    have hDn := (Array.getElem?_eq_some_iff.1 hD5).1
    have hDef' := (hk6.block D hDn (by rintro (h | h); exact hzD.2.1 h; exact hzD.2.2 h)).trans hD5
    have hk7 := hk5.step hk6 fun k hk e => by omega
    have hp6 := hp5.kept hk6 (by
      rintro k (e | e | ⟨j, e⟩) e2
      · omega
      · have := hrl k e; omega
      · rcases hpt j k e with e3 | e3
        · have := hlt2 j k e3; omega
        · rcases e2 with e2 | e2
          · exact e3.2.2.1 e2
          · exact e3.2.1 e2)
    clear HQ0 HQ1 HQ2 HQ3 HQD hk6 r1 r2 r3 f1 fr hD5 hp5 hk5
    generalize (((W5.setCell ⟨w.heap.size + 1, 0, none⟩ (.int .i64 (i : Int))).setCell ⟨w.heap.size + 1 + 1, 0, none⟩ (.int .i64 tv.2.1.1)).setCell ⟨w.heap.size + 1 + 1, 1, none⟩ (.int .i64 tv.2.1.2)).drew = W6 at *
    have hD7 : w.heap.size ≤ D := hzD.1
    have hk8 := kept_putObj hk7 hD7 (.deferred none)
    have hkD : Kept (fun k => k = D) W6 (W6.putObj D (.deferred none)) := ⟨rfl, rfl, rfl, by rw [World.putObj_size]; exact Nat.le_refl _, fun k hk hn => World.putObj_heap_other hn⟩
    have hp8 := hp6.kept hkD (by
      rintro k (e | e | ⟨j, e⟩) e2
      · omega
      · have := hrl k e; omega
      · rcases hpt j k e with e3 | e3
        · have := hlt2 j k e3; omega
        · exact e3.2.2.2 (by omega))
    have t1 := (hkD.cell (p := ⟨w.heap.size + 1, 0, none⟩) (lt_of_cell s1).1 (fun h => hzD.2.1 h.symm)).trans s1
    have t2 := (hkD.cell (p := ⟨w.heap.size + 1 + 1, 0, none⟩) (lt_of_cell s2).1 (fun h => hzD.2.2 h.symm)).trans s2
    have t3 := (hkD.cell (p := ⟨w.heap.size + 1 + 1, 1, none⟩) (lt_of_cell s3).1 (fun h => hzD.2.2 h.symm)).trans s3
    have HEND := Lib.hid (PParts.ends2 HLT.out HF.out (fun j k e => (hpt j k e).imp id (·.1)) hk8 hp8 (tookN tv.1 i tv.2.1 tv.2.2.1 tv.2.2.2))
    clear hkD hp8 hk8 hp6 hk7 hpt hlt2 hrl hzD
    go_wp2_with fail
    rw [Exit.noGoto_ret]
    refine ⟨by simp, .inl ⟨_, _, rfl, run_takeDeferred hDef', ?_⟩⟩
    generalize W6.putObj D (.deferred none) = W7 at *
    refine ⟨tookN tv.1 i tv.2.1 tv.2.2.1 tv.2.2.2, ?_, ?_⟩
    · simp [results, Try.results9, go_sem, tookN, t1, t2, t3]
    · rw [E_.out]
      exact HEND.out
end
end Go.Proofs.Ytnfaafdgfafcjaa.Lane
