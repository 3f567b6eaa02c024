/- The walk of the reference's all (layer 8): the search for all stands. -/
import Derived.Test.YtjhiaicpgajeoaaValidF
namespace Go.Proofs.Ytjhiaicpgajeoaa.Valid
open Go.RowKit Go.Fb Go.BytesP Go.CodeP Go.ValidP
open Go.Proofs.Ytjhiaicpgajeoaa.Code (repIns ins_at ins_wf cellsI Wf)
set_option linter.unusedVariables false
/-- A block of so many bools, as a function. -/
def BoolsAt (w : World) (g K : Nat) (M : Nat → Bool) : Prop := ∃ cur, Blk w g 4 cur ∧ cur.size = K ∧ ∀ j, j < K → cur[j]? = some (.bool (M j))
namespace BoolsAt
variable {w w' : World} {g K : Nat} {M : Nat → Bool}
theorem lt (h : BoolsAt w g K M) : g < w.heap.size := by obtain ⟨cur, h1, -⟩ := h; exact h1.lt
theorem cell (h : BoolsAt w g K M) {j : Nat} (hj : j < K) : w.cell? ⟨g, j, none⟩ = some (.bool (M j)) := by
  obtain ⟨cur, h1, h2, h3⟩ := h
  rw [h1.cell, h3 j hj]
theorem free (h : BoolsAt w g K M) (j : Nat) : w.frozen? ⟨g, j, none⟩ = false := by obtain ⟨cur, h1, -⟩ := h; exact h1.free j
theorem kept {G : Nat → Prop} (h : BoolsAt w g K M) (hk : Kept G w w') (hg : ¬ G g) : BoolsAt w' g K M := by
  obtain ⟨cur, h1, h2⟩ := h
  exact ⟨cur, h1.kept hk hg, h2⟩
theorem set (h : BoolsAt w g K M) {j : Nat} (hj : j < K) (v : Bool) : BoolsAt (w.setCell ⟨g, j, none⟩ (.bool v)) g K (fun i => if i = j then v else M i) := by
  obtain ⟨cur, h1, h2, h3⟩ := h
  refine ⟨_, h1.set _, by simpa using h2, fun i hi => ?_⟩
  rw [Array.getElem?_setIfInBounds]
  by_cases e : j = i
  · subst e
    rw [if_pos rfl, if_pos (by omega)]
    simp
  · rw [if_neg e, h3 i hi]
    have e' : ¬ i = j := fun h => e h.symm
    simp [e']
theorem made (w : World) (K : Nat) : BoolsAt (w.alloc (.cells (Array.replicate K (Value.bool false)) 4)) w.heap.size K (fun _ => false) :=
  ⟨_, Blk.made _ _ _, by simp, fun j hj => by simp [hj]⟩
end BoolsAt
theorem tyBools : SliceTy Try.prog 34 4 1 1 := by
  obtain ⟨i, hi, hz, hs, hb⟩ := info_parts (P := Try.prog) (e := 4) (z := .bool false) (size := 1) (bytes := 1) (by kernel_rfl)
  exact ⟨Try.underlying34, ⟨i, _, hi, hz, hs, hb, rfl⟩, by decide⟩
theorem tyInts : SliceTy Try.prog 45 3 1 8 := by
  obtain ⟨i, hi, hz, hs, hb⟩ := info_parts (P := Try.prog) (e := 3) (z := .int .i64 0) (size := 1) (bytes := 8) (by kernel_rfl)
  exact ⟨Try.underlying45, ⟨i, _, hi, hz, hs, hb, rfl⟩, by decide⟩
/-- make([]T, K), T of one cell. -/
theorem run_make_one {P : Program} {t e : TypeId} {z : Value} {bytes : Nat} (hu : P.underlying t = some (.slice e)) (hi : ∃ i, P.info? e = some i ∧ i.zero = some z ∧ i.size = 1 ∧ i.bytes = bytes) (hz1 : z.cells = #[z]) (K : Nat) (hK : bytes * K ≤ 281474976710656) (h63 : K ≤ 9223372036854775807) (w : World) :
    (Instr.makeSlice t (.int .i64 (K : Int)) (.int .i64 (K : Int))).run P w = .ok (.slice (some ⟨w.heap.size, 0, none⟩) K K) (w.alloc (.cells (Array.replicate K z) e)) := by
  obtain ⟨i, hi, hz, hs, hb⟩ := hi
  have hb' : (i.bytes : Int) * (K : Int) ≤ 281474976710656 := by
    have h : ((i.bytes * K : Nat) : Int) ≤ 281474976710656 := by rw [hb]; omega
    rwa [Int.natCast_mul] at h
  have hr := run_make (P := P) w t e i z hu hi hz .i64 .i64 K K (by omega) (by omega) hb' (by omega)
  simp only [Int.toNat_natCast, hs, Nat.mul_one, hz1] at hr
  rw [hr]
  congr 3
  exact Array.toList_inj.1 (by rw [toList_madeCells_one, Array.toList_replicate])
theorem info_bool : ∃ i, (Try.prog).info? 4 = some i ∧ i.zero = some (.bool false) ∧ i.size = 1 ∧ i.bytes = 1 := by
  obtain ⟨i, hi, hz, hs, hb⟩ := info_parts (P := Try.prog) (e := 4) (z := .bool false) (size := 1) (bytes := 1) (by kernel_rfl)
  exact ⟨i, hi, hz, hs, hb⟩
theorem info_int : ∃ i, (Try.prog).info? 3 = some i ∧ i.zero = some (.int .i64 0) ∧ i.size = 1 ∧ i.bytes = 8 := by
  obtain ⟨i, hi, hz, hs, hb⟩ := info_parts (P := Try.prog) (e := 3) (z := .int .i64 0) (size := 1) (bytes := 8) (by kernel_rfl)
  exact ⟨i, hi, hz, hs, hb⟩
theorem codeS_lt {l : List Ins} {s : Stand} (h : Small l s) : codeS s < 256 * (l.length + 1) := by unfold Small at h; unfold codeS; omega
theorem codeS_inj {l : List Ins} {s t : Stand} (h : Small l s) (h' : Small l t) (e : codeS s = codeS t) : s = t := by
  unfold Small at h h'; unfold codeS at e
  exact Prod.ext (by omega) (by omega)
def cellN (s : Stand) : Value := .int .i64 (codeS s : Nat)
/-- How the search stands in memory. -/
structure AlI (l : List Ins) (w : World) (gm K : Nat) (L : List Stand) (M : Nat → Bool) (r : Option Nat) (A : Option Addr) (m c : Nat) (W : World) : Prop where
  new : New w W
  met : BoolsAt W gm K M
  tells : ∀ s, Small l s → (M (codeS s) = true ↔ s ∈ L)
  row : Row W 1 r A m c (L.map cellN)
  len : m = L.length
  far : ∀ k, r = some k → gm < k
  base : w.heap.size ≤ gm
  nodL : L.Nodup
  small : ∀ s ∈ L, Small l s
namespace AlI
variable {l : List Ins} {w W W' : World} {gm K : Nat} {L : List Stand} {M : Nat → Bool} {r : Option Nat} {A : Option Addr} {m c : Nat} {t : Stand}
theorem keep (h : AlI l w gm K L M r A m c W) (hn : New W W') : AlI l w gm K L M r A m c W' :=
  ⟨h.new.trans hn, h.met.kept hn id, h.tells, h.row.new (by decide) hn, h.len, h.far, h.base, h.nodL, h.small⟩
theorem push (h : AlI l w gm K L M r A m c W) (ht : t ∉ L) (hsm : Small l t) (hmet : BoolsAt W' gm K (fun i => if i = codeS t then true else M i))
    {r' : Option Nat} {A' : Option Addr} {c' B : Nat} (hrow : Row W' 1 r' A' (m + 1) c' (L.map cellN ++ [cellN t])) (hr : ∀ k, r' = some k → r = some k ∨ B ≤ k) (hB : gm < B) (hn : New w W') : AlI l w gm K (L ++ [t]) (fun i => if i = codeS t then true else M i) r' A' (m + 1) c' W' := by
  refine ⟨hn, hmet, fun s hs => ?_, by rw [List.map_append]; exact hrow, by rw [List.length_append, List.length_singleton, h.len], fun k hk => ?_, h.base, ?_, ?_⟩
  · by_cases e : codeS s = codeS t
    · rw [if_pos e]
      have := codeS_inj hs hsm e
      simp [this]
    · rw [if_neg e, h.tells s hs, List.mem_append, List.mem_singleton]
      exact ⟨.inl, fun h => by rcases h with h | h; exact h; exact absurd (by rw [h]) e⟩
  · rcases hr k hk with e | e
    · exact h.far k e
    · omega
  · exact List.nodup_append.2 ⟨h.nodL, by simp, fun a ha b hb e => by rw [List.mem_singleton.1 hb] at e; exact ht (e ▸ ha)⟩
  · intro s hs
    rcases List.mem_append.1 hs with hs | hs
    · exact h.small s hs
    · rw [List.mem_singleton.1 hs]; exact hsm
end AlI
theorem nats_at {w : World} {B : Nat} {A : Option Addr} {n c : Nat} {l : List Nat} (h : SliceOf repNat w B A n c l) (hn : 0 < n) : ∃ b o, A = some ⟨b, o, none⟩ ∧ b < B ∧ ∀ i (h : i < l.length), w.cell? ⟨b, o + i, none⟩ = some (.int .i64 (l[i] : Nat)) := by
  obtain ⟨b, o, e, hb, hc⟩ := h.get hn
  refine ⟨b, o, e, hb, fun i hi => ?_⟩
  obtain ⟨es, g1, rfl⟩ := hc i hi
  have := g1 0 (by decide)
  simpa [repNat] using this
/-- What all leaves. -/
def AllD (l : List Ins) (w : World) (e : Ending) (w' : World) : Prop := New w w' ∧ ∃ gm M, e = .returned (.slice (some ⟨gm, 0, none⟩) (256 * (l.length + 1)) (256 * (l.length + 1))) ∧ w.heap.size ≤ gm ∧ BoolsAt w' gm (256 * (l.length + 1)) M ∧ (∀ s, Small l s → (M (codeS s) = true ↔ ValidP.Reach l s)) ∧ ∃ (b : Int) (q : Nat), First l b q ∧ (b = 0 → q = 0)
set_option maxRecDepth 100000 in
set_option maxHeartbeats 4000000 in
theorem all_any {A : Option Addr} {n c : Nat} {l : List Ins} {w : World} {locks : Int} (hl : SliceOf repIns w w.heap.size A n c l) (hk : locks ≤ 8) (hc : ∀ x ∈ l, check x l.length locks = 0) (hn : n ≤ 256) :
    Calls Try.prog 23 #[.slice A n c] w (AllD l w) := by
  have hln := hl.len
  have hbd := hl.bound
  have HBE := Lib.hid (fun W (hW : New w W) p h hs => behind_any (p := p) (h := h) (w := W) ((hl.kept hW (Nat.le_refl _) (fun _ _ h => h)).more hW.size) hs hk hc hn)
  have hl256 : l.length ≤ 256 := by omega
  have HCNT := Lib.hid (fun L h1 h2 => small_count (L := L) hl256 h1 h2)
  have HNSM := Lib.hid (fun s h t ht => nexts_small hk hc (s := s) h (t := t) ht)
  obtain ⟨K, hK⟩ : ∃ K, 256 * (n + 1) = K := ⟨_, rfl⟩
  have hKe : (256 : Int) * ((n : Int) + 1) = (K : Int) := by omega
  have hKw : IntKind.i64.wrap (K : Int) = (K : Int) := by rw [IntKind.wrap_i64]; omega
  have hmk := run_make_one (P := Try.prog) (t := 34) Try.underlying34 info_bool rfl K (by omega) (by omega) w
  have hb0 := BoolsAt.made w K
  have hK0 : 0 < K := by omega
  have hn0 : New w (w.alloc (.cells (Array.replicate K (Value.bool false)) 4)) := (Kept.refl _ _).alloc _
  have hK9 : K ≤ 65792 := by omega
  have HL := Lib.hid hl
  have HC := Lib.hid hc
  have HLN := Lib.hid hln
  have HB0 := Lib.hid hb0
  have HN0 := Lib.hid hn0
  clear hl hc hln hb0 hn0
  go_enter Try.func23, Try.ntmps23
  go_upto_region 2 with (fail)
  generalize w.alloc (.cells (Array.replicate K (Value.bool false)) 4) = w0 at *
  clear hmk
  obtain ⟨gm, hgm⟩ : ∃ gm, gm = w.heap.size := ⟨_, rfl⟩
  have hb0 := HB0.out
  rw [← hgm] at hb0 ⊢
  have z0 : w0.cell? ⟨gm, 0, none⟩ = some (.bool false) := hb0.cell hK0
  have f0 := hb0.free 0
  have hb1 := hb0.set hK0 true
  have hn1 : New w (w0.setCell ⟨gm, 0, none⟩ (.bool true)) := HN0.out.setCell (.inl (by rw [hgm]; exact Nat.le_refl _)) _
  have HGM0 := Lib.hid hgm
  clear hb0 hgm
  have HB1 := Lib.hid hb1
  have HN1 := Lib.hid hn1
  clear hb1 hn1
  go_upto_region 3 with (fail)
  generalize w0.setCell ⟨gm, 0, none⟩ (.bool true) = w1 at *
  clear z0 f0
  have hb1 := HB1.out
  have hgm := HGM0.out
  have hgl : gm < w1.heap.size := hb1.lt
  have hn2 : New w (w1.alloc (.cells #[.int .i64 0] 3)) := HN1.out.alloc _
  have hrow0 : Row (w1.alloc (.cells #[.int .i64 0] 3)) 1 (some w1.heap.size) (some ⟨w1.heap.size, 0, none⟩) 1 1 ([(0, 0)].map cellN) := Row.of_made w1 [.int .i64 0] rfl (by unfold maxLen; omega) (by omega)
  have hst0 : AlI l w gm K [(0, 0)] (fun i => if i = 0 then true else false) (some w1.heap.size) (some ⟨w1.heap.size, 0, none⟩) 1 1 (w1.alloc (.cells #[.int .i64 0] 3)) := by
    refine ⟨hn2, hb1.kept ((Kept.refl (fun _ => False) _).alloc _) id, fun s hs => ?_, hrow0, rfl, fun k e => by injection e with e; omega, by omega, by simp, fun s hs => by simp at hs; subst hs; exact ⟨Nat.zero_le _, by show 0 < 256; decide⟩⟩
    have h0 : Small l (0, 0) := ⟨Nat.zero_le _, by show 0 < 256; decide⟩
    constructor
    · intro e
      have e2 : codeS s = codeS (0, 0) := by
        by_cases c : codeS s = 0
        · rw [c]; rfl
        · rw [if_neg c] at e; cases e
      rw [codeS_inj hs h0 e2]; simp
    · intro e
      rw [List.mem_singleton.1 e]
      rfl
  have HGM := Lib.hid hgm
  have HST0 := Lib.hid hst0
  clear hgm hst0
  clear hb1 hn2 hrow0
  go_wp2_with fail
  generalize w1.alloc (.cells #[.int .i64 0] 3) = w2 at *
  go_loopw [4, 5] (fun s4 s5 wr => ∃ (i : Nat) (L : List Stand) (M : Nat → Bool) (r : Option Nat) (A' : Option Addr) (m c' : Nat) (bad : Int) (at_ : Nat), s5 = .int .i64 i ∧ s4 = .slice A' m c' ∧ i ≤ m ∧ AlI l w gm K L M r A' m c' wr ∧ Search l (· ∈ L) (· ∈ L.drop i) bad at_ ∧ Hid (bad = 0 → at_ = 0)) (fun _ s _ => (65793 - intOf s).toNat)
  case atStart => exact ⟨0, [(0, 0)], _, _, _, _, _, 0, 0, rfl, rfl, Nat.zero_le _, HST0.out, by simpa using Search.start l, Lib.hid fun _ => rfl⟩
  case round =>
    obtain ⟨i, L, M, r, A', m, c', bad, at_, rfl, rfl, hi, hS, hSe, hz⟩ := hrel
    have HZ := hz
    clear hz
    have hrb := hS.row.bound
    have hm65 := HCNT.out _ hS.nodL hS.small
    rw [← hS.len] at hm65
    by_cases hlt : i < m
    · have hiL : i < L.length := by rw [← hS.len]; exact hlt
      obtain ⟨gb, o, rfl, rfl, hcl, -⟩ := hS.row.at_pos (by omega)
      have x0 := hcl i (by omega)
      rw [List.getElem?_map, List.getElem?_eq_getElem hiL, Option.map_some] at x0
      have hmem : L[i] ∈ L := List.getElem_mem hiL
      have hdr : L.drop i = L[i] :: L.drop (i + 1) := List.drop_eq_getElem_cons hiL
      have hsm := hS.small _ hmem
      generalize L[i] = s at *
      obtain ⟨p, h⟩ := s
      have x0 : wr.cell? ⟨gb, o + i, none⟩ = some (.int .i64 (codeS (p, h) : Nat)) := x0
      have hbe := HBE.out wr hS.new p h hsm
      have h1 : ∀ x, x ∈ L.drop i → x = (p, h) ∨ x ∈ L.drop (i + 1) := fun x hx => by rw [hdr] at hx; exact List.mem_cons.1 hx
      have h2 : ∀ x, x ∈ L.drop (i + 1) → x ∈ L.drop i := fun x hx => by rw [hdr]; exact List.mem_cons_of_mem _ hx
      have h3 : (p, h) ∈ L.drop i := by rw [hdr]; exact List.mem_cons_self ..
      have hsmn := fun t ht => HNSM.out (p, h) hsm t ht
      have hgb := hS.row.lt (by decide) gb rfl
      have hfar := hS.far gb rfl
      have HBEH := Lib.hid hbe
      have H1 := Lib.hid h1
      have H2 := Lib.hid h2
      have H3 := Lib.hid h3
      have HDR := Lib.hid hdr
      have HMEM := Lib.hid hmem
      have HSM := Lib.hid hsm
      have HS := Lib.hid hS
      have HSE := Lib.hid hSe
      have HSMN := Lib.hid hsmn
      clear hbe h1 h2 h3 hdr hmem hsm hS hSe hsmn
      clear hcl
      go_wp2_with fail
      refine HBEH.out.mono ?_
      rintro e w5 ⟨hn5, A2, m2, c2, rfl, hsl, hfr⟩
      have hm2 := hsl.len
      have hb2 := hsl.bound
      have hS5 := HS.out.keep hn5
      have hlt5 : wr.heap.size ≤ w5.heap.size := hn5.size
      by_cases hw0 : wrongS l (p, h) = 0
      · have hR : nextsR l (p, h) = (nexts l (p, h)).map codeS := by unfold nextsR; rw [if_pos hw0]
        rw [hR] at hsl hm2
        have hLk := HSE.out.pop (todo' := (· ∈ L.drop (i + 1))) H3.out H1.out H2.out hw0
        rw [List.length_map] at hm2
        generalize hnl : nexts l (p, h) = NX at *
        have hm22 : m2 ≤ 2 := by
          rw [hm2, ← hnl]
          unfold nexts
          split
          · simp
          · repeat' split
            all_goals simp
        have hml : i + 1 ≤ L.length := hiL
        have HSL := Lib.hid hsl
        have HFR := Lib.hid hfr
        have HM2 := Lib.hid hm2
        have HN5 := Lib.hid hn5
        have HS5 := Lib.hid hS5
        have HLK := Lib.hid hLk
        have HNL := Lib.hid hnl
        have HW0 := Lib.hid hw0
        have HR := Lib.hid hR
        clear hsl hfr hm2 hn5 hS5 hLk hnl hw0 hR
        clear HBEH HS HSE x0
        go_wp2_with fail
        go_loopw [4, 7] (fun s4 s7 wr2 => ∃ (k : Nat) (L1 : List Stand) (M1 : Nat → Bool) (r1 : Option Nat) (A1 : Option Addr) (m1 c1 : Nat), s7 = .int .i64 k ∧ s4 = .slice A1 m1 c1 ∧ k ≤ m2 ∧ AlI l w gm K L1 M1 r1 A1 m1 c1 wr2 ∧ Looks l (· ∈ L1) (· ∈ L1.drop (i + 1)) bad at_ (p, h) (NX.take k) ∧ Kept (fun j => j = gm ∨ j = gb) w5 wr2 ∧ (∀ j, r1 = some j → j = gb ∨ w5.heap.size ≤ j) ∧ i + 1 ≤ L1.length) (fun _ s _ => (m2 - intOf s).toNat)
        case atStart => exact ⟨0, L, M, some gb, _, m, c', rfl, rfl, Nat.zero_le _, HS5.out, by simpa using HLK.out, Kept.refl _ _, fun j e => .inl (by injection e with e; exact e.symm), hml⟩
        case round =>
          obtain ⟨k, L1, M1, r1, A1, m1, c1, rfl, rfl, hkm, hS1, hLk1, hk1, hr1, hi1⟩ := hrel
          have hb1 := hS1.row.bound
          have hm165 := HCNT.out _ hS1.nodL hS1.small
          rw [← hS1.len] at hm165
          by_cases hlt2 : k < m2
          · obtain ⟨b2, o2, rfl, -, hcs⟩ := nats_at HSL.out (by omega)
            have hkl : k < NX.length := by rw [← HM2.out]; exact hlt2
            have y0 := hcs k (by rw [List.length_map]; exact hkl)
            rw [List.getElem_map] at y0
            have hfb := HFR.out b2 o2 none rfl
            have hbl := (lt_of_cell y0).1
            have hne : ¬ (b2 = gm ∨ b2 = gb) := by omega
            have y0 := (hk1.cell (p := ⟨b2, o2 + k, none⟩) hbl hne).trans y0
            have htn : NX[k] ∈ nexts l (p, h) := by rw [HNL.out]; exact List.getElem_mem hkl
            have hts := HSMN.out _ (List.getElem_mem hkl)
            have htk : NX.take (k + 1) = NX.take k ++ [NX[k]] := List.take_succ_eq_append_getElem hkl
            generalize NX[k] = t at *
            have hct : codeS t < K := by have := codeS_lt hts; rw [← HLN.out, hK] at this; exact this
            have htl := hS1.tells t hts
            have z0 := hS1.met.cell hct
            have f0 := hS1.met.free (codeS t)
            obtain ⟨ct, hcte⟩ : ∃ ct, codeS t = ct := ⟨_, rfl⟩
            rw [hcte] at y0 hct z0 f0 htl
            clear hcs
            by_cases hin : t ∈ L1
            · rw [htl.2 hin] at z0
              have HIN := Lib.hid hin
              have HTL := Lib.hid htl
              have HTS := Lib.hid hts
              have HTN := Lib.hid htn
              have HTK := Lib.hid htk
              have HCTE := Lib.hid hcte
              have HS1 := Lib.hid hS1
              have HLK1 := Lib.hid hLk1
              have HK1 := Lib.hid hk1
              have HR1 := Lib.hid hr1
              clear hin htl hts htn htk hcte hS1 hLk1 hk1 hr1
              clear hfb hbl hne
              go_wp2_with fail
              go_roundw
              case rel => exact ⟨k + 1, L1, M1, r1, A1, m1, c1, by go_num, rfl, by omega, HS1.out, by rw [HTK.out]; exact HLK1.out.skip HIN.out, HK1.out, HR1.out, hi1⟩
              case measure => simp [intOf]; omega
            · have hM : M1 ct = false := by
                cases e : M1 ct with
                | false => rfl
                | true => exact absurd (htl.1 e) hin
              rw [hM] at z0
              have hk6 : Kept (fun j => j = gm) wr (wr.setCell ⟨gm, ct, none⟩ (.bool true)) := Kept.set1 wr gm ct _
              have hmt6 := hS1.met.set hct true
              have hrow6 := hS1.row.of_kept (by decide) hk6 fun j hj e => by have := hS1.far j hj; omega
              have y1 := (hk6.cell (p := ⟨b2, o2 + k, none⟩) (Nat.lt_of_lt_of_le hbl hk1.size) (fun e => hne (.inl e))).trans y0
              have hk56 := hk1.trans (hk6.mono (g' := fun j => j = gm ∨ j = gb) fun j _ e => .inl e)
              have hnew6 : New w (wr.setCell ⟨gm, ct, none⟩ (.bool true)) := hS1.new.setCell (.inl hS1.base) _
              have hg6 : gm < (wr.setCell ⟨gm, ct, none⟩ (.bool true)).heap.size := by rw [size_sc]; exact hS1.met.lt
              have hs6 : w5.heap.size ≤ (wr.setCell ⟨gm, ct, none⟩ (.bool true)).heap.size := hk56.size
              have HIN := Lib.hid hin
              have HTL := Lib.hid htl
              have HTS := Lib.hid hts
              have HTN := Lib.hid htn
              have HTK := Lib.hid htk
              have HCTE := Lib.hid hcte
              have HS1 := Lib.hid hS1
              have HLK1 := Lib.hid hLk1
              have HK1 := Lib.hid hk1
              have HR1 := Lib.hid hr1
              have HK6 := Lib.hid hk6
              have HMT6 := Lib.hid hmt6
              have HROW6 := Lib.hid hrow6
              have HK56 := Lib.hid hk56
              have HNEW6 := Lib.hid hnew6
              have HM := Lib.hid hM
              have HG6 := Lib.hid hg6
              have HS6 := Lib.hid hs6
              clear hin htl hts htn htk hcte hS1 hLk1 hk1 hr1 hk6 hmt6 hrow6 hk56 hnew6 hM hg6 hs6
              clear hfb hbl hne
              go_upto_region 13 with (fail)
              generalize wr.setCell ⟨gm, ct, none⟩ (.bool true) = w6 at *
              clear z0 f0 y0
              go_wp2_with (at_builtin; refine wpList_append_one (cs := [.int .i64 (ct : Nat)]) tyInts rfl _ _ rfl rfl HROW6.out rfl rfl rfl (by simp [Value.oneCell']) (by unfold maxLen; omega) (by omega) ?_; intro r8 A8 c8 w8 hr8 hk8 hn8)
              go_roundw
              case rel =>
                have hgr : ∀ j, r1 = some j → gm < j := HS1.out.far
                have hmt8 := HMT6.out.kept hk8 fun e => by have := hgr gm e; omega
                have hnew8 : New w w8 := HNEW6.out.step hk8 fun j hj e => by have := hgr j e; have := HS1.out.base; omega
                have hk58 : Kept (fun j => j = gm ∨ j = gb) w5 w8 := HK56.out.step hk8 fun j hj e => by rcases HR1.out j e with e' | e'; exact .inr e'; omega
                have hS8 := HS1.out.push HIN.out HTS.out (by rw [HCTE.out]; exact hmt8) (by unfold cellN; rw [HCTE.out]; exact hr8) hn8 HG6.out hnew8
                refine ⟨k + 1, _, _, r8, A8, m1 + 1, c8, by go_num, rfl, by omega, hS8, ?_, hk58, fun j hj => ?_, ?_⟩
                · rw [HTK.out]
                  exact HLK1.out.push HTN.out (fun x => by rw [List.mem_append, List.mem_singleton]) (fun x => by rw [List.drop_append_of_le_length hi1, List.mem_append, List.mem_singleton])
                · rcases hn8 j hj with e | e
                  · exact HR1.out j e
                  · have := HS6.out
                    omega
                · rw [List.length_append]; omega
              case measure => simp [intOf]; omega
          · obtain rfl : k = m2 := by omega
            have hLk2 := hLk1
            rw [HM2.out, List.take_length, ← HNL.out] at hLk2
            have hSe2 := hLk2.close
            have him : i + 1 ≤ m1 := by rw [hS1.len]; exact hi1
            have HS1 := Lib.hid hS1
            have HLK1 := Lib.hid hLk1
            have HK1 := Lib.hid hk1
            have HR1 := Lib.hid hr1
            have HLK2 := Lib.hid hLk2
            have HSE2 := Lib.hid hSe2
            clear hS1 hLk1 hk1 hr1 hLk2 hSe2
            go_wp2_with fail
            go_roundw
            case rel => exact ⟨i + 1, L1, M1, r1, A1, m1, c1, bad, at_, by go_num, rfl, him, HS1.out, HSE2.out, HZ⟩
            case measure => simp [intOf]; omega
      · have hR : nextsR l (p, h) = [] := by unfold nextsR; rw [if_neg hw0]
        rw [hR] at hm2
        obtain rfl : m2 = 0 := hm2
        have hSe2 := HSE.out.wrong (todo' := (· ∈ L.drop (i + 1))) H3.out H1.out H2.out hw0
        have hz2 : (if bad = 0 ∨ (p, h).1 < at_ then wrongS l (p, h) else bad) = 0 → (if bad = 0 ∨ (p, h).1 < at_ then (p, h).1 else at_) = 0 := fun e => by
          by_cases cc : bad = 0 ∨ (p, h).1 < at_
          · rw [if_pos cc] at e; exact absurd e hw0
          · rw [if_neg cc] at e; exact absurd (.inl e) cc
        have HSL := Lib.hid hsl
        have HFR := Lib.hid hfr
        have HN5 := Lib.hid hn5
        have HS5 := Lib.hid hS5
        have HSE2 := Lib.hid hSe2
        have HZ2 := Lib.hid hz2
        have HW0 := Lib.hid hw0
        have HR := Lib.hid hR
        clear hsl hfr hn5 hS5 hSe2 hz2 hw0 hR
        clear HBEH HS HSE x0
        go_wp2_with fail
        go_loopw [4, 7] (fun s4 s7 wr2 => s7 = .int .i64 0 ∧ s4 = .slice (some ⟨gb, o, none⟩) m c' ∧ wr2 = w5) (fun _ s _ => 0)
        case atStart => exact ⟨rfl, rfl, rfl⟩
        case round =>
          obtain ⟨rfl, rfl, rfl⟩ := hrel
          go_wp2_with fail
          go_roundw
          case rel => exact ⟨i + 1, L, M, some gb, _, m, c', _, _, by go_num, rfl, by omega, HS5.out, HSE2.out, HZ2⟩
          case measure => simp [intOf]; omega
    · obtain rfl : i = m := by omega
      have HS := Lib.hid hS
      have HSE := Lib.hid hSe
      clear hS hSe
      go_wp2_with fail
      go_ret
      have hd : L.drop i = [] := List.drop_of_length_le (by rw [← HS.out.len]; exact Nat.le_refl _)
      obtain ⟨h1, h2⟩ := HSE.out.all fun s hs => by rw [hd] at hs; cases hs
      have hKl : K = 256 * (l.length + 1) := by rw [← HLN.out, hK]
      refine ⟨HS.out.new, gm, M, by rw [hKl]; rfl, by rw [HGM.out]; exact Nat.le_refl _, by rw [← hKl]; exact HS.out.met, fun s hs => (HS.out.tells s hs).trans (h1 s), bad, at_, h2, HZ.out⟩
end Go.Proofs.Ytjhiaicpgajeoaa.Valid
