/- The walk of the laws' awake (layer 14). Printed by wip/tools/mkAw14.py. -/
import Derived.Test.YtaefgljpdpigeaaConfSm
import Derived.Test.YtaefgljpdpigeaaConfG
namespace Go.Proofs.Ytaefgljpdpigeaa.Conf
open Go.RowKit Go.Fb Go.CodeP Go.BytesP Go.ReaderP
set_option linter.unusedVariables false
theorem reads_ins : Reads insO Code.repIns := ⟨rfl, fun h => h⟩
theorem reads_proc : Reads procO repProc := ⟨rfl, fun {w F x cs} h => by
  obtain ⟨A, c, e, h1, h2⟩ := h
  exact ⟨A, c, e, h1.read reads_ins, h2⟩⟩
theorem reads_u64 : Reads u64O (Rep.int .u64) := ⟨rfl, fun h => h⟩
theorem reads_i64 : Reads i64O (Rep.int .i64) := ⟨rfl, fun h => h⟩
/-- A config's lists, as they are read, below block B. -/
structure ReadC (B : Nat) (w : World) (c : Cf) (Al : Option Addr) (cl : Nat) (At : Option Addr) (ct : Nat) (Ap : Option Addr) (cp : Nat) : Prop where
  labs : SliceOf (Rep.int .u64) w B Al c.labels.length cl c.labels
  tab : SliceOf (Rep.int .i64) w B At c.table.length ct c.table
  prs : SliceOf repProc w B Ap c.procs.length cp c.procs
section
variable {B B' : Nat} {w w' : World} {c d : Cf} {Al At Ap Bl Bt Bp : Option Addr} {cl ct cp dl dt dp : Nat}
theorem ReadC.kept {G : Nat → Prop} (h : ReadC B w c Al cl At ct Ap cp) (hk : Kept G w w') (hB : B ≤ w.heap.size) (hg : ∀ k, k < B → ¬ G k) : ReadC B w' c Al cl At ct Ap cp :=
  ⟨h.labs.kept hk hB (fun k a => hg k a), h.tab.kept hk hB (fun k a => hg k a), h.prs.kept hk hB (fun k a => hg k a)⟩
theorem ReadC.news (h : ReadC B w c Al cl At ct Ap cp) (hk : New w w') (hB : B ≤ w.heap.size) : ReadC B w' c Al cl At ct Ap cp := h.kept hk hB fun _ _ h => h
theorem ReadC.more (h : ReadC B w c Al cl At ct Ap cp) (hB : B ≤ B') : ReadC B' w c Al cl At ct Ap cp := ⟨h.labs.more hB, h.tab.more hB, h.prs.more hB⟩
theorem own_read {F : Nat → Prop} {cs : List Value} (h : confO.own w F c cs) : ∃ Al cl At ct Ap cp, cs = confC c Al cl At ct Ap cp ∧ ReadC w.heap.size w c Al cl At ct Ap cp := by
  obtain ⟨Al, cl, At, ct, Ap, cp, Fl, Ft, Fp, e, h1, h2, h3, -⟩ := h
  exact ⟨Al, cl, At, ct, Ap, cp, e, h1.read reads_u64, h2.read reads_i64, h3.read reads_proc⟩
/-- A config's lists that own their memory. -/
def OwnC (w : World) (F : Nat → Prop) (c : Cf) (Al : Option Addr) (cl : Nat) (At : Option Addr) (ct : Nat) (Ap : Option Addr) (cp : Nat) : Prop :=
  ∃ Fl Ft Fp : Nat → Prop, OSl u64O w Fl Al c.labels.length cl c.labels ∧ OSl i64O w Ft At c.table.length ct c.table ∧ OSl procO w Fp Ap c.procs.length cp c.procs ∧ (∀ k, Fl k ∨ Ft k ∨ Fp k → F k) ∧ (∀ k, (Fl k → ¬ Ft k ∧ ¬ Fp k) ∧ (Ft k → ¬ Fp k))
theorem own_open {F : Nat → Prop} {cs : List Value} (h : confO.own w F c cs) : ∃ Al cl At ct Ap cp, cs = confC c Al cl At ct Ap cp ∧ OwnC w F c Al cl At ct Ap cp := by
  obtain ⟨Al, cl, At, ct, Ap, cp, Fl, Ft, Fp, e, h1, h2, h3, h4, h5, -⟩ := h
  exact ⟨Al, cl, At, ct, Ap, cp, e, Fl, Ft, Fp, h1, h2, h3, h4, h5⟩
theorem OwnC.kept {F G : Nat → Prop} (h : OwnC w F c Al cl At ct Ap cp) (hk : Kept G w w') (hg : ∀ k, F k → ¬ G k) : OwnC w' F c Al cl At ct Ap cp := by
  obtain ⟨Fl, Ft, Fp, h1, h2, h3, h4, h5⟩ := h
  exact ⟨Fl, Ft, Fp, h1.kept hk (fun k e => hg k (h4 k (.inl e))), h2.kept hk (fun k e => hg k (h4 k (.inr (.inl e)))), h3.kept hk (fun k e => hg k (h4 k (.inr (.inr e)))), h4, h5⟩
theorem OwnC.read {F : Nat → Prop} (h : OwnC w F c Al cl At ct Ap cp) : ReadC w.heap.size w c Al cl At ct Ap cp := by
  obtain ⟨Fl, Ft, Fp, h1, h2, h3, -⟩ := h
  exact ⟨h1.read reads_u64, h2.read reads_i64, h3.read reads_proc⟩
theorem may_read (h : ReadC B w c Al cl At ct Ap cp) (hB : B ≤ w.heap.size) : Calls Try.prog 15 #[.agg (confC c Al cl At ct Ap cp).toArray] w fun e w' => e = .returned (.tuple #[.int .i64 (mayC c).1, .int .i64 (mayC c).2]) ∧ New w w' := may_any h.labs h.tab h.prs hB
theorem encode_read (h : ReadC B w c Al cl At ct Ap cp) (hB : B ≤ w.heap.size) : Calls Try.prog 10 #[.agg (confC c Al cl At ct Ap cp).toArray] w fun e w' => Encoded w w' e c := encode_any h.labs h.tab h.prs hB
theorem same_read (h : ReadC B w c Al cl At ct Ap cp) (g : ReadC B w c Bl dl Bt dt Bp dp) (hB : B ≤ w.heap.size) : Calls Try.prog 20 #[.agg (confC c Al cl At ct Ap cp).toArray, .agg (confC c Bl dl Bt dt Bp dp).toArray] w fun e w' => e = .returned (.bool true) ∧ New w w' :=
  rsame_any h.labs h.tab h.prs g.labs g.tab g.prs hB
theorem skel_read (h : ReadC B w c Al cl At ct Ap cp) (g : ReadC B w d Bl dl Bt dt Bp dp) (hB : B ≤ w.heap.size) : Calls Try.prog 13 #[.agg (confC c Al cl At ct Ap cp).toArray, .agg (confC d Bl dl Bt dt Bp dp).toArray] w fun e w' => e = .returned (.bool (eqb (skel c) (skel d))) ∧ New w w' :=
  skeleton_any h.labs h.tab h.prs g.labs g.tab g.prs hB
set_option maxRecDepth 100000 in
theorem skel_tt (h : ReadC B w smallC Al cl At ct Ap cp) (g : ReadC B' w smallC Bl dl Bt dt Bp dp) (hBB : B ≤ B') (hB : B' ≤ w.heap.size := by exact Nat.le_refl _) : Calls Try.prog 13 #[.agg #[.slice Al 2 cl, .slice At 2 ct, .int .i64 2, .int .i64 1, .int .i64 1, .int .i64 4, .slice Ap 1 cp], .agg #[.slice Bl 2 dl, .slice Bt 2 dt, .int .i64 2, .int .i64 1, .int .i64 1, .int .i64 4, .slice Bp 1 dp]] w fun e w' => e = .returned (.bool true) ∧ New w w' := by
  have := skel_read (h.more hBB) g hB
  rw [eqb_refl] at this
  exact this
set_option maxRecDepth 100000 in
theorem skel_tf (h : ReadC w.heap.size w smallC Al cl At ct Ap cp) (g : ReadC B w smallZ Bl dl Bt dt Bp dp) (hB : B ≤ w.heap.size) : Calls Try.prog 13 #[.agg #[.slice Al 2 cl, .slice At 2 ct, .int .i64 2, .int .i64 1, .int .i64 1, .int .i64 4, .slice Ap 1 cp], .agg #[.slice Bl 2 dl, .slice Bt 2 dt, .int .i64 0, .int .i64 1, .int .i64 1, .int .i64 4, .slice Bp 1 dp]] w fun e w' => e = .returned (.bool false) ∧ New w w' := by
  have := skel_read h (g.more hB) (Nat.le_refl _)
  rw [eqb_false ne_small] at this
  exact this
set_option maxRecDepth 100000 in
theorem same_one {w9 : World} (h : ReadC w9.heap.size w9 smallC Al cl At ct Ap cp) (g : ReadC w.heap.size w smallC Bl dl Bt dt Bp dp) (hn : New w9 w) : Calls Try.prog 20 #[.agg #[.slice Al 2 cl, .slice At 2 ct, .int .i64 2, .int .i64 1, .int .i64 1, .int .i64 4, .slice Ap 1 cp], .agg #[.slice Bl 2 dl, .slice Bt 2 dt, .int .i64 2, .int .i64 1, .int .i64 1, .int .i64 4, .slice Bp 1 dp]] w fun e w' => e = .returned (.bool true) ∧ New w w' := by
  have := same_read ((h.news hn (Nat.le_refl _)).more hn.size) g (Nat.le_refl _)
  exact this
end
set_option maxRecDepth 100000 in
set_option maxHeartbeats 4000000 in
theorem awake_any (w : World) : Calls Try.prog 9 #[] w fun e w' => e = .returned (.bool true) ∧ New w w' := by
  have HSM := Lib.hid (fun W => small_any W)
  go_enter Try.func9, Try.ntmps9
  go_upto_region 2 with (go_at_call 25; refine (HSM.out _).mono ?_; rintro e w1 ⟨⟨Al, cl, At, ct, Ap, cp, rfl, hl, ht, hp⟩, hn1⟩)
  have ka : New w1 (w1.alloc (.cells #[.slice Al 2 cl, .slice At 2 ct, .int .i64 2, .int .i64 1, .int .i64 1, .int .i64 4, .slice Ap 1 cp] 26)) := (Kept.refl _ _).alloc _
  have hb := Blk.made w1 26 #[.slice Al 2 cl, .slice At 2 ct, .int .i64 2, .int .i64 1, .int .i64 1, .int .i64 4, .slice Ap 1 cp]
  have hrc : ReadC w1.heap.size (w1.alloc (.cells #[.slice Al 2 cl, .slice At 2 ct, .int .i64 2, .int .i64 1, .int .i64 1, .int .i64 4, .slice Ap 1 cp] 26)) smallC Al cl At ct Ap cp := ReadC.news ⟨hl, ht, hp⟩ ka (Nat.le_refl _)
  have hcL := ka.size
  have hnA := hn1.trans ka
  have hcA : w.heap.size ≤ w1.heap.size := hn1.size
  clear ka hl ht hp hn1
  generalize w1.alloc (.cells #[.slice Al 2 cl, .slice At 2 ct, .int .i64 2, .int .i64 1, .int .i64 1, .int .i64 4, .slice Ap 1 cp] 26) = wA at *
  generalize w1.heap.size = ca at *
  have hmay := may_read hrc hcL
  rw [small_may] at hmay
  have y0 := hb.cell 0
  have y1 := hb.cell 1
  have y2 := hb.cell 2
  have y3 := hb.cell 3
  have y4 := hb.cell 4
  have y5 := hb.cell 5
  have y6 := hb.cell 6
  simp only [List.getElem?_toArray, List.getElem?_cons_zero, List.getElem?_cons_succ] at y0 y1 y2 y3 y4 y5 y6
  have HMAY := Lib.hid hmay
  have HRC := Lib.hid hrc
  have HNA := Lib.hid hnA
  have HB := Lib.hid hb
  clear hmay hrc hnA hb
  go_upto_region 3 with (go_at_call 15; refine HMAY.out.mono ?_; rintro e w2 ⟨rfl, hn2⟩)
  clear y0 y1 y2 y3 y4 y5 y6 HMAY
  have hb2 := HB.out.kept hn2 id
  have hr2 := HRC.out.news hn2 hcL
  have hc2 := Nat.le_trans hcL hn2.size
  have hn2' := HNA.out.trans hn2
  have henc := encode_read hr2 hc2
  unfold Encoded at henc
  rw [small_may, small_enc, small_len] at henc
  have y0 := hb2.cell 0
  have y1 := hb2.cell 1
  have y2 := hb2.cell 2
  have y3 := hb2.cell 3
  have y4 := hb2.cell 4
  have y5 := hb2.cell 5
  have y6 := hb2.cell 6
  simp only [List.getElem?_toArray, List.getElem?_cons_zero, List.getElem?_cons_succ] at y0 y1 y2 y3 y4 y5 y6
  have HENC := Lib.hid henc
  have HR2 := Lib.hid hr2
  have HN2' := Lib.hid hn2'
  have HB2 := Lib.hid hb2
  clear henc hr2 hn2' hb2
  clear hn2 HB HRC HNA
  go_upto_region 4 with (go_at_call 10; refine HENC.out.mono ?_; rintro e w3 ⟨r3, A3, k3, rfl, hrow3, hf3, hn3⟩)
  clear y0 y1 y2 y3 y4 y5 y6 HENC
  have hb3 := HB2.out.kept hn3 id
  have hr3 := HR2.out.news hn3 hc2
  have hc3 := Nat.le_trans hc2 hn3.size
  have hc3' : ca < w3.heap.size := hb3.lt
  have hn3' := HN2'.out.trans hn3
  have hdec := decode_any (Row.bytes hrow3).2
  unfold Decoded decE decL at hdec
  rw [small_dec] at hdec
  simp only at hdec
  have HDEC := Lib.hid hdec
  have HR3 := Lib.hid hr3
  have HN3' := Lib.hid hn3'
  have HB3 := Lib.hid hb3
  clear hdec hr3 hn3' hb3
  clear hn3 hrow3 hf3 HB2 HR2 HN2'
  go_upto_region 5 with (go_at_call 11; refine HDEC.out.mono ?_; rintro e w4 ⟨cs4, F4, rfl, hown4, hF4, hn4⟩; obtain ⟨Dl, dl, Dt, dt, Dp, dp, ecs, how4⟩ := own_open hown4; obtain rfl : cs4 = (confC smallC Dl dl Dt dt Dp dp).toArray := Array.ext' ecs; unfold confC smallC smallP; simp only [List.length_cons, List.length_nil]; have HB4 := Lib.hid (HB3.out.kept hn4 id); have HR4 := Lib.hid (HR3.out.news hn4 hc3); have HN4 := Lib.hid (HN3'.out.trans hn4); have HOW := Lib.hid how4; have HFF := Lib.hid hF4; have hs4 := hn4.size; clear hown4 hF4 hn4 ecs how4 HB3 HR3 HN3' HDEC)

  have k5 : New w4 (w4.alloc (.cells #[.slice Dl 2 dl, .slice Dt 2 dt, .int .i64 2, .int .i64 1, .int .i64 1, .int .i64 4, .slice Dp 1 dp] 26)) := (Kept.refl _ _).alloc _
  have hd5 := Blk.made w4 26 #[.slice Dl 2 dl, .slice Dt 2 dt, .int .i64 2, .int .i64 1, .int .i64 1, .int .i64 4, .slice Dp 1 dp]
  have hb5 := HB4.out.kept k5 id
  have hr5 := HR4.out.news k5 (Nat.le_trans hc3 hs4)
  have hn5 := HN4.out.trans k5
  have how5 := HOW.out.kept k5 (fun _ _ h => h)
  have hne : ca ≠ w4.heap.size := by omega
  clear k5 HB4 HR4 HN4 HOW
  generalize w4.alloc (.cells #[.slice Dl 2 dl, .slice Dt 2 dt, .int .i64 2, .int .i64 1, .int .i64 1, .int .i64 4, .slice Dp 1 dp] 26) = w5 at *
  generalize w4.heap.size = da at *
  have y2 := hb5.cell 2
  have f2 := hb5.free 2
  simp only [List.getElem?_toArray, List.getElem?_cons_zero, List.getElem?_cons_succ] at y2
  have HD5 := Lib.hid hd5
  have HB5 := Lib.hid hb5
  have HR5 := Lib.hid hr5
  have HN5 := Lib.hid hn5
  have HOW5 := Lib.hid how5
  clear hd5 hb5 hr5 hn5 how5
  go_upto_region 6 with (fail)
  have hks := Kept.set1 w5 ca 2 (.int .i64 0)
  have hb6 := HB5.out.set (i := 2) (.int .i64 0)
  have hd6 := HD5.out.kept hks hne.symm
  have hr6 := HR5.out.kept hks (by have := HB5.out.lt; omega) (fun k h e => by omega)
  have hn6 : New w (w5.setCell ⟨ca, 2, none⟩ (.int .i64 0)) := HN5.out.step hks fun i hi e => by omega
  have how6 := HOW5.out.kept hks (fun k e e' => by have := HFF.out k e; omega)
  clear hks y2 f2 HB5 HD5 HR5 HN5 HOW5
  generalize w5.setCell ⟨ca, 2, none⟩ (.int .i64 0) = w6 at *
  change Blk w6 ca 26 #[.slice Al 2 cl, .slice At 2 ct, .int .i64 0, .int .i64 1, .int .i64 1, .int .i64 4, .slice Ap 1 cp] at hb6
  have hrz : ReadC ca w6 smallZ Al cl At ct Ap cp := ⟨hr6.labs, hr6.tab, hr6.prs⟩
  have hlt6 := hb6.lt
  have hmay := may_read hrz (by omega)
  rw [small_mayZ] at hmay
  have y0 := hb6.cell 0
  have y1 := hb6.cell 1
  have y2 := hb6.cell 2
  have y3 := hb6.cell 3
  have y4 := hb6.cell 4
  have y5 := hb6.cell 5
  have y6 := hb6.cell 6
  simp only [List.getElem?_toArray, List.getElem?_cons_zero, List.getElem?_cons_succ] at y0 y1 y2 y3 y4 y5 y6
  have HMAY := Lib.hid hmay
  have HB6 := Lib.hid hb6
  have HD6 := Lib.hid hd6
  have HRZ := Lib.hid hrz
  have HN6 := Lib.hid hn6
  have HOW6 := Lib.hid how6
  clear hmay hb6 hd6 hrz hn6 how6
  clear hr6
  go_upto_region 7 with (go_at_call 15; refine HMAY.out.mono ?_; rintro e w7 ⟨rfl, hn7⟩)
  clear y0 y1 y2 y3 y4 y5 y6 HMAY
  have hb7 := HB6.out.kept hn7 id
  have hd7 := HD6.out.kept hn7 id
  have hr7 := HRZ.out.news hn7 (by omega)
  have hn7' := HN6.out.trans hn7
  have how7 := HOW6.out.kept hn7 (fun _ _ h => h)
  have hlt7 := hb7.lt
  have HB7 := Lib.hid hb7
  have HD7 := Lib.hid hd7
  have HR7 := Lib.hid hr7
  have HN7' := Lib.hid hn7'
  have HOW7 := Lib.hid how7
  clear hb7 hd7 hr7 hn7' how7
  clear hn7 HB6 HD6 HRZ HN6 HOW6
  have k8 : New w7 (w7.alloc (.cells #[.int .u8 70, .int .u8 66, .int .u8 67, .int .u8 70, .int .u8 2] 5 (5, 6))) := (Kept.refl _ _).alloc _
  have hdec := decode_any (show SliceOf Rep.byte (w7.alloc (.cells #[.int .u8 70, .int .u8 66, .int .u8 67, .int .u8 70, .int .u8 2] 5 (5, 6))) (w7.alloc (.cells #[.int .u8 70, .int .u8 66, .int .u8 67, .int .u8 70, .int .u8 2] 5 (5, 6))).heap.size (some ⟨w7.heap.size, 0, none⟩) 5 5 [70, 66, 67, 70, 2] from SliceOf.made (E := 5) (w := w7) (fr := (5, 6)) [70, 66, 67, 70, 2] (by decide))
  unfold Decoded decE decL at hdec
  rw [mark_dec] at hdec
  simp only at hdec
  have hcv := fun (w : World) (C : Array Value) (n c : Nat) => Lib.run_convert_bytes_const (P := Try.prog) w 27 5 C n c Try.underlying27 Try.underlying5
  have HDEC := Lib.hid hdec
  have K8 := Lib.hid k8
  clear hdec k8
  go_upto_region 8 with (go_at_call 11; refine HDEC.out.mono ?_; rintro e w8 ⟨cs8, F8, rfl, hown8, hF8, hn8⟩; obtain ⟨Z1, z1, Z2, z2, Z3, z3, ecs, -⟩ := own_open hown8; obtain rfl : cs8 = (confC cfZ Z1 z1 Z2 z2 Z3 z3).toArray := Array.ext' ecs; unfold confC cfZ; simp only [List.length_nil]; have HN8 := Lib.hid (K8.out.trans hn8); clear hown8 hF8 hn8 ecs HDEC K8)
  clear hcv
  have k9 : New w8 (w8.alloc (.cells #[.slice Z1 0 z1, .slice Z2 0 z2, .int .i64 0, .int .i64 0, .int .i64 0, .int .i64 0, .slice Z3 0 z3] 26)) := (Kept.refl _ _).alloc _
  have k79 := HN8.out.trans k9
  have hb9 := HB7.out.kept k79 id
  have hd9 := HD7.out.kept k79 id
  have hr9 := HR7.out.news k79 (Nat.le_of_lt hlt7)
  have hn9 := HN7'.out.trans k79
  have how9 := HOW7.out.kept k79 (fun _ _ h => h)
  have hlt9 := hb9.lt
  clear k9 k79 HN8 HB7 HD7 HR7 HN7' HOW7 hlt7 hlt6
  generalize w8.alloc (.cells #[.slice Z1 0 z1, .slice Z2 0 z2, .int .i64 0, .int .i64 0, .int .i64 0, .int .i64 0, .slice Z3 0 z3] 26) = w9 at *
  have hrd9 := how9.read
  have HB9 := Lib.hid hb9
  have HD9 := Lib.hid hd9
  have HR9 := Lib.hid hr9
  have HN9 := Lib.hid hn9
  have HRD9 := Lib.hid hrd9
  clear hb9 hd9 hr9 hn9 hrd9
  clear how9
  have hall : ∀ W, New w9 W → New w9 W ∧ W.cell? ⟨da, 0, none⟩ = some (.slice Dl 2 dl) ∧ W.cell? ⟨da, 1, none⟩ = some (.slice Dt 2 dt) ∧ W.cell? ⟨da, 2, none⟩ = some (.int .i64 2) ∧ W.cell? ⟨da, 3, none⟩ = some (.int .i64 1) ∧ W.cell? ⟨da, 4, none⟩ = some (.int .i64 1) ∧ W.cell? ⟨da, 5, none⟩ = some (.int .i64 4) ∧ W.cell? ⟨da, 6, none⟩ = some (.slice Dp 1 dp) ∧ W.cell? ⟨ca, 0, none⟩ = some (.slice Al 2 cl) ∧ W.cell? ⟨ca, 1, none⟩ = some (.slice At 2 ct) ∧ W.cell? ⟨ca, 2, none⟩ = some (.int .i64 0) ∧ W.cell? ⟨ca, 3, none⟩ = some (.int .i64 1) ∧ W.cell? ⟨ca, 4, none⟩ = some (.int .i64 1) ∧ W.cell? ⟨ca, 5, none⟩ = some (.int .i64 4) ∧ W.cell? ⟨ca, 6, none⟩ = some (.slice Ap 1 cp) := fun W hW => ⟨hW, (HD9.out.kept hW id).cell 0, (HD9.out.kept hW id).cell 1, (HD9.out.kept hW id).cell 2, (HD9.out.kept hW id).cell 3, (HD9.out.kept hW id).cell 4, (HD9.out.kept hW id).cell 5, (HD9.out.kept hW id).cell 6, (HB9.out.kept hW id).cell 0, (HB9.out.kept hW id).cell 1, (HB9.out.kept hW id).cell 2, (HB9.out.kept hW id).cell 3, (HB9.out.kept hW id).cell 4, (HB9.out.kept hW id).cell 5, (HB9.out.kept hW id).cell 6⟩
  obtain ⟨-, d0, d1, d2, d3, d4, d5, d6, c0, c1, c2, c3, c4, c5, c6⟩ := hall w9 (Kept.refl _ _)
  have HSM2 : Hid (∀ W, New w9 W → Calls Try.prog 25 #[] W fun e w' => (∃ (Al : Option Addr) (cl : Nat) (At : Option Addr) (ct : Nat) (Ap : Option Addr) (cp : Nat), e = .returned (.agg #[.slice Al 2 cl, .slice At 2 ct, .int .i64 2, .int .i64 1, .int .i64 1, .int .i64 4, .slice Ap 1 cp]) ∧ ReadC w'.heap.size w' smallC Al cl At ct Ap cp) ∧ New W w' ∧ New w9 w') :=
    Lib.hid fun W hW => (HSM.out W).mono fun e w' ⟨⟨Al, cl, At, ct, Ap, cp, h1, h2, h3, h4⟩, h5⟩ => ⟨⟨Al, cl, At, ct, Ap, cp, h1, ⟨h2, h3, h4⟩⟩, h5, hW.trans h5⟩
  have HALL := Lib.hid hall
  clear hall
  go_region_held3 (fun W => New w9 W ∧ W.cell? ⟨da, 0, none⟩ = some (.slice Dl 2 dl) ∧ W.cell? ⟨da, 1, none⟩ = some (.slice Dt 2 dt) ∧ W.cell? ⟨da, 2, none⟩ = some (.int .i64 2) ∧ W.cell? ⟨da, 3, none⟩ = some (.int .i64 1) ∧ W.cell? ⟨da, 4, none⟩ = some (.int .i64 1) ∧ W.cell? ⟨da, 5, none⟩ = some (.int .i64 4) ∧ W.cell? ⟨da, 6, none⟩ = some (.slice Dp 1 dp) ∧ W.cell? ⟨ca, 0, none⟩ = some (.slice Al 2 cl) ∧ W.cell? ⟨ca, 1, none⟩ = some (.slice At 2 ct) ∧ W.cell? ⟨ca, 2, none⟩ = some (.int .i64 0) ∧ W.cell? ⟨ca, 3, none⟩ = some (.int .i64 1) ∧ W.cell? ⟨ca, 4, none⟩ = some (.int .i64 1) ∧ W.cell? ⟨ca, 5, none⟩ = some (.int .i64 4) ∧ W.cell? ⟨ca, 6, none⟩ = some (.slice Ap 1 cp)) (first | exact HALL.out _ (by assumption) | exact HALL.out _ (Kept.refl _ _).drew) (first
    | (go_at_call 13; refine (skel_tf HP4.out (HR9.out.news N9_4.out (Nat.le_of_lt hlt9)) (by have := N9_4.out.size; omega)).mono ?_; rintro e u4 ⟨rfl, hu4⟩; have hu4 := N9_4.out.trans hu4)
    | (go_at_call 25; have hno := HU3.out; refine (HSM2.out _ (by assumption)).mono ?_; rintro e v4 ⟨⟨Sl, sl, St, st, Sp, sp, rfl, hp4⟩, -, hn94⟩; have HP4 := Lib.hid hp4; have N9_4 := Lib.hid hn94; clear hp4)
    | (go_at_call 13; refine (skel_tt (HP2.out.news N2_3.out (Nat.le_refl _)) HP3.out N2_3.out.size).mono ?_; rintro e u3 ⟨rfl, hu3⟩; have hu3 := N9_3.out.trans hu3; have HU3 := Lib.hid hu3)
    | (go_at_call 25; have hno := HP2.out; refine (HSM2.out _ (by assumption)).mono ?_; rintro e v3 ⟨⟨Rl, rl, Rt, rt, Rp, rp, rfl, hp3⟩, h23, hn93⟩; have HP3 := Lib.hid hp3; have N9_3 := Lib.hid hn93; have N2_3 := Lib.hid h23; clear hp3 h23)
    | (go_at_call 25; have hno := HU1.out; refine (HSM2.out _ (by assumption)).mono ?_; rintro e v2 ⟨⟨Ql, ql, Qt, qt, Qp, qp, rfl, hp2⟩, -, hn92⟩; have HP2 := Lib.hid hp2; clear hp2)
    | (go_at_call 20; refine (same_one HRD9.out HP1.out N9_1.out).mono ?_; rintro e u1 ⟨rfl, hu1⟩; have hu1 := N9_1.out.trans hu1; have HU1 := Lib.hid hu1)
    | (go_at_call 25; refine (HSM2.out _ (by first | assumption | exact (Kept.refl _ _).drew)).mono ?_; rintro e v1 ⟨⟨Pl, pl, Pt, pt, Pp, pp, rfl, hp1⟩, -, hn91⟩; have HP1 := Lib.hid hp1; have N9_1 := Lib.hid hn91; clear hp1))
  all_goals
    go_wp2_with fail
    go_ret
    exact ⟨rfl, HN9.out.trans hu4⟩
end Go.Proofs.Ytaefgljpdpigeaa.Conf
