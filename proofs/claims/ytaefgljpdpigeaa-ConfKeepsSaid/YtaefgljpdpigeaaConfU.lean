/- How a config stands while it is read (layer 14). -/
import Derived.Test.YtaefgljpdpigeaaConfK
namespace Go.Proofs.Ytaefgljpdpigeaa.Conf
open Go.RowKit Go.Fb Go.CodeP Go.BytesP Go.ReaderP
set_option linter.unusedVariables false
def u64O : ORep Int := ORep.flat 1 (by decide) (fun x => [.int .u64 x]) (fun _ => rfl) (fun x => (Lit.int .u64 x).wf = true)
def i64O : ORep Int := ORep.flat 1 (by decide) (fun x => [.int .i64 x]) (fun _ => rfl) (fun x => (Lit.int .i64 x).wf = true)
/-- A config that owns its memory. -/
def confO : ORep Cf where
  size := 7
  pos := by decide
  own w F x cs := ∃ (Al : Option Addr) (cl : Nat) (At : Option Addr) (ct : Nat) (Ap : Option Addr) (cp : Nat) (Fl Ft Fp : Nat → Prop), cs = confC x Al cl At ct Ap cp ∧ OSl u64O w Fl Al x.labels.length cl x.labels ∧ OSl i64O w Ft At x.table.length ct x.table ∧ OSl procO w Fp Ap x.procs.length cp x.procs ∧
    (∀ k, Fl k ∨ Ft k ∨ Fp k → F k) ∧ (∀ k, (Fl k → ¬ Ft k ∧ ¬ Fp k) ∧ (Ft k → ¬ Fp k)) ∧ ((Lit.int .i64 x.fuel).wf = true ∧ (Lit.int .i64 x.lane).wf = true ∧ (Lit.int .i64 x.locks).wf = true ∧ (Lit.int .i64 x.log).wf = true)
  length h := by obtain ⟨_, _, _, _, _, _, _, _, _, h, _⟩ := h; rw [h]; rfl
  kept h hk hg := by
    obtain ⟨Al, cl, At, ct, Ap, cp, Fl, Ft, Fp, h1, h2, h3, h4, h5, h6, h7⟩ := h
    exact ⟨Al, cl, At, ct, Ap, cp, Fl, Ft, Fp, h1, h2.kept hk (fun k e => hg k (h5 k (.inl e))), h3.kept hk (fun k e => hg k (h5 k (.inr (.inl e)))), h4.kept hk (fun k e => hg k (h5 k (.inr (.inr e)))), h5, h6, h7⟩
  mono h hF := by
    obtain ⟨Al, cl, At, ct, Ap, cp, Fl, Ft, Fp, h1, h2, h3, h4, h5, h6, h7⟩ := h
    exact ⟨Al, cl, At, ct, Ap, cp, Fl, Ft, Fp, h1, h2, h3, h4, fun k e => hF k (h5 k e), h6, h7⟩
def cfZ : Cf := ⟨[], [], 0, 0, 0, 0, []⟩
def zeroC : Array Value := #[.slice none 0 0, .slice none 0 0, .int .i64 0, .int .i64 0, .int .i64 0, .int .i64 0, .slice none 0 0]
theorem own_zero (w : World) : confO.own w (fun _ => False) cfZ zeroC.toList :=
  ⟨none, 0, none, 0, none, 0, fun _ => False, fun _ => False, fun _ => False, rfl, OSl.nil, OSl.nil, OSl.nil, by simp, by simp, by decide, by decide, by decide, by decide⟩
/-- How a config stands while it is read: the reader lies in block r, the config in cb, the result in res. -/
structure DecSt (w wr : World) (r cb res : Nat) (A : Option Addr) (n c : Nat) (s : St) (Fl Ft F : Nat → Prop) (Al : Option Addr) (cl : Nat) (At : Option Addr) (ct : Nat) (Ap : Option Addr) (cp : Nat) (ls t : List Int) (x2 x3 x4 x5 : Int) (acc : List (Int × List Ins)) : Prop where
  at_ : RAt wr r A n c s
  blk : Blk wr cb 26 #[.slice Al ls.length cl, .slice At t.length ct, .int .i64 x2, .int .i64 x3, .int .i64 x4, .int .i64 x5, .slice Ap acc.length cp]
  resB : Blk wr res 26 zeroC
  labs : OSl u64O wr Fl Al ls.length cl ls
  tab : OSl i64O wr Ft At t.length ct t
  prs : OSl procO wr F Ap acc.length cp acc
  own : ∀ k, Fl k ∨ Ft k ∨ F k → w.heap.size ≤ k ∧ k ≠ r ∧ k ≠ cb ∧ k ≠ res ∧ k < wr.heap.size
  dis : ∀ k, (Fl k → ¬ Ft k ∧ ¬ F k) ∧ (Ft k → ¬ F k)
  new : New w wr
section
variable {w wr w2 : World} {r cb res : Nat} {A : Option Addr} {n c : Nat} {s s2 : St} {Fl Ft F : Nat → Prop} {Al : Option Addr} {cl : Nat} {At : Option Addr} {ct : Nat} {Ap : Option Addr} {cp : Nat} {ls t : List Int} {x2 x3 x4 x5 : Int} {acc : List (Int × List Ins)}
/-- The reader alone has gone on. -/
theorem DecSt.went (h : DecSt w wr r cb res A n c s Fl Ft F Al cl At ct Ap cp ls t x2 x3 x4 x5 acc) (hr : RAt w2 r A n c s2) (hk : Kept (fun k => k = r) wr w2) (hrw : w.heap.size ≤ r) (hcr : cb ≠ r) (hre : res ≠ r) : DecSt w w2 r cb res A n c s2 Fl Ft F Al cl At ct Ap cp ls t x2 x3 x4 x5 acc :=
  ⟨hr, h.blk.kept hk hcr, h.resB.kept hk hre, h.labs.kept hk (fun k e => (h.own k (.inl e)).2.1), h.tab.kept hk (fun k e => (h.own k (.inr (.inl e))).2.1), h.prs.kept hk (fun k e => (h.own k (.inr (.inr e))).2.1),
    fun k e => by have := h.own k e; have := hk.size; exact ⟨by omega, by omega, by omega, by omega, by omega⟩, h.dis, h.new.step hk fun i hi e => by omega⟩
theorem DecSt.put (h : DecSt w wr r cb res A n c s Fl Ft F Al cl At ct Ap cp ls t x2 x3 x4 x5 acc) (hcw : w.heap.size ≤ cb) (hcr : cb ≠ r) (hre : res ≠ cb) (j : Nat) (v : Value) {cs : Array Value}
    (hb : Blk (wr.setCell ⟨cb, j, none⟩ v) cb 26 cs) : RAt (wr.setCell ⟨cb, j, none⟩ v) r A n c s ∧ Blk (wr.setCell ⟨cb, j, none⟩ v) res 26 zeroC ∧ OSl u64O (wr.setCell ⟨cb, j, none⟩ v) Fl Al ls.length cl ls ∧ OSl i64O (wr.setCell ⟨cb, j, none⟩ v) Ft At t.length ct t ∧ OSl procO (wr.setCell ⟨cb, j, none⟩ v) F Ap acc.length cp acc ∧
      (∀ k, Fl k ∨ Ft k ∨ F k → w.heap.size ≤ k ∧ k ≠ r ∧ k ≠ cb ∧ k ≠ res ∧ k < (wr.setCell ⟨cb, j, none⟩ v).heap.size) ∧ New w (wr.setCell ⟨cb, j, none⟩ v) := by
  have hk := Kept.set1 wr cb j v
  refine ⟨h.at_.kept hk (fun e => hcr e.symm), h.resB.kept hk hre, h.labs.kept hk (fun k e => (h.own k (.inl e)).2.2.1), h.tab.kept hk (fun k e => (h.own k (.inr (.inl e))).2.2.1), h.prs.kept hk (fun k e => (h.own k (.inr (.inr e))).2.2.1), fun k e => ?_, h.new.step hk fun i hi e => by omega⟩
  have := h.own k e
  have := hk.size
  exact ⟨by omega, by omega, by omega, by omega, by omega⟩
theorem DecSt.set2 (h : DecSt w wr r cb res A n c s Fl Ft F Al cl At ct Ap cp ls t x2 x3 x4 x5 acc) (hcw : w.heap.size ≤ cb) (hcr : cb ≠ r) (hre : res ≠ cb) (v : Int) : DecSt w (wr.setCell ⟨cb, 2, none⟩ (.int .i64 v)) r cb res A n c s Fl Ft F Al cl At ct Ap cp ls t v x3 x4 x5 acc := by
  have hb := h.blk.set (i := 2) (.int .i64 v)
  obtain ⟨h1, h2, h3, h4, h5, h6, h7⟩ := h.put hcw hcr hre 2 (.int .i64 v) hb
  exact ⟨h1, by simpa using hb, h2, h3, h4, h5, h6, h.dis, h7⟩
theorem DecSt.set3 (h : DecSt w wr r cb res A n c s Fl Ft F Al cl At ct Ap cp ls t x2 x3 x4 x5 acc) (hcw : w.heap.size ≤ cb) (hcr : cb ≠ r) (hre : res ≠ cb) (v : Int) : DecSt w (wr.setCell ⟨cb, 3, none⟩ (.int .i64 v)) r cb res A n c s Fl Ft F Al cl At ct Ap cp ls t x2 v x4 x5 acc := by
  have hb := h.blk.set (i := 3) (.int .i64 v)
  obtain ⟨h1, h2, h3, h4, h5, h6, h7⟩ := h.put hcw hcr hre 3 (.int .i64 v) hb
  exact ⟨h1, by simpa using hb, h2, h3, h4, h5, h6, h.dis, h7⟩
theorem DecSt.set4 (h : DecSt w wr r cb res A n c s Fl Ft F Al cl At ct Ap cp ls t x2 x3 x4 x5 acc) (hcw : w.heap.size ≤ cb) (hcr : cb ≠ r) (hre : res ≠ cb) (v : Int) : DecSt w (wr.setCell ⟨cb, 4, none⟩ (.int .i64 v)) r cb res A n c s Fl Ft F Al cl At ct Ap cp ls t x2 x3 v x5 acc := by
  have hb := h.blk.set (i := 4) (.int .i64 v)
  obtain ⟨h1, h2, h3, h4, h5, h6, h7⟩ := h.put hcw hcr hre 4 (.int .i64 v) hb
  exact ⟨h1, by simpa using hb, h2, h3, h4, h5, h6, h.dis, h7⟩
theorem DecSt.set5 (h : DecSt w wr r cb res A n c s Fl Ft F Al cl At ct Ap cp ls t x2 x3 x4 x5 acc) (hcw : w.heap.size ≤ cb) (hcr : cb ≠ r) (hre : res ≠ cb) (v : Int) : DecSt w (wr.setCell ⟨cb, 5, none⟩ (.int .i64 v)) r cb res A n c s Fl Ft F Al cl At ct Ap cp ls t x2 x3 x4 v acc := by
  have hb := h.blk.set (i := 5) (.int .i64 v)
  obtain ⟨h1, h2, h3, h4, h5, h6, h7⟩ := h.put hcw hcr hre 5 (.int .i64 v) hb
  exact ⟨h1, by simpa using hb, h2, h3, h4, h5, h6, h.dis, h7⟩
/-- A process was read. -/
theorem DecSt.proc (h : DecSt w wr r cb res A n c s Fl Ft F Al cl At ct Ap cp ls t x2 x3 x4 x5 acc) (hrw : w.heap.size ≤ r) (hcw : w.heap.size ≤ cb) (hre : res ≠ r) (hrc : res ≠ cb) {D : Nat → Except (Int × Int) ((Int × List Ins) × Nat)} (hp : ProcR wr w2 r cb A n c F (.slice Al ls.length cl) (.slice At t.length ct) (.int .i64 x2) (.int .i64 x3) (.int .i64 x4) (.int .i64 x5) acc D s) :
    ∃ (x : Int × List Ins) (s' : St) (Ap' : Option Addr) (cp' : Nat) (F' : Nat → Prop), DecSt w w2 r cb res A n c s' Fl Ft F' Al cl At ct Ap' cp' ls t x2 x3 x4 x5 (acc ++ [x]) ∧ Run D s s' x := by
  obtain ⟨x, s', Ap', cp', F', h1, h2, h3, h4, h5, h6⟩ := hp
  have hl : (acc ++ [x]).length = acc.length + 1 := by rw [List.length_append]; rfl
  have hn : ∀ k, (k = r ∨ k = cb ∨ F k) → w.heap.size ≤ k := by
    rintro k (e | e | e)
    · omega
    · omega
    · exact (h.own k (.inr (.inr e))).1
  have hlt := h.resB.lt
  have hsz := h6.size
  have hresF : ¬ (res = r ∨ res = cb ∨ F res) := by
    rintro (e | e | e)
    · exact hre e
    · exact hrc e
    · exact (h.own res (.inr (.inr e))).2.2.2.1 rfl
  have hnl : ∀ k, Fl k → ¬ (k = r ∨ k = cb ∨ F k) := fun k e => by
    have := h.own k (.inl e)
    rintro (e' | e' | e')
    · exact this.2.1 e'
    · exact this.2.2.1 e'
    · exact ((h.dis k).1 e).2 e'
  have hnt : ∀ k, Ft k → ¬ (k = r ∨ k = cb ∨ F k) := fun k e => by
    have := h.own k (.inr (.inl e))
    rintro (e' | e' | e')
    · exact this.2.1 e'
    · exact this.2.2.1 e'
    · exact (h.dis k).2 e e'
  refine ⟨x, s', Ap', cp', F', ⟨h1, by rw [hl]; exact h2, h.resB.kept h6 hresF, h.labs.kept h6 hnl, h.tab.kept h6 hnt, by rw [hl]; exact h3, ?_, ?_, h.new.step h6 fun i hi e => by have := hn i e; omega⟩, h5⟩
  · have hwr := h.new.size
    rintro k (e | e | e)
    · have := h.own k (.inl e); exact ⟨this.1, this.2.1, this.2.2.1, this.2.2.2.1, by omega⟩
    · have := h.own k (.inr (.inl e)); exact ⟨this.1, this.2.1, this.2.2.1, this.2.2.2.1, by omega⟩
    · have h4' := h4 k e
      refine ⟨?_, h4'.2.1, h4'.2.2.1, ?_, h4'.2.2.2⟩
      · rcases h4'.1 with e' | e'
        · exact (h.own k (.inr (.inr e'))).1
        · omega
      · rcases h4'.1 with e' | e'
        · exact (h.own k (.inr (.inr e'))).2.2.2.1
        · omega
  · refine fun k => ⟨fun e => ⟨((h.dis k).1 e).1, fun e' => ?_⟩, fun e e' => ?_⟩
    · rcases (h4 k e').1 with e2 | e2
      · exact ((h.dis k).1 e).2 e2
      · have := (h.own k (.inl e)).2.2.2.2; omega
    · rcases (h4 k e').1 with e2 | e2
      · exact (h.dis k).2 e e2
      · have := (h.own k (.inr (.inl e))).2.2.2.2; omega
/-- The labels were read. -/
theorem DecSt.of_lab {w3 : World} {rl : Option Nat} (h : LabSt (w3.heap.size + 1) w3 w2 r cb A n c s2 rl Al cl ls (.slice none 0 0) (.int .i64 0) (.int .i64 0) (.int .i64 0) (.int .i64 0) (.slice none 0 0)) (hn : New w w3) (hres : Blk w3 res 26 zeroC) (hrw : w.heap.size ≤ r) (hcw : w.heap.size ≤ cb) (hre : res ≠ r) (hrc : res ≠ cb) :
    DecSt w w2 r cb res A n c s2 (fun k => rl = some k) (fun _ => False) (fun _ => False) Al cl none 0 none 0 ls [] 0 0 0 0 [] := by
  have hsz := hn.size
  have hlt := hres.lt
  have hrow := h.row
  rw [map_flat] at hrow
  refine ⟨h.at_, h.blk, hres.kept h.keep (by rintro (e | e); exact hre e; exact hrc e), ?_, OSl.nil, OSl.nil, ?_, fun k => ⟨fun _ => ⟨id, id⟩, fun e => e.elim⟩, hn.step h.keep fun i hi e => by rcases e with e | e <;> omega⟩
  · exact OSl.of_row (O := u64O) (f := fun x => [.int .u64 x]) hrow (fun _ _ => rfl) rfl (fun k hk => hk) (fun x hx => ⟨rfl, h.wf x hx⟩)
  · rintro k (e | e | e)
    · have := h.own k e
      exact ⟨by omega, this.2.1, this.2.2, by omega, h.row.lt (by decide) k e⟩
    · exact e.elim
    · exact e.elim
/-- The table was read. -/
theorem DecSt.of_tab {rt : Option Nat} {s1 : St} {ct' : Nat} {At' : Option Addr} {t' : List Int} (h : DecSt w wr r cb res A n c s Fl (fun _ => False) (fun _ => False) Al cl none 0 none 0 ls [] 0 0 0 0 []) (ht : TabSt wr.heap.size wr w2 r cb A n c s2 rt At' ct' t' (.slice Al ls.length cl) (.int .i64 0) (.int .i64 0) (.int .i64 0) (.int .i64 0) (.slice none 0 0)) (hrw : w.heap.size ≤ r) (hcw : w.heap.size ≤ cb) (hre : res ≠ r) (hrc : res ≠ cb) :
    DecSt w w2 r cb res A n c s2 Fl (fun k => rt = some k) (fun _ => False) Al cl At' ct' none 0 ls t' 0 0 0 0 [] := by
  have hsz := h.new.size
  have hlt := h.resB.lt
  have hsz2 := ht.keep.size
  have hrow := ht.row
  rw [map_flat] at hrow
  refine ⟨ht.at_, ht.blk, h.resB.kept ht.keep (by rintro (e | e); exact hre e; exact hrc e), h.labs.kept ht.keep (fun k e => by have := h.own k (.inl e); rintro (e' | e'); exact this.2.1 e'; exact this.2.2.1 e'), ?_, OSl.nil, ?_, ?_, h.new.step ht.keep fun i hi e => by rcases e with e | e <;> omega⟩
  · exact OSl.of_row (O := i64O) (f := fun x => [.int .i64 x]) hrow (fun _ _ => rfl) rfl (fun k hk => hk) (fun x hx => ⟨rfl, ht.wf x hx⟩)
  · rintro k (e | e | e)
    · have := h.own k (.inl e)
      exact ⟨this.1, this.2.1, this.2.2.1, this.2.2.2.1, by omega⟩
    · have := ht.own k e
      exact ⟨by omega, this.2.1, this.2.2, by omega, ht.row.lt (by decide) k e⟩
    · exact e.elim
  · refine fun k => ⟨fun e => ⟨fun e' => ?_, id⟩, fun _ => id⟩
    have := (h.own k (.inl e)).2.2.2.2
    have := (ht.own k e').1
    omega
end
end Go.Proofs.Ytaefgljpdpigeaa.Conf
