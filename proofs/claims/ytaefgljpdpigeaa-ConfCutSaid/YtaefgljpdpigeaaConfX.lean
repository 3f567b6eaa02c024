/- A config's bytes are read as the config; cut they are too short (layer 14). No program in sight. -/
import Derived.Test.YtaefgljpdpigeaaConfG
import Derived.Test.YtaefgljpdpigeaaConfD
namespace Go.Proofs.Ytaefgljpdpigeaa.Conf
open Go.RowKit Go.Fb Go.CodeP Go.BytesP Go.ReaderP
set_option linter.unusedVariables false
/-- Bytes that are read as a thing, whatever stands around them; cut they are too short. -/
structure Codec {α : Type} (D : List UInt8 → Nat → Except (Int × Int) (α × Nat)) (x : List UInt8) (a : α) : Prop where
  reads : ∀ b pre post, b = pre ++ x ++ post → D b pre.length = .ok (a, pre.length + x.length)
  cuts : ∀ b pre k, k < x.length → b = pre ++ x.take k → D b pre.length = .error (5, b.length)
theorem Codec.pure {α : Type} (a : α) : Codec (fun _ p => .ok (a, p)) [] a := ⟨fun _ _ _ _ => rfl, fun _ _ k h => absurd h (Nat.not_lt_zero k)⟩
theorem Codec.bind {α β : Type} {D : List UInt8 → Nat → Except (Int × Int) (β × Nat)} {D1 : List UInt8 → Nat → Except (Int × Int) (α × Nat)} {D2 : List UInt8 → α → Nat → Except (Int × Int) (β × Nat)} {x y : List UInt8} {a : α} {c : β} (h1 : Codec D1 x a) (h2 : Codec (fun b => D2 b a) y c)
    (he : ∀ b p e, D1 b p = .error e → D b p = .error e) (ho : ∀ b p a p', D1 b p = .ok (a, p') → D b p = D2 b a p') : Codec D (x ++ y) c where
  reads b pre post hb := by
    rw [ho b _ a _ (h1.reads b pre (y ++ post) (by rw [hb]; simp))]
    have := h2.reads b (pre ++ x) post (by rw [hb]; simp)
    rw [List.length_append] at this
    rw [this, List.length_append, Nat.add_assoc]
  cuts b pre k hk hb := by
    by_cases hx : k < x.length
    · refine he b _ _ (h1.cuts b pre k hx ?_)
      rw [hb, List.take_append_of_le_length (by omega)]
    · rw [ho b _ a _ (h1.reads b pre (y.take (k - x.length)) (by rw [hb, List.take_append, List.take_of_length_le (by omega), List.append_assoc]))]
      have := h2.cuts b (pre ++ x) (k - x.length) (by rw [List.length_append] at hk; omega) (by rw [hb, List.take_append, List.take_of_length_le (by omega), List.append_assoc])
      rw [List.length_append] at this
      exact this
theorem Codec.num {m : Nat} {f : Nat → Int} {n : Int} (h0 : 0 ≤ n) (h1 : n < 256 ^ m) (hf : f n.toNat = 0) : Codec (fun b => numD b m f) (le n m) n.toNat where
  reads b pre post hb := by
    have hl : b.length = pre.length + m + post.length := by rw [hb]; simp only [List.length_append, length_le]
    have hv : numV b pre.length m = n.toNat := by
      unfold numV
      rw [hb, List.append_assoc, List.drop_left, List.take_left' (length_le n m)]
      have := val_le n m h0 h1
      omega
    simp only [numD]
    rw [if_neg (by omega), hv, if_pos hf, length_le]
  cuts b pre k hk hb := by
    rw [length_le] at hk
    simp only [numD]
    rw [if_pos (by rw [hb, List.length_append, List.length_take, length_le]; omega)]
theorem Codec.labels : ∀ (l acc : List Int), (∀ x ∈ l, 0 ≤ x ∧ x < 256 ^ 8) → (∀ i (h : i < l.length), labF (acc ++ l.take i) l[i].toNat = 0) → Codec (fun b => labelsD b l.length acc) (encL l) (acc ++ l)
  | [], acc, _, _ => by simpa [encL, labelsD] using Codec.pure acc
  | x :: l, acc, hb, hf => by
    have hx := hb x (by simp)
    have h1 : Codec (fun b => numD b 8 (labF acc)) (le x 8) x.toNat := Codec.num hx.1 hx.2 (by have := hf 0 (by simp); rw [List.take_zero, List.append_nil] at this; exact this)
    have ih := Codec.labels l (acc ++ [x]) (fun y hy => hb y (by simp [hy])) (fun i hi => by have := hf (i + 1) (by simpa using hi); simpa using this)
    have e : encL (x :: l) = le x 8 ++ encL l := by unfold encL; rw [List.flatMap_cons]
    have hxc : ((x.toNat : Nat) : Int) = x := by omega
    rw [e, show acc ++ x :: l = acc ++ [x] ++ l by simp]
    refine Codec.bind (D2 := fun b (a : Nat) => labelsD b l.length (acc ++ [(a : Int)])) h1 (by rw [hxc]; exact ih) (fun b p e h => ?_) (fun b p a p' h => ?_)
    · simp only [List.length_cons, labelsD, h]
    · simp only [List.length_cons, labelsD, h]
theorem Codec.table {parts : Int} : ∀ (l acc : List Int), (∀ x ∈ l, 0 ≤ x ∧ x < parts ∧ x < 256) → Codec (fun b => tableD b parts l.length acc) (encT l) (acc ++ l)
  | [], acc, _ => by simpa [encT, tableD] using Codec.pure acc
  | x :: l, acc, hb => by
    have hx := hb x (by simp)
    have h1 : Codec (fun b => numD b 1 (partF parts)) (le x 1) x.toNat := Codec.num hx.1 (by omega) (by unfold partF; rw [if_neg (by omega)])
    have ih := Codec.table (parts := parts) l (acc ++ [x]) (fun y hy => hb y (by simp [hy]))
    have e : encT (x :: l) = le x 1 ++ encT l := by unfold encT; rw [List.flatMap_cons]
    have hxc : ((x.toNat : Nat) : Int) = x := by omega
    rw [e, show acc ++ x :: l = acc ++ [x] ++ l by simp]
    refine Codec.bind (D2 := fun b (a : Nat) => tableD b parts l.length (acc ++ [(a : Int)])) h1 (by rw [hxc]; exact ih) (fun b p e h => ?_) (fun b p a p' h => ?_)
    · simp only [List.length_cons, tableD, h]
    · simp only [List.length_cons, tableD, h]
theorem Codec.ins {x : Ins} {n locks : Int} (hc : check x n locks = 0) (h1 : -9223372036854775808 ≤ x.imm) (h2 : x.imm ≤ 9223372036854775807) : Codec (fun b => insD b n locks) (enc x) x where
  reads b pre post hb := by
    have hl : b.length = pre.length + 12 + post.length := by rw [hb]; simp only [List.length_append, length_enc]
    have e : (b.drop pre.length).take 12 = enc x := by rw [hb, List.append_assoc, List.drop_left, ← length_enc x, List.take_left]
    simp only [insD]
    rw [if_neg (by omega), e, get_enc hc h1 h2, if_pos (show (wrong x n locks).1 = 0 from hc), length_enc]
  cuts b pre k hk hb := by
    rw [length_enc] at hk
    simp only [insD]
    rw [if_pos (by rw [hb, List.length_append, List.length_take, length_enc]; omega)]
theorem Codec.code {n locks : Int} : ∀ (l acc : List Ins), (∀ x ∈ l, check x n locks = 0) → InV l → Codec (fun b => codeD b n locks l.length acc) (encode l) (acc ++ l)
  | [], acc, _, _ => by simpa [encode, codeD] using Codec.pure acc
  | x :: l, acc, hc, hv => by
    have hx := hv x (by simp)
    have h1 := Codec.ins (hc x (by simp)) hx.1 hx.2
    have ih := Codec.code (n := n) (locks := locks) l (acc ++ [x]) (fun y hy => hc y (by simp [hy])) (fun y hy => hv y (by simp [hy]))
    have e : encode (x :: l) = enc x ++ encode l := by unfold encode; rw [List.flatMap_cons]
    rw [e, show acc ++ x :: l = acc ++ [x] ++ l by simp]
    refine Codec.bind (D2 := fun b (a : Ins) => codeD b n locks l.length (acc ++ [a])) h1 ih (fun b p e h => ?_) (fun b p a p' h => ?_)
    · simp only [List.length_cons, codeD, h]
    · simp only [List.length_cons, codeD, h]
/-- What may lie in memory. -/
def FitsP (p : Int × List Ins) : Prop := InV p.2
theorem Codec.proc {parts locks : Int} {p : Int × List Ins} (h0 : 0 ≤ p.1) (h1 : p.1 < parts) (h2 : p.1 < 256) (hc : may p.2 locks = (0, 0)) (hv : InV p.2) : Codec (fun b => procD b parts locks) (encP p) p := by
  obtain ⟨hlk, hlk2, hlen, hck⟩ := may_ok hc
  have a1 : Codec (fun b => numD b 1 (partF parts)) (le p.1 1) p.1.toNat := Codec.num h0 (by omega) (by unfold partF; rw [if_neg (by omega)])
  have a2 : Codec (fun b => numD b 2 codeF) (le p.2.length 2) (p.2.length : Int).toNat := Codec.num (by omega) (by show _ < 65536; omega) (by unfold codeF; rw [if_neg (by omega)])
  have a3 := Codec.code (n := p.2.length) (locks := locks) p.2 [] hck hv
  have hpc : ((p.1.toNat : Nat) : Int) = p.1 := by omega
  unfold encP
  rw [List.append_assoc]
  refine Codec.bind (D2 := fun b (q : Nat) p1 => match numD b 2 codeF p1 with
    | .error e => .error e
    | .ok (k, p2) => match codeD b k locks k [] p2 with
      | .error e => .error e
      | .ok (l, p3) => .ok (((q : Int), l), p3)) a1 ?_ (fun b p e h => by unfold procD; rw [h]) (fun b p a p' h => by unfold procD; rw [h]; rfl)
  refine Codec.bind (D2 := fun b (k : Nat) p2 => match codeD b k locks k [] p2 with
      | .error e => .error e
      | .ok (l, p3) => .ok ((((p.1.toNat : Nat) : Int), l), p3)) a2 ?_ (fun b p e h => by simp only [h]) (fun b p a p' h => by simp only [h])
  have hl : (p.2.length : Int).toNat = p.2.length := Int.toNat_natCast _
  rw [hl]
  rw [show encode p.2 = encode p.2 ++ [] by simp]
  refine Codec.bind (a := p.2) (D1 := fun b => codeD b p.2.length locks p.2.length []) (D2 := fun b l p3 => .ok ((((p.1.toNat : Nat) : Int), l), p3)) a3 ?_ (fun b p e h => by simp only [h]) (fun b p a p' h => by simp only [h])
  have := Codec.pure (((p.1.toNat : Nat) : Int), p.2)
  rw [hpc] at this ⊢
  exact this
theorem Codec.procs {parts locks : Int} : ∀ (l acc : List (Int × List Ins)), (∀ p ∈ l, (0 ≤ p.1 ∧ p.1 < parts ∧ p.1 < 256) ∧ may p.2 locks = (0, 0) ∧ InV p.2) → Codec (fun b => procsD b parts locks l.length acc) (encPs l) (acc ++ l)
  | [], acc, _ => by simpa [encPs, procsD] using Codec.pure acc
  | x :: l, acc, h => by
    obtain ⟨⟨a1, a2, a3⟩, a4, a5⟩ := h x (by simp)
    have h1 := Codec.proc a1 a2 a3 a4 a5
    have ih := Codec.procs (parts := parts) (locks := locks) l (acc ++ [x]) (fun y hy => h y (by simp [hy]))
    have e : encPs (x :: l) = encP x ++ encPs l := by unfold encPs; rw [List.flatMap_cons]
    rw [e, show acc ++ x :: l = acc ++ [x] ++ l by simp]
    refine Codec.bind (D2 := fun b (a : Int × List Ins) => procsD b parts locks l.length (acc ++ [a])) h1 ih (fun b p e h => ?_) (fun b p a p' h => ?_)
    · simp only [List.length_cons, procsD, h]
    · simp only [List.length_cons, procsD, h]
theorem rise_of {l : List Int} (h : labE l = (0, 0)) : ∀ i, 1 ≤ i → i < l.length → riseE l i = 0 := by
  unfold labE at h
  split at h
  · exact absurd (congrArg Prod.fst h) (by decide)
  · split at h
    · exact absurd (congrArg Prod.fst h) (by decide)
    · split at h
      · rename_i i hf
        have := List.find?_some hf
        exact absurd (congrArg Prod.fst h) (of_decide_eq_true this).2
      · rename_i hf
        intro i h1 h2
        rw [List.find?_eq_none] at hf
        have := hf i (List.mem_range.2 h2)
        refine Classical.byContradiction fun hne => this (decide_eq_true ⟨h1, hne⟩)
theorem labF_rise {l : List Int} {i : Nat} (hi : i < l.length) (hx : 0 ≤ l[i]) (h : 1 ≤ i → riseE l i = 0) : labF (l.take i) l[i].toNat = 0 := by
  unfold labF
  have hl : (l.take i).length = i := by rw [List.length_take]; omega
  rw [hl]
  by_cases h0 : i = 0
  · rw [if_pos h0]
  · rw [if_neg h0]
    have hr := h (by omega)
    unfold riseE at hr
    have e1 : (l.take i).getD (i - 1) 0 = l.getD (i - 1) 0 := by
      rw [List.getD_eq_getElem?_getD, List.getD_eq_getElem?_getD, List.getElem?_take, if_pos (by omega)]
    have e2 : ((l[i].toNat : Nat) : Int) = l.getD i 0 := by rw [List.getD_eq_getElem?_getD, List.getElem?_eq_getElem hi]; simp; omega
    rw [e1, e2]
    exact hr
/-- Numbers that a config in memory has. -/
structure Fits (c : Cf) : Prop where
  labels : ∀ x ∈ c.labels, 0 ≤ x ∧ x ≤ 18446744073709551615
  code : ∀ p ∈ c.procs, InV p.2
theorem Codec.body {c : Cf} (hm : mayC c = (0, 0)) (hf : Fits c) : Codec bodyD (le c.labels.length 1 ++ encL c.labels ++ (le c.table.length 1 ++ encT c.table) ++ (le c.fuel 2 ++ (le c.lane 1 ++ (le c.locks 1 ++ le c.log 2))) ++ (le c.procs.length 1 ++ encPs c.procs)) c := by
  obtain ⟨s1, s2, s3, s4, s5, s6, s7, s8, s9, s10, s11⟩ := sane_of hm
  have hmz := (may_facts hm)
  obtain ⟨⟨g1, g2, g3⟩, n1, m1, -⟩ := hmz
  have cl : Codec labD (le c.labels.length 1 ++ encL c.labels) c.labels := by
    refine Codec.bind (D1 := fun b => numD b 1 (countF 8)) (D2 := fun b n => labelsD b n []) (Codec.num (n := c.labels.length) (by omega) (by omega) (by unfold countF manyE; simp only [Int.toNat_natCast]; rw [if_neg (by omega), if_neg (by omega)])) ?_ (fun b p e h => by unfold labD; rw [h]) (fun b p a p' h => by unfold labD; rw [h])
    rw [Int.toNat_natCast]
    have := Codec.labels c.labels [] (fun x hx => by have := hf.labels x hx; exact ⟨this.1, by show x < 18446744073709551616; omega⟩) (fun i hi => by
      rw [List.nil_append]
      exact labF_rise hi (hf.labels _ (List.getElem_mem hi)).1 (fun h1 => rise_of s11 i h1 hi))
    exact this
  have ct : Codec (fun b => tabD b c.labels.length) (le c.table.length 1 ++ encT c.table) c.table := by
    refine Codec.bind (D1 := fun b => numD b 1 (countF 64)) (D2 := fun b n => tableD b c.labels.length n []) (Codec.num (n := c.table.length) (by omega) (by omega) (by unfold countF manyE; simp only [Int.toNat_natCast]; rw [if_neg (by omega), if_neg (by omega)])) ?_ (fun b p e h => by unfold tabD; rw [h]) (fun b p a p' h => by unfold tabD; rw [h])
    rw [Int.toNat_natCast]
    exact Codec.table (parts := c.labels.length) c.table [] (fun x hx => by have := s3 x hx; exact ⟨this.1, this.2, by omega⟩)
  have fz : ∀ {j : Nat} {v : Int}, 0 ≤ v → numE c j = 0 → (nums c).getD j 0 = v → rangeF j v.toNat = 0 := fun {j v} h0 h1 h2 => by
    unfold rangeF; unfold numE at h1; rw [h2] at h1; rw [show ((v.toNat : Nat) : Int) = v by omega]; exact h1
  have cf : Codec fourD (le c.fuel 2 ++ (le c.lane 1 ++ (le c.locks 1 ++ le c.log 2))) (c.fuel.toNat, c.lane.toNat, c.locks.toNat, c.log.toNat) := by
    refine Codec.bind (D1 := fun b => numD b 2 (rangeF 2)) (D2 := fun b (n1 : Nat) p => match numD b 1 (rangeF 3) p with
      | .error e => .error e
      | .ok (n2, p) => match numD b 1 (rangeF 4) p with
        | .error e => .error e
        | .ok (n3, p) => match numD b 2 (rangeF 5) p with
          | .error e => .error e
          | .ok (n4, p) => .ok ((n1, n2, n3, n4), p)) (Codec.num (by omega) (by show _ < 65536; omega) (fz (j := 2) (by omega) (n1 2 (by omega)) rfl)) ?_ (fun b p e h => by unfold fourD; rw [h]) (fun b p a p' h => by unfold fourD; rw [h]; rfl)
    refine Codec.bind (D1 := fun b => numD b 1 (rangeF 3)) (D2 := fun b (n2 : Nat) p => match numD b 1 (rangeF 4) p with
        | .error e => .error e
        | .ok (n3, p) => match numD b 2 (rangeF 5) p with
          | .error e => .error e
          | .ok (n4, p) => .ok ((c.fuel.toNat, n2, n3, n4), p)) (Codec.num (by omega) (by omega) (fz (j := 3) (by omega) (n1 3 (by omega)) rfl)) ?_ (fun b p e h => by simp only [h]) (fun b p a p' h => by simp only [h])
    refine Codec.bind (D1 := fun b => numD b 1 (rangeF 4)) (D2 := fun b (n3 : Nat) p => match numD b 2 (rangeF 5) p with
          | .error e => .error e
          | .ok (n4, p) => .ok ((c.fuel.toNat, c.lane.toNat, n3, n4), p)) (Codec.num (by omega) (by omega) (fz (j := 4) (by omega) (n1 4 (by omega)) rfl)) ?_ (fun b p e h => by simp only [h]) (fun b p a p' h => by simp only [h])
    rw [show le c.log 2 = le c.log 2 ++ [] by simp]
    exact Codec.bind (D1 := fun b => numD b 2 (rangeF 5)) (D2 := fun b (n4 : Nat) p => .ok ((c.fuel.toNat, c.lane.toNat, c.locks.toNat, n4), p)) (Codec.num (by omega) (by show _ < 65536; omega) (fz (j := 5) (by omega) (n1 5 (by omega)) rfl)) (Codec.pure _) (fun b p e h => by simp only [h]) (fun b p a p' h => by simp only [h])
  have cp : Codec (fun b => prsD b c.labels.length (c.locks.toNat : Nat)) (le c.procs.length 1 ++ encPs c.procs) c.procs := by
    refine Codec.bind (D1 := fun b => numD b 1 (countF 32)) (D2 := fun b n => procsD b c.labels.length (c.locks.toNat : Nat) n []) (Codec.num (n := c.procs.length) (by omega) (by omega) (by unfold countF manyE; simp only [Int.toNat_natCast]; rw [if_neg (by omega), if_neg (by omega)])) ?_ (fun b p e h => by unfold prsD; rw [h]) (fun b p a p' h => by unfold prsD; rw [h])
    rw [Int.toNat_natCast, show ((c.locks.toNat : Nat) : Int) = c.locks by omega]
    exact Codec.procs (parts := c.labels.length) (locks := c.locks) c.procs [] (fun p hp => by have := s9 p hp; exact ⟨⟨this.1, this.2, by omega⟩, s10 p hp, hf.code p hp⟩)
  rw [List.append_assoc, List.append_assoc]
  refine Codec.bind (D2 := fun b (ls : List Int) p => match tabD b ls.length p with
    | .error e => .error e
    | .ok (t, p) => match fourD b p with
      | .error e => .error e
      | .ok ((n1, n2, n3, n4), p) => match prsD b ls.length n3 p with
        | .error e => .error e
        | .ok (ps, p) => .ok ((⟨ls, t, n1, n2, n3, n4, ps⟩ : Cf), p)) cl ?_ (fun b p e h => by unfold bodyD; rw [h]) (fun b p a p' h => by unfold bodyD; rw [h]; rfl)
  refine Codec.bind (D1 := fun b => tabD b c.labels.length) (D2 := fun b (t : List Int) p => match fourD b p with
      | .error e => .error e
      | .ok ((n1, n2, n3, n4), p) => match prsD b c.labels.length n3 p with
        | .error e => .error e
        | .ok (ps, p) => .ok ((⟨c.labels, t, n1, n2, n3, n4, ps⟩ : Cf), p)) ct ?_ (fun b p e h => by simp only [h]) (fun b p a p' h => by simp only [h])
  refine Codec.bind (D1 := fourD) (D2 := fun b (q : Nat × Nat × Nat × Nat) p => match prsD b c.labels.length q.2.2.1 p with
        | .error e => .error e
        | .ok (ps, p) => .ok ((⟨c.labels, c.table, q.1, q.2.1, q.2.2.1, q.2.2.2, ps⟩ : Cf), p)) cf ?_ (fun b p e h => by simp only [h]) (fun b p a p' h => by simp only [h])
  rw [show le (c.procs.length : Int) 1 ++ encPs c.procs = le (c.procs.length : Int) 1 ++ encPs c.procs ++ [] by simp]
  refine Codec.bind (D1 := fun b => prsD b c.labels.length (c.locks.toNat : Nat)) (D2 := fun b (ps : List (Int × List Ins)) p => .ok ((⟨c.labels, c.table, c.fuel.toNat, c.lane.toNat, c.locks.toNat, c.log.toNat, ps⟩ : Cf), p)) cp ?_ (fun b p e h => by simp only [h]) (fun b p a p' h => by simp only [h])
  have := Codec.pure c
  rw [show ((c.fuel.toNat : Nat) : Int) = c.fuel by omega, show ((c.lane.toNat : Nat) : Int) = c.lane by omega, show ((c.locks.toNat : Nat) : Int) = c.locks by omega, show ((c.log.toNat : Nat) : Int) = c.log by omega]
  exact this
end Go.Proofs.Ytaefgljpdpigeaa.Conf
