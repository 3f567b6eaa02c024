/- A config's bytes are read as the config; cut they are too short (layer 14). No program in sight. -/
import Derived.Test.YtaefgljpdpigeaaConfG
import Derived.Test.YtaefgljpdpigeaaConfD
namespace Go.Proofs.Ytaefgljpdpigeaa.Conf
open Go.RowKit Go.Fb Go.CodeP Go.BytesP Go.ReaderP
set_option linter.unusedVariables false
/-- Bytes that are read as a thing, whatever stands around them; cut they are too short. -/
structure Codec {α : Type} (D : List UInt8 → Nat → Except (Int × Int) (α × Nat)) (x : List UInt8) (a : α) : Prop where
  reads : ∀ b pre post, b = pre ++ x ++ post → D b pre.length = .ok (a, pre.length + x.length)
  cuts : ∀ b pre k, k < x.length → b = pre ++ x.take k → D b pre.length = .error (5, b.length)
theorem Codec.pure {α : Type} (a : α) : Codec (fun _ p => .ok (a, p)) [] a := ⟨fun _ _ _ _ => rfl, fun _ _ k h => absurd h (Nat.not_lt_zero k)⟩
theorem Codec.bind {α β : Type} {D : List UInt8 → Nat → Except (Int × Int) (β × Nat)} {D1 : List UInt8 → Nat → Except (Int × Int) (α × Nat)} {D2 : List UInt8 → α → Nat → Except (Int × Int) (β × Nat)} {x y : List UInt8} {a : α} {c : β} (h1 : Codec D1 x a) (h2 : Codec (fun b => D2 b a) y c)
    (he : ∀ b p e, D1 b p = .error e → D b p = .error e) (ho : ∀ b p a p', D1 b p = .ok (a, p') → D b p = D2 b a p') : Codec D (x ++ y) c where
  reads b pre post hb := by
    rw [ho b _ a _ (h1.reads b pre (y ++ post) (by rw [hb]; simp))]
    have := h2.reads b (pre ++ x) post (by rw [hb]; simp)
    rw [List.length_append] at this
    rw [this, List.length_append, Nat.add_assoc]
  cuts b pre k hk hb := by
    by_cases hx : k < x.length
    · refine he b _ _ (h1.cuts b pre k hx ?_)
      rw [hb, List.take_append_of_le_length (by omega)]
    · rw [ho b _ a _ (h1.reads b pre (y.take (k - x.length)) (by rw [hb, List.take_append, List.take_of_length_le (by omega), List.append_assoc]))]
      have := h2.cuts b (pre ++ x) (k - x.length) (by rw [List.length_append] at hk; omega) (by rw [hb, List.take_append, List.take_of_length_le (by omega), List.append_assoc])
      rw [List.length_append] at this
      exact this
theorem Codec.num {m : Nat} {f : Nat → Int} {n : Int} (h0 : 0 ≤ n) (h1 : n < 256 ^ m) (hf : f n.toNat = 0) : Codec (fun b => numD b m f) (le n m) n.toNat where
  reads b pre post hb := by
    have hl : b.length = pre.length + m + post.length := by rw [hb]; simp only [List.length_append, length_le]
    have hv : numV b pre.length m = n.toNat := by
      unfold numV
      rw [hb, List.append_assoc, List.drop_left, List.take_left' (length_le n m)]
      have := val_le n m h0 h1
      omega
    simp only [numD]
    rw [if_neg (by omega), hv, if_pos hf, length_le]
  cuts b pre k hk hb := by
    rw [length_le] at hk
    simp only [numD]
    rw [if_pos (by rw [hb, List.length_append, List.length_take, length_le]; omega)]
theorem Codec.labels : ∀ (l acc : List Int), (∀ x ∈ l, 0 ≤ x ∧ x < 256 ^ 8) → (∀ i (h : i < l.length), labF (acc ++ l.take i) l[i].toNat = 0) → Codec (fun b => labelsD b l.length acc) (encL l) (acc ++ l)
  | [], acc, _, _ => by simpa [encL, labelsD] using Codec.pure acc
  | x :: l, acc, hb, hf => by
    have hx := hb x (by simp)
    have h1 : Codec (fun b => numD b 8 (labF acc)) (le x 8) x.toNat := Codec.num hx.1 hx.2 (by have := hf 0 (by simp); rw [List.take_zero, List.append_nil] at this; exact this)
    have ih := Codec.labels l (acc ++ [x]) (fun y hy => hb y (by simp [hy])) (fun i hi => by have := hf (i + 1) (by simpa using hi); simpa using this)
    have e : encL (x :: l) = le x 8 ++ encL l := by unfold encL; rw [List.flatMap_cons]
    have hxc : ((x.toNat : Nat) : Int) = x := by omega
    rw [e, show acc ++ x :: l = acc ++ [x] ++ l by simp]
    refine Codec.bind (D2 := fun b (a : Nat) => labelsD b l.length (acc ++ [(a : Int)])) h1 (by rw [hxc]; exact ih) (fun b p e h => ?_) (fun b p a p' h => ?_)
    · simp only [List.length_cons, labelsD, h]
    · simp only [List.length_cons, labelsD, h]
theorem Codec.table {parts : Int} : ∀ (l acc : List Int), (∀ x ∈ l, 0 ≤ x ∧ x < parts ∧ x < 256) → Codec (fun b => tableD b parts l.length acc) (encT l) (acc ++ l)
  | [], acc, _ => by simpa [encT, tableD] using Codec.pure acc
  | x :: l, acc, hb => by
    have hx := hb x (by simp)
    have h1 : Codec (fun b => numD b 1 (partF parts)) (le x 1) x.toNat := Codec.num hx.1 (by omega) (by unfold partF; rw [if_neg (by omega)])
    have ih := Codec.table (parts := parts) l (acc ++ [x]) (fun y hy => hb y (by simp [hy]))
    have e : encT (x :: l) = le x 1 ++ encT l := by unfold encT; rw [List.flatMap_cons]
    have hxc : ((x.toNat : Nat) : Int) = x := by omega
    rw [e, show acc ++ x :: l = acc ++ [x] ++ l by simp]
    refine Codec.bind (D2 := fun b (a : Nat) => tableD b parts l.length (acc ++ [(a : Int)])) h1 (by rw [hxc]; exact ih) (fun b p e h => ?_) (fun b p a p' h => ?_)
    · simp only [List.length_cons, tableD, h]
    · simp only [List.length_cons, tableD, h]
theorem Codec.ins {x : Ins} {n locks : Int} (hc : check x n locks = 0) (h1 : -9223372036854775808 ≤ x.imm) (h2 : x.imm ≤ 9223372036854775807) : Codec (fun b => insD b n locks) (enc x) x where
  reads b pre post hb := by
    have hl : b.length = pre.length + 12 + post.length := by rw [hb]; simp only [List.length_append, length_enc]
    have e : (b.drop pre.length).take 12 = enc x := by rw [hb, List.append_assoc, List.drop_left, ← length_enc x, List.take_left]
    simp only [insD]
    rw [if_neg (by omega), e, get_enc hc h1 h2, if_pos (show (wrong x n locks).1 = 0 from hc), length_enc]
  cuts b pre k hk hb := by
    rw [length_enc] at hk
    simp only [insD]
    rw [if_pos (by rw [hb, List.length_append, List.length_take, length_enc]; omega)]
theorem Codec.code {n locks : Int} : ∀ (l acc : List Ins), (∀ x ∈ l, check x n locks = 0) → InV l → Codec (fun b => codeD b n locks l.length acc) (encode l) (acc ++ l)
  | [], acc, _, _ => by simpa [encode, codeD] using Codec.pure acc
  | x :: l, acc, hc, hv => by
    have hx := hv x (by simp)
    have h1 := Codec.ins (hc x (by simp)) hx.1 hx.2
    have ih := Codec.code (n := n) (locks := locks) l (acc ++ [x]) (fun y hy => hc y (by simp [hy])) (fun y hy => hv y (by simp [hy]))
    have e : encode (x :: l) = enc x ++ encode l := by unfold encode; rw [List.flatMap_cons]
    rw [e, show acc ++ x :: l = acc ++ [x] ++ l by simp]
    refine Codec.bind (D2 := fun b (a : Ins) => codeD b n locks l.length (acc ++ [a])) h1 ih (fun b p e h => ?_) (fun b p a p' h => ?_)
    · simp only [List.length_cons, codeD, h]
    · simp only [List.length_cons, codeD, h]
/-- What may lie in memory. -/
def FitsP (p : Int × List Ins) : Prop := InV p.2
theorem Codec.proc {parts locks : Int} {p : Int × List Ins} (h0 : 0 ≤ p.1) (h1 : p.1 < parts) (h2 : p.1 < 256) (hc : may p.2 locks = (0, 0)) (hv : InV p.2) : Codec (fun b => procD b parts locks) (encP p) p := by
  obtain ⟨hlk, hlk2, hlen, hck⟩ := may_ok hc
  have a1 : Codec (fun b => numD b 1 (partF parts)) (le p.1 1) p.1.toNat := Codec.num h0 (by omega) (by unfold partF; rw [if_neg (by omega)])
  have a2 : Codec (fun b => numD b 2 codeF) (le p.2.length 2) (p.2.length : Int).toNat := Codec.num (by omega) (by show _ < 65536; omega) (by unfold codeF; rw [if_neg (by omega)])
  have a3 := Codec.code (n := p.2.length) (locks := locks) p.2 [] hck hv
  have hpc : ((p.1.toNat : Nat) : Int) = p.1 := by omega
  unfold encP
  rw [List.append_assoc]
  refine Codec.bind (D2 := fun b (q : Nat) p1 => match numD b 2 codeF p1 with
    | .error e => .error e
    | .ok (k, p2) => match codeD b k locks k [] p2 with
      | .error e => .error e
      | .ok (l, p3) => .ok (((q : Int), l), p3)) a1 ?_ (fun b p e h => by unfold procD; rw [h]) (fun b p a p' h => by unfold procD; rw [h]; rfl)
  refine Codec.bind (D2 := fun b (k : Nat) p2 => match codeD b k locks k [] p2 with
      | .error e => .error e
      | .ok (l, p3) => .ok ((((p.1.toNat : Nat) : Int), l), p3)) a2 ?_ (fun b p e h => by simp only [h]) (fun b p a p' h => by simp only [h])
  have hl : (p.2.length : Int).toNat = p.2.length := Int.toNat_natCast _
  rw [hl]
  rw [show encode p.2 = encode p.2 ++ [] by simp]
  refine Codec.bind (a := p.2) (D1 := fun b => codeD b p.2.length locks p.2.length []) (D2 := fun b l p3 => .ok ((((p.1.toNat : Nat) : Int), l), p3)) a3 ?_ (fun b p e h => by simp only [h]) (fun b p a p' h => by simp only [h])
  have := Codec.pure (((p.1.toNat : Nat) : Int), p.2)
  rw [hpc] at this ⊢
  exact this
theorem Codec.procs {parts locks : Int} : ∀ (l acc : List (Int × List Ins)), (∀ p ∈ l, (0 ≤ p.1 ∧ p.1 < parts ∧ p.1 < 256) ∧ may p.2 locks = (0, 0) ∧ InV p.2) → Codec (fun b => procsD b parts locks l.length acc) (encPs l) (acc ++ l)
  | [], acc, _ => by simpa [encPs, procsD] using Codec.pure acc
  | x :: l, acc, h => by
    obtain ⟨⟨a1, a2, a3⟩, a4, a5⟩ := h x (by simp)
    have h1 := Codec.proc a1 a2 a3 a4 a5
    have ih := Codec.procs (parts := parts) (locks := locks) l (acc ++ [x]) (fun y hy => h y (by simp [hy]))
    have e : encPs (x :: l) = encP x ++ encPs l := by unfold encPs; rw [List.flatMap_cons]
    rw [e, show acc ++ x :: l = acc ++ [x] ++ l by simp]
    refine Codec.bind (D2 := fun b (a : Int × List Ins) => procsD b parts locks l.length (acc ++ [a])) h1 ih (fun b p e h => ?_) (fun b p a p' h => ?_)
    · simp only [List.length_cons, procsD, h]
    · simp only [List.length_cons, procsD, h]
theorem rise_of {l : List Int} (h : labE l = (0, 0)) : ∀ i, 1 ≤ i → i < l.length → riseE l i = 0 := by
  unfold labE at h
  split at h
  · exact absurd (congrArg Prod.fst h) (by decide)
  · split at h
    · exact absurd (congrArg Prod.fst h) (by decide)
    · split at h
      · rename_i i hf
        have := List.find?_some hf
        exact absurd (congrArg Prod.fst h) (of_decide_eq_true this).2
      · rename_i hf
        intro i h1 h2
        rw [List.find?_eq_none] at hf
        have := hf i (List.mem_range.2 h2)
        refine Classical.byContradiction fun hne => this (decide_eq_true ⟨h1, hne⟩)
theorem labF_rise {l : List Int} {i : Nat} (hi : i < l.length) (hx : 0 ≤ l[i]) (h : 1 ≤ i → riseE l i = 0) : labF (l.take i) l[i].toNat = 0 := by
  unfold labF
  have hl : (l.take i).length = i := by rw [List.length_take]; omega
  rw [hl]
  by_cases h0 : i = 0
  · rw [if_pos h0]
  · rw [if_neg h0]
    have hr := h (by omega)
    unfold riseE at hr
    have e1 : (l.take i).getD (i - 1) 0 = l.getD (i - 1) 0 := by
      rw [List.getD_eq_getElem?_getD, List.getD_eq_getElem?_getD, List.getElem?_take, if_pos (by omega)]
    have e2 : ((l[i].toNat : Nat) : Int) = l.getD i 0 := by rw [List.getD_eq_getElem?_getD, List.getElem?_eq_getElem hi]; simp; omega
    rw [e1, e2]
    exact hr
/-- Numbers that a config in memory has. -/
structure Fits (c : Cf) : Prop where
  labels : ∀ x ∈ c.labels, 0 ≤ x ∧ x ≤ 18446744073709551615
  code : ∀ p ∈ c.procs, InV p.2
theorem Codec.body {c : Cf} (hm : mayC c = (0, 0)) (hf : Fits c) : Codec bodyD (le c.labels.length 1 ++ encL c.labels ++ (le c.table.length 1 ++ encT c.table) ++ (le c.fuel 2 ++ (le c.lane 1 ++ (le c.locks 1 ++ le c.log 2))) ++ (le c.procs.length 1 ++ encPs c.procs)) c := by
  obtain ⟨s1, s2, s3, s4, s5, s6, s7, s8, s9, s10, s11⟩ := sane_of hm
  have hmz := (may_facts hm)
  obtain ⟨⟨g1, g2, g3⟩, n1, m1, -⟩ := hmz
  have cl : Codec labD (le c.labels.length 1 ++ encL c.labels) c.labels := by
    refine Codec.bind (D1 := fun b => numD b 1 (countF 8)) (D2 := fun b n => labelsD b n []) (Codec.num (n := c.labels.length) (by omega) (by omega) (by unfold countF manyE; simp only [Int.toNat_natCast]; rw [if_neg (by omega), if_neg (by omega)])) ?_ (fun b p e h => by unfold labD; rw [h]) (fun b p a p' h => by unfold labD; rw [h])
    rw [Int.toNat_natCast]
    have := Codec.labels c.labels [] (fun x hx => by have := hf.labels x hx; exact ⟨this.1, by show x < 18446744073709551616; omega⟩) (fun i hi => by
      rw [List.nil_append]
      exact labF_rise hi (hf.labels _ (List.getElem_mem hi)).1 (fun h1 => rise_of s11 i h1 hi))
    exact this
  have ct : Codec (fun b => tabD b c.labels.length) (le c.table.length 1 ++ encT c.table) c.table := by
    refine Codec.bind (D1 := fun b => numD b 1 (countF 64)) (D2 := fun b n => tableD b c.labels.length n []) (Codec.num (n := c.table.length) (by omega) (by omega) (by unfold countF manyE; simp only [Int.toNat_natCast]; rw [if_neg (by omega), if_neg (by omega)])) ?_ (fun b p e h => by unfold tabD; rw [h]) (fun b p a p' h => by unfold tabD; rw [h])
    rw [Int.toNat_natCast]
    exact Codec.table (parts := c.labels.length) c.table [] (fun x hx => by have := s3 x hx; exact ⟨this.1, this.2, by omega⟩)
  have fz : ∀ {j : Nat} {v : Int}, 0 ≤ v → numE c j = 0 → (nums c).getD j 0 = v → rangeF j v.toNat = 0 := fun {j v} h0 h1 h2 => by
    unfold rangeF; unfold numE at h1; rw [h2] at h1; rw [show ((v.toNat : Nat) : Int) = v by omega]; exact h1
  have cf : Codec fourD (le c.fuel 2 ++ (le c.lane 1 ++ (le c.locks 1 ++ le c.log 2))) (c.fuel.toNat, c.lane.toNat, c.locks.toNat, c.log.toNat) := by
    refine Codec.bind (D1 := fun b => numD b 2 (rangeF 2)) (D2 := fun b (n1 : Nat) p => match numD b 1 (rangeF 3) p with
      | .error e => .error e
      | .ok (n2, p) => match numD b 1 (rangeF 4) p with
        | .error e => .error e
        | .ok (n3, p) => match numD b 2 (rangeF 5) p with
          | .error e => .error e
          | .ok (n4, p) => .ok ((n1, n2, n3, n4), p)) (Codec.num (by omega) (by show _ < 65536; omega) (fz (j := 2) (by omega) (n1 2 (by omega)) rfl)) ?_ (fun b p e h => by unfold fourD; rw [h]) (fun b p a p' h => by unfold fourD; rw [h]; rfl)
    refine Codec.bind (D1 := fun b => numD b 1 (rangeF 3)) (D2 := fun b (n2 : Nat) p => match numD b 1 (rangeF 4) p with
        | .error e => .error e
        | .ok (n3, p) => match numD b 2 (rangeF 5) p with
          | .error e => .error e
          | .ok (n4, p) => .ok ((c.fuel.toNat, n2, n3, n4), p)) (Codec.num (by omega) (by omega) (fz (j := 3) (by omega) (n1 3 (by omega)) rfl)) ?_ (fun b p e h => by simp only [h]) (fun b p a p' h => by simp only [h])
    refine Codec.bind (D1 := fun b => numD b 1 (rangeF 4)) (D2 := fun b (n3 : Nat) p => match numD b 2 (rangeF 5) p with
          | .error e => .error e
          | .ok (n4, p) => .ok ((c.fuel.toNat, c.lane.toNat, n3, n4), p)) (Codec.num (by omega) (by omega) (fz (j := 4) (by omega) (n1 4 (by omega)) rfl)) ?_ (fun b p e h => by simp only [h]) (fun b p a p' h => by simp only [h])
    rw [show le c.log 2 = le c.log 2 ++ [] by simp]
    exact Codec.bind (D1 := fun b => numD b 2 (rangeF 5)) (D2 := fun b (n4 : Nat) p => .ok ((c.fuel.toNat, c.lane.toNat, c.locks.toNat, n4), p)) (Codec.num (by omega) (by show _ < 65536; omega) (fz (j := 5) (by omega) (n1 5 (by omega)) rfl)) (Codec.pure _) (fun b p e h => by simp only [h]) (fun b p a p' h => by simp only [h])
  have cp : Codec (fun b => prsD b c.labels.length (c.locks.toNat : Nat)) (le c.procs.length 1 ++ encPs c.procs) c.procs := by
    refine Codec.bind (D1 := fun b => numD b 1 (countF 32)) (D2 := fun b n => procsD b c.labels.length (c.locks.toNat : Nat) n []) (Codec.num (n := c.procs.length) (by omega) (by omega) (by unfold countF manyE; simp only [Int.toNat_natCast]; rw [if_neg (by omega), if_neg (by omega)])) ?_ (fun b p e h => by unfold prsD; rw [h]) (fun b p a p' h => by unfold prsD; rw [h])
    rw [Int.toNat_natCast, show ((c.locks.toNat : Nat) : Int) = c.locks by omega]
    exact Codec.procs (parts := c.labels.length) (locks := c.locks) c.procs [] (fun p hp => by have := s9 p hp; exact ⟨⟨this.1, this.2, by omega⟩, s10 p hp, hf.code p hp⟩)
  rw [List.append_assoc, List.append_assoc]
  refine Codec.bind (D2 := fun b (ls : List Int) p => match tabD b ls.length p with
    | .error e => .error e
    | .ok (t, p) => match fourD b p with
      | .error e => .error e
      | .ok ((n1, n2, n3, n4), p) => match prsD b ls.length n3 p with
        | .error e => .error e
        | .ok (ps, p) => .ok ((⟨ls, t, n1, n2, n3, n4, ps⟩ : Cf), p)) cl ?_ (fun b p e h => by unfold bodyD; rw [h]) (fun b p a p' h => by unfold bodyD; rw [h]; rfl)
  refine Codec.bind (D1 := fun b => tabD b c.labels.length) (D2 := fun b (t : List Int) p => match fourD b p with
      | .error e => .error e
      | .ok ((n1, n2, n3, n4), p) => match prsD b c.labels.length n3 p with
        | .error e => .error e
        | .ok (ps, p) => .ok ((⟨c.labels, t, n1, n2, n3, n4, ps⟩ : Cf), p)) ct ?_ (fun b p e h => by simp only [h]) (fun b p a p' h => by simp only [h])
  refine Codec.bind (D1 := fourD) (D2 := fun b (q : Nat × Nat × Nat × Nat) p => match prsD b c.labels.length q.2.2.1 p with
        | .error e => .error e
        | .ok (ps, p) => .ok ((⟨c.labels, c.table, q.1, q.2.1, q.2.2.1, q.2.2.2, ps⟩ : Cf), p)) cf ?_ (fun b p e h => by simp only [h]) (fun b p a p' h => by simp only [h])
  rw [show le (c.procs.length : Int) 1 ++ encPs c.procs = le (c.procs.length : Int) 1 ++ encPs c.procs ++ [] by simp]
  refine Codec.bind (D1 := fun b => prsD b c.labels.length (c.locks.toNat : Nat)) (D2 := fun b (ps : List (Int × List Ins)) p => .ok ((⟨c.labels, c.table, c.fuel.toNat, c.lane.toNat, c.locks.toNat, c.log.toNat, ps⟩ : Cf), p)) cp ?_ (fun b p e h => by simp only [h]) (fun b p a p' h => by simp only [h])
  have := Codec.pure c
  rw [show ((c.fuel.toNat : Nat) : Int) = c.fuel by omega, show ((c.lane.toNat : Nat) : Int) = c.lane by omega, show ((c.locks.toNat : Nat) : Int) = c.locks by omega, show ((c.log.toNat : Nat) : Int) = c.log by omega]
  exact this
end Go.Proofs.Ytaefgljpdpigeaa.Conf

/- Decode of Encode, of more, and of less (layer 14). No program in sight. -/
namespace Go.Proofs.Ytaefgljpdpigeaa.Conf
open Go.RowKit Go.Fb Go.CodeP Go.BytesP Go.ReaderP
set_option linter.unusedVariables false
def bodyB (c : Cf) : List UInt8 := le c.labels.length 1 ++ encL c.labels ++ (le c.table.length 1 ++ encT c.table) ++ (le c.fuel 2 ++ (le c.lane 1 ++ (le c.locks 1 ++ le c.log 2))) ++ (le c.procs.length 1 ++ encPs c.procs)
theorem encB_body (c : Cf) : encB c = markB ++ bodyB c := by
  unfold encB stage8 stage4 stage2 bodyB
  simp only [List.append_assoc]
theorem numV_cons (x : UInt8) (l : List UInt8) (p : Nat) : numV (x :: l) (p + 1) 1 = numV l p 1 := by unfold numV; rw [List.drop_succ_cons]
theorem mark_ok (t : List UInt8) : markD (markB ++ t) markB 0 = .ok 5 := by
  have h : ∀ p, p < 5 → numV (markB ++ t) p 1 = (markB.getD p 0).toNat := by
    intro p hp
    rw [numV_one (by simp only [List.length_append, markB, List.length_cons, List.length_nil]; omega)]
    rcases (by omega : p = 0 ∨ p = 1 ∨ p = 2 ∨ p = 3 ∨ p = 4) with rfl | rfl | rfl | rfl | rfl <;> rfl
  have hl : (markB ++ t).length = 5 + t.length := by simp only [List.length_append, markB, List.length_cons, List.length_nil]
  have hs : ∀ p, p < 5 → numD (markB ++ t) 1 (fun v => if v = (markB.getD p 0).toNat then 0 else 4) p = .ok ((markB.getD p 0).toNat, p + 1) := by
    intro p hp
    unfold numD
    rw [if_neg (by omega), h p hp, if_pos (if_pos rfl)]
  have e : markB = [markB.getD 0 0, markB.getD 1 0, markB.getD 2 0, markB.getD 3 0, markB.getD 4 0] := rfl
  generalize hM : markB ++ t = M at *
  rw [e]
  simp only [markD]
  rw [hs 0 (by omega)]
  simp only
  rw [hs 1 (by omega)]
  simp only
  rw [hs 2 (by omega)]
  simp only
  rw [hs 3 (by omega)]
  simp only
  rw [hs 4 (by omega)]
theorem mark_cut {k : Nat} (hk : k < 5) : markD (markB.take k) markB 0 = .error (5, (k : Int)) := by
  rcases (by omega : k = 0 ∨ k = 1 ∨ k = 2 ∨ k = 3 ∨ k = 4) with rfl | rfl | rfl | rfl | rfl <;> rfl
theorem length_encB {c : Cf} (hm : mayC c = (0, 0)) : 14 ≤ (encB c).length ∧ (encB c).length ≤ 100000 := by
  obtain ⟨s1, s2, s3, s4, s5, s6, s7, s8, s9, s10, s11⟩ := sane_of hm
  have h1 := length_encPs c.procs (fun p hp => (may_ok (s10 p hp)).2.2.1)
  have h2 : 3075 * c.procs.length ≤ 3075 * 32 := Nat.mul_le_mul_left _ s8.2
  unfold encB
  rw [List.length_append, length_stage8]
  omega
theorem dec_more {c : Cf} (hm : mayC c = (0, 0)) (hf : Fits c) (more : List UInt8) (hl : more.length ≤ 1000) : decD (encB c ++ more) = if more = [] then .ok c else .error (6, ((encB c).length : Int)) := by
  have hle := length_encB hm
  have hb := (Codec.body hm hf).reads (encB c ++ more) markB more (by rw [encB_body]; rfl)
  have hlen : (encB c).length = markB.length + (bodyB c).length := by rw [encB_body, List.length_append]
  unfold decD
  rw [if_neg (by rw [List.length_append]; omega)]
  have hmk : markD (encB c ++ more) markB 0 = .ok 5 := by rw [encB_body, List.append_assoc]; exact mark_ok _
  rw [hmk]
  simp only
  rw [show (5 : Nat) = markB.length from rfl, hb]
  simp only
  change (if markB.length + (bodyB c).length < (encB c ++ more).length then _ else _) = _
  rw [← hlen, List.length_append]
  by_cases h : more = []
  · subst h
    rw [if_pos rfl, if_neg (by simp)]
  · have : 0 < more.length := List.length_pos_iff.2 h
    rw [if_neg h, if_pos (by omega), hlen]
    rfl
theorem dec_enc {c : Cf} (hm : mayC c = (0, 0)) (hf : Fits c) : decD (encB c) = .ok c := by
  have := dec_more hm hf [] (by decide)
  rw [List.append_nil, if_pos rfl] at this
  exact this
theorem dec_cut {c : Cf} (hm : mayC c = (0, 0)) (hf : Fits c) {k : Nat} (hk : k < (encB c).length) : decD ((encB c).take k) = .error (5, (k : Int)) := by
  have hle := length_encB hm
  have hlk : ((encB c).take k).length = k := by rw [List.length_take]; omega
  unfold decD
  rw [if_neg (by omega)]
  by_cases h5 : k < 5
  · have e : (encB c).take k = markB.take k := by rw [encB_body, List.take_append_of_le_length (by show k ≤ 5; omega)]
    rw [e, mark_cut h5]
  · have e : (encB c).take k = markB ++ (bodyB c).take (k - 5) := by
      rw [encB_body, List.take_append, List.take_of_length_le (by show 5 ≤ k; omega)]; rfl
    have hlen : (encB c).length = 5 + (bodyB c).length := by rw [encB_body, List.length_append]; rfl
    have hb := (Codec.body hm hf).cuts ((encB c).take k) markB (k - 5) (by change k - 5 < (bodyB c).length; omega) e
    have hmk : markD ((encB c).take k) markB 0 = .ok 5 := by rw [e]; exact mark_ok _
    rw [hmk]
    simp only
    rw [show (5 : Nat) = markB.length from rfl, hb, hlk]
end Go.Proofs.Ytaefgljpdpigeaa.Conf

/- What Decode takes may be, and is its bytes; what is wrong has a place in them (layer 14). No program in sight. -/
namespace Go.Proofs.Ytaefgljpdpigeaa.Conf
open Go.RowKit Go.Fb Go.CodeP Go.BytesP Go.ReaderP
set_option linter.unusedVariables false
/-- An error that is one, in the bytes. -/
def Bad (b : List UInt8) (e : Int × Int) : Prop := e.1 ≠ 0 ∧ 0 ≤ e.2 ∧ e.2 ≤ b.length
theorem num_err {b : List UInt8} {m : Nat} {f : Nat → Int} {p : Nat} {e : Int × Int} (hp : p ≤ b.length) (h : numD b m f p = .error e) : Bad b e := by
  unfold numD at h
  split at h
  · cases h; exact ⟨by simp, by simp, by simp⟩
  · split at h
    · cases h
    · rename_i h1; cases h; exact ⟨h1, by simp, by simp only; omega⟩
theorem num_ok {b : List UInt8} {m : Nat} {f : Nat → Int} {p v p' : Nat} (h : numD b m f p = .ok (v, p')) : p' = p + m ∧ p + m ≤ b.length ∧ f v = 0 ∧ v < 256 ^ m ∧ b.drop p = le v m ++ b.drop (p + m) := by
  unfold numD at h
  split at h
  · cases h
  · rename_i hl
    split at h
    · rename_i h1
      cases h
      have h3 : ((b.drop p).take m).length = m := by rw [List.length_take, List.length_drop]; omega
      have h4 := le_val ((b.drop p).take m)
      rw [h3] at h4
      refine ⟨rfl, by omega, h1, numV_lt b p m, ?_⟩
      unfold numV
      rw [h4, ← List.drop_drop, List.take_append_drop]
    · cases h
theorem labels_err : ∀ (k : Nat) (b : List UInt8) (acc : List Int) (p : Nat) (e : Int × Int), p ≤ b.length → labelsD b k acc p = .error e → Bad b e
  | 0, b, acc, p, e, _, h => by cases h
  | k + 1, b, acc, p, e, hp, h => by
    rw [labelsD] at h
    cases hn : numD b 8 (labF acc) p with
    | error x => rw [hn] at h; cases h; exact num_err hp hn
    | ok q =>
      obtain ⟨a, p'⟩ := q
      rw [hn] at h
      obtain ⟨rfl, h2, -⟩ := num_ok hn
      exact labels_err k b _ _ e h2 h
theorem labels_ok : ∀ (k : Nat) (b : List UInt8) (acc l : List Int) (p p' : Nat), p ≤ b.length → labelsD b k acc p = .ok (l, p') → ∃ l1, l = acc ++ l1 ∧ l1.length = k ∧ p' ≤ b.length ∧ b.drop p = encL l1 ++ b.drop p' ∧ (∀ x ∈ l1, 0 ≤ x ∧ x ≤ 18446744073709551615) ∧ ∀ i (h : i < l1.length), labF (acc ++ l1.take i) l1[i].toNat = 0
  | 0, b, acc, l, p, p', hp, h => by cases h; exact ⟨[], by simp, rfl, hp, by simp [encL], by simp, by simp⟩
  | k + 1, b, acc, l, p, p', hp, h => by
    rw [labelsD] at h
    cases hn : numD b 8 (labF acc) p with
    | error x => rw [hn] at h; cases h
    | ok q =>
      obtain ⟨a, p1⟩ := q
      rw [hn] at h
      obtain ⟨rfl, h2, h3, h4, h5⟩ := num_ok hn
      obtain ⟨l1, rfl, g2, g3, g4, g5, g6⟩ := labels_ok k b _ l _ p' h2 h
      refine ⟨(a : Int) :: l1, by simp, by simp [g2], g3, ?_, ?_, ?_⟩
      · rw [h5, g4]; simp [encL]
      · intro x hx
        rcases List.mem_cons.1 hx with rfl | hx
        · have : a < 18446744073709551616 := h4
          omega
        · exact g5 x hx
      · intro i hi
        cases i with
        | zero => rw [List.take_zero, List.append_nil]; exact h3
        | succ i =>
          have := g6 i (by simpa using hi)
          rw [List.append_assoc] at this
          exact this
theorem table_err {parts : Int} : ∀ (k : Nat) (b : List UInt8) (acc : List Int) (p : Nat) (e : Int × Int), p ≤ b.length → tableD b parts k acc p = .error e → Bad b e
  | 0, b, acc, p, e, _, h => by cases h
  | k + 1, b, acc, p, e, hp, h => by
    rw [tableD] at h
    cases hn : numD b 1 (partF parts) p with
    | error x => rw [hn] at h; cases h; exact num_err hp hn
    | ok q =>
      obtain ⟨a, p'⟩ := q
      rw [hn] at h
      obtain ⟨rfl, h2, -⟩ := num_ok hn
      exact table_err k b _ _ e h2 h
theorem partF_zero {parts : Int} {v : Nat} (h : partF parts v = 0) : (v : Int) < parts := by
  unfold partF at h
  split at h
  · exact absurd h (by decide)
  · omega
theorem table_ok {parts : Int} : ∀ (k : Nat) (b : List UInt8) (acc l : List Int) (p p' : Nat), p ≤ b.length → tableD b parts k acc p = .ok (l, p') → ∃ l1, l = acc ++ l1 ∧ l1.length = k ∧ p' ≤ b.length ∧ b.drop p = encT l1 ++ b.drop p' ∧ ∀ x ∈ l1, 0 ≤ x ∧ x < parts
  | 0, b, acc, l, p, p', hp, h => by cases h; exact ⟨[], by simp, rfl, hp, by simp [encT], by simp⟩
  | k + 1, b, acc, l, p, p', hp, h => by
    rw [tableD] at h
    cases hn : numD b 1 (partF parts) p with
    | error x => rw [hn] at h; cases h
    | ok q =>
      obtain ⟨a, p1⟩ := q
      rw [hn] at h
      obtain ⟨rfl, h2, h3, h4, h5⟩ := num_ok hn
      obtain ⟨l1, rfl, g2, g3, g4, g5⟩ := table_ok k b _ l _ p' h2 h
      refine ⟨(a : Int) :: l1, by simp, by simp [g2], g3, ?_, ?_⟩
      · rw [h5, g4]; simp [encT]
      · intro x hx
        rcases List.mem_cons.1 hx with rfl | hx
        · have := partF_zero h3
          omega
        · exact g5 x hx
theorem ins_err {b : List UInt8} {n locks : Int} {p : Nat} {e : Int × Int} (hp : p ≤ b.length) (h : insD b n locks p = .error e) : Bad b e := by
  unfold insD at h
  split at h
  · cases h; exact ⟨by simp, by simp, by simp⟩
  · split at h
    · cases h
    · rename_i h0 h1
      cases h
      have := wrong_two (get ((b.drop p).take 12)) n locks
      exact ⟨h1, by simp only; omega, by simp only; omega⟩
theorem ins_ok {b : List UInt8} {n locks : Int} {p p' : Nat} {x : Ins} (h : insD b n locks p = .ok (x, p')) : p' = p + 12 ∧ p + 12 ≤ b.length ∧ check x n locks = 0 ∧ (-9223372036854775808 ≤ x.imm ∧ x.imm ≤ 9223372036854775807) ∧ b.drop p = enc x ++ b.drop (p + 12) := by
  unfold insD at h
  split at h
  · cases h
  · rename_i hl
    split at h
    · rename_i h1
      cases h
      have h3 : ((b.drop p).take 12).length = 12 := by rw [List.length_take, List.length_drop]; omega
      obtain ⟨e1, e2, e3⟩ := enc_get h3
      refine ⟨rfl, by omega, h1, ⟨e2, e3⟩, ?_⟩
      rw [e1, ← List.drop_drop, List.take_append_drop]
    · cases h
theorem code_err {n locks : Int} : ∀ (k : Nat) (b : List UInt8) (acc : List Ins) (p : Nat) (e : Int × Int), p ≤ b.length → codeD b n locks k acc p = .error e → Bad b e
  | 0, b, acc, p, e, _, h => by cases h
  | k + 1, b, acc, p, e, hp, h => by
    rw [codeD] at h
    cases hn : insD b n locks p with
    | error x => rw [hn] at h; cases h; exact ins_err hp hn
    | ok q =>
      obtain ⟨a, p'⟩ := q
      rw [hn] at h
      obtain ⟨rfl, h2, -⟩ := ins_ok hn
      exact code_err k b _ _ e h2 h
theorem code_ok {n locks : Int} : ∀ (k : Nat) (b : List UInt8) (acc l : List Ins) (p p' : Nat), p ≤ b.length → codeD b n locks k acc p = .ok (l, p') → ∃ l1, l = acc ++ l1 ∧ l1.length = k ∧ p' ≤ b.length ∧ b.drop p = encode l1 ++ b.drop p' ∧ (∀ x ∈ l1, check x n locks = 0) ∧ InV l1
  | 0, b, acc, l, p, p', hp, h => by cases h; exact ⟨[], by simp, rfl, hp, by simp [encode], by simp, by simp [InV]⟩
  | k + 1, b, acc, l, p, p', hp, h => by
    rw [codeD] at h
    cases hn : insD b n locks p with
    | error x => rw [hn] at h; cases h
    | ok q =>
      obtain ⟨a, p1⟩ := q
      rw [hn] at h
      obtain ⟨rfl, h2, h3, h4, h5⟩ := ins_ok hn
      obtain ⟨l1, rfl, g2, g3, g4, g5, g6⟩ := code_ok k b _ l _ p' h2 h
      refine ⟨a :: l1, by simp, by simp [g2], g3, ?_, ?_, ?_⟩
      · rw [h5, g4]; simp [encode]
      · intro x hx
        rcases List.mem_cons.1 hx with rfl | hx
        · exact h3
        · exact g5 x hx
      · intro x hx
        rcases List.mem_cons.1 hx with rfl | hx
        · exact h4
        · exact g6 x hx
theorem proc_err {parts locks : Int} {b : List UInt8} {p : Nat} {e : Int × Int} (hp : p ≤ b.length) (h : procD b parts locks p = .error e) : Bad b e := by
  unfold procD at h
  cases h1 : numD b 1 (partF parts) p with
  | error x => rw [h1] at h; cases h; exact num_err hp h1
  | ok q =>
    obtain ⟨v, p1⟩ := q
    obtain ⟨rfl, g1, -⟩ := num_ok h1
    rw [h1] at h
    simp only at h
    cases h2 : numD b 2 codeF (p + 1) with
    | error x => rw [h2] at h; cases h; exact num_err g1 h2
    | ok q =>
      obtain ⟨k, p2⟩ := q
      obtain ⟨rfl, g2, -⟩ := num_ok h2
      rw [h2] at h
      simp only at h
      cases h3 : codeD b k locks k [] (p + 1 + 2) with
      | error x => rw [h3] at h; cases h; exact code_err _ _ _ _ _ g2 h3
      | ok q => rw [h3] at h; cases h
theorem proc_ok {parts locks : Int} (hl0 : 0 ≤ locks) (hl8 : locks ≤ 8) {b : List UInt8} {p p' : Nat} {x : Int × List Ins} (hp : p ≤ b.length) (h : procD b parts locks p = .ok (x, p')) : p' ≤ b.length ∧ b.drop p = encP x ++ b.drop p' ∧ (0 ≤ x.1 ∧ x.1 < parts) ∧ may x.2 locks = (0, 0) ∧ InV x.2 := by
  unfold procD at h
  cases h1 : numD b 1 (partF parts) p with
  | error x => rw [h1] at h; cases h
  | ok q =>
    obtain ⟨v, p1⟩ := q
    obtain ⟨rfl, g1, g2, g3, g4⟩ := num_ok h1
    rw [h1] at h
    simp only at h
    cases h2 : numD b 2 codeF (p + 1) with
    | error x => rw [h2] at h; cases h
    | ok q =>
      obtain ⟨k, p2⟩ := q
      obtain ⟨rfl, k1, k2, k3, k4⟩ := num_ok h2
      rw [h2] at h
      simp only at h
      cases h3 : codeD b k locks k [] (p + 1 + 2) with
      | error x => rw [h3] at h; cases h
      | ok q =>
        obtain ⟨l, p3⟩ := q
        rw [h3] at h
        cases h
        obtain ⟨l1, e1, e2, e3, e4, e5, e6⟩ := code_ok k b [] l _ _ k1 h3
        rw [List.nil_append] at e1
        subst e1
        have hk : k ≤ 256 := by
          unfold codeF at k2
          split at k2
          · exact absurd k2 (by decide)
          · omega
        refine ⟨e3, ?_, ⟨by simp only; omega, partF_zero g2⟩, may_of hl0 hl8 (by simp only; omega) (by simp only; rw [e2]; exact e5), e6⟩
        unfold encP
        simp only
        rw [g4, k4, e4, e2]
        simp only [List.append_assoc]
theorem procs_err {parts locks : Int} (hl0 : 0 ≤ locks) (hl8 : locks ≤ 8) : ∀ (k : Nat) (b : List UInt8) (acc : List (Int × List Ins)) (p : Nat) (e : Int × Int), p ≤ b.length → procsD b parts locks k acc p = .error e → Bad b e
  | 0, b, acc, p, e, _, h => by cases h
  | k + 1, b, acc, p, e, hp, h => by
    rw [procsD] at h
    cases hn : procD b parts locks p with
    | error x => rw [hn] at h; cases h; exact proc_err hp hn
    | ok q =>
      obtain ⟨a, p'⟩ := q
      rw [hn] at h
      obtain ⟨h2, -⟩ := proc_ok hl0 hl8 hp hn
      exact procs_err hl0 hl8 k b _ _ e h2 h
theorem procs_ok {parts locks : Int} (hl0 : 0 ≤ locks) (hl8 : locks ≤ 8) : ∀ (k : Nat) (b : List UInt8) (acc l : List (Int × List Ins)) (p p' : Nat), p ≤ b.length → procsD b parts locks k acc p = .ok (l, p') → ∃ l1, l = acc ++ l1 ∧ l1.length = k ∧ p' ≤ b.length ∧ b.drop p = encPs l1 ++ b.drop p' ∧ ∀ x ∈ l1, (0 ≤ x.1 ∧ x.1 < parts) ∧ may x.2 locks = (0, 0) ∧ InV x.2
  | 0, b, acc, l, p, p', hp, h => by cases h; exact ⟨[], by simp, rfl, hp, by simp [encPs], by simp⟩
  | k + 1, b, acc, l, p, p', hp, h => by
    rw [procsD] at h
    cases hn : procD b parts locks p with
    | error x => rw [hn] at h; cases h
    | ok q =>
      obtain ⟨a, p1⟩ := q
      rw [hn] at h
      obtain ⟨h2, h3, h4⟩ := proc_ok hl0 hl8 hp hn
      obtain ⟨l1, rfl, g2, g3, g4, g5⟩ := procs_ok hl0 hl8 k b _ l _ p' h2 h
      refine ⟨a :: l1, by simp, by simp [g2], g3, ?_, ?_⟩
      · rw [h3, g4]; simp [encPs]
      · intro x hx
        rcases List.mem_cons.1 hx with rfl | hx
        · exact h4
        · exact g5 x hx
theorem mark_err : ∀ (l : List UInt8) (b : List UInt8) (p : Nat) (e : Int × Int), p ≤ b.length → markD b l p = .error e → Bad b e
  | [], b, p, e, _, h => by cases h
  | c :: l, b, p, e, hp, h => by
    rw [markD] at h
    cases hn : numD b 1 (fun v => if v = c.toNat then 0 else 4) p with
    | error x => rw [hn] at h; cases h; exact num_err hp hn
    | ok q =>
      obtain ⟨a, p'⟩ := q
      rw [hn] at h
      obtain ⟨rfl, h2, -⟩ := num_ok hn
      exact mark_err l b _ e h2 h
theorem mark_inv : ∀ (l : List UInt8) (b : List UInt8) (p p' : Nat), p ≤ b.length → markD b l p = .ok p' → p' ≤ b.length ∧ b.drop p = l ++ b.drop p'
  | [], b, p, p', hp, h => by cases h; exact ⟨hp, rfl⟩
  | c :: l, b, p, p', hp, h => by
    rw [markD] at h
    cases hn : numD b 1 (fun v => if v = c.toNat then 0 else 4) p with
    | error x => rw [hn] at h; cases h
    | ok q =>
      obtain ⟨a, p1⟩ := q
      rw [hn] at h
      obtain ⟨rfl, h2, h3, h4, h5⟩ := num_ok hn
      have ha : a = c.toNat := by
        by_cases e : a = c.toNat
        · exact e
        · simp only [if_neg e] at h3; exact absurd h3 (by decide)
      obtain ⟨g1, g2⟩ := mark_inv l b _ p' h2 h
      refine ⟨g1, ?_⟩
      have hc := c.toNat_lt
      have e1 : le (a : Int) 1 = [c] := by
        rw [le_one (by omega) (by omega), ha, Int.toNat_natCast]
        simp
      rw [h5, e1, g2]
      rfl
end Go.Proofs.Ytaefgljpdpigeaa.Conf

/- What Decode takes may be, and is its bytes (layer 14): the whole. No program in sight. -/
namespace Go.Proofs.Ytaefgljpdpigeaa.Conf
open Go.RowKit Go.Fb Go.CodeP Go.BytesP Go.ReaderP
set_option linter.unusedVariables false
theorem lab_err {b : List UInt8} {p : Nat} {e : Int × Int} (hp : p ≤ b.length) (h : labD b p = .error e) : Bad b e := by
  unfold labD at h
  cases h1 : numD b 1 (countF 8) p with
  | error x => rw [h1] at h; cases h; exact num_err hp h1
  | ok q => obtain ⟨v, p1⟩ := q; rw [h1] at h; obtain ⟨rfl, g1, -⟩ := num_ok h1; exact labels_err _ _ _ _ _ g1 h
theorem count_zero {v : Nat} {most : Int} (h : countF most v = 0) : 1 ≤ v ∧ (v : Int) ≤ most := many_zero h
theorem lab_ok {b : List UInt8} {p p' : Nat} {l : List Int} (hp : p ≤ b.length) (h : labD b p = .ok (l, p')) : p' ≤ b.length ∧ b.drop p = le l.length 1 ++ encL l ++ b.drop p' ∧ labE l = (0, 0) ∧ ∀ x ∈ l, 0 ≤ x ∧ x ≤ 18446744073709551615 := by
  unfold labD at h
  cases h1 : numD b 1 (countF 8) p with
  | error x => rw [h1] at h; cases h
  | ok q =>
    obtain ⟨v, p1⟩ := q
    rw [h1] at h
    obtain ⟨rfl, g1, g2, g3, g4⟩ := num_ok h1
    have g2 := count_zero g2
    obtain ⟨l1, e, e2, e3, e4, e5, e6⟩ := labels_ok _ _ _ _ _ _ g1 h
    rw [List.nil_append] at e
    subst e
    refine ⟨e3, by rw [g4, e4, e2, List.append_assoc], labE_ok (by omega) (by omega) (fun j h1 h2 => ?_), e5⟩
    have h3 := e6 j h2
    rw [List.nil_append] at h3
    unfold labF at h3
    have hl : (l.take j).length = j := by rw [List.length_take]; omega
    rw [hl, if_neg (by omega)] at h3
    have f1 : (l.take j).getD (j - 1) 0 = l.getD (j - 1) 0 := by rw [List.getD_eq_getElem?_getD, List.getD_eq_getElem?_getD, List.getElem?_take, if_pos (by omega)]
    have f2 : ((l[j].toNat : Nat) : Int) = l.getD j 0 := by
      have := (e5 _ (List.getElem_mem h2)).1
      rw [List.getD_eq_getElem?_getD, List.getElem?_eq_getElem h2]; simp; omega
    rw [f1, f2] at h3
    exact h3
theorem tab_err {parts : Int} {b : List UInt8} {p : Nat} {e : Int × Int} (hp : p ≤ b.length) (h : tabD b parts p = .error e) : Bad b e := by
  unfold tabD at h
  cases h1 : numD b 1 (countF 64) p with
  | error x => rw [h1] at h; cases h; exact num_err hp h1
  | ok q => obtain ⟨v, p1⟩ := q; rw [h1] at h; obtain ⟨rfl, g1, -⟩ := num_ok h1; exact table_err _ _ _ _ _ g1 h
theorem tab_ok {parts : Int} {b : List UInt8} {p p' : Nat} {l : List Int} (hp : p ≤ b.length) (h : tabD b parts p = .ok (l, p')) : p' ≤ b.length ∧ b.drop p = le l.length 1 ++ encT l ++ b.drop p' ∧ (1 ≤ l.length ∧ l.length ≤ 64) ∧ ∀ x ∈ l, 0 ≤ x ∧ x < parts := by
  unfold tabD at h
  cases h1 : numD b 1 (countF 64) p with
  | error x => rw [h1] at h; cases h
  | ok q =>
    obtain ⟨v, p1⟩ := q
    rw [h1] at h
    obtain ⟨rfl, g1, g2, g3, g4⟩ := num_ok h1
    have g2 := count_zero g2
    obtain ⟨l1, e, e2, e3, e4, e5⟩ := table_ok _ _ _ _ _ _ g1 h
    rw [List.nil_append] at e
    subst e
    exact ⟨e3, by rw [g4, e4, e2, List.append_assoc], by omega, e5⟩
theorem four_err {b : List UInt8} {p : Nat} {e : Int × Int} (hp : p ≤ b.length) (h : fourD b p = .error e) : Bad b e := by
  unfold fourD at h
  cases h1 : numD b 2 (rangeF 2) p with
  | error x => rw [h1] at h; cases h; exact num_err hp h1
  | ok q =>
    obtain ⟨v1, p1⟩ := q; rw [h1] at h; obtain ⟨rfl, g1, -⟩ := num_ok h1
    simp only at h
    cases h2 : numD b 1 (rangeF 3) (p + 2) with
    | error x => rw [h2] at h; cases h; exact num_err g1 h2
    | ok q =>
      obtain ⟨v2, p2⟩ := q; rw [h2] at h; obtain ⟨rfl, g2, -⟩ := num_ok h2
      simp only at h
      cases h3 : numD b 1 (rangeF 4) (p + 2 + 1) with
      | error x => rw [h3] at h; cases h; exact num_err g2 h3
      | ok q =>
        obtain ⟨v3, p3⟩ := q; rw [h3] at h; obtain ⟨rfl, g3, -⟩ := num_ok h3
        simp only at h
        cases h4 : numD b 2 (rangeF 5) (p + 2 + 1 + 1) with
        | error x => rw [h4] at h; cases h; exact num_err g3 h4
        | ok q => rw [h4] at h; cases h
theorem four_ok {b : List UInt8} {p p' v1 v2 v3 v4 : Nat} (hp : p ≤ b.length) (h : fourD b p = .ok ((v1, v2, v3, v4), p')) : p' ≤ b.length ∧ b.drop p = (le v1 2 ++ (le v2 1 ++ (le v3 1 ++ le v4 2))) ++ b.drop p' ∧ rangedE 2 v1 = 0 ∧ rangedE 3 v2 = 0 ∧ rangedE 4 v3 = 0 ∧ rangedE 5 v4 = 0 := by
  unfold fourD at h
  cases h1 : numD b 2 (rangeF 2) p with
  | error x => rw [h1] at h; cases h
  | ok q =>
    obtain ⟨w1, p1⟩ := q; rw [h1] at h; obtain ⟨rfl, g1, k1, -, m1⟩ := num_ok h1
    simp only at h
    cases h2 : numD b 1 (rangeF 3) (p + 2) with
    | error x => rw [h2] at h; cases h
    | ok q =>
      obtain ⟨w2, p2⟩ := q; rw [h2] at h; obtain ⟨rfl, g2, k2, -, m2⟩ := num_ok h2
      simp only at h
      cases h3 : numD b 1 (rangeF 4) (p + 2 + 1) with
      | error x => rw [h3] at h; cases h
      | ok q =>
        obtain ⟨w3, p3⟩ := q; rw [h3] at h; obtain ⟨rfl, g3, k3, -, m3⟩ := num_ok h3
        simp only at h
        cases h4 : numD b 2 (rangeF 5) (p + 2 + 1 + 1) with
        | error x => rw [h4] at h; cases h
        | ok q =>
          obtain ⟨w4, p4⟩ := q; rw [h4] at h; obtain ⟨rfl, g4, k4, -, m4⟩ := num_ok h4
          cases h
          refine ⟨g4, ?_, k1, k2, k3, k4⟩
          rw [m1, m2, m3, m4]
          simp only [List.append_assoc]
theorem locks_of {v : Int} (h : rangedE 4 v = 0) : 0 ≤ v ∧ v ≤ 8 := ranged_zero h
theorem prs_err {parts locks : Int} (hl0 : 0 ≤ locks) (hl8 : locks ≤ 8) {b : List UInt8} {p : Nat} {e : Int × Int} (hp : p ≤ b.length) (h : prsD b parts locks p = .error e) : Bad b e := by
  unfold prsD at h
  cases h1 : numD b 1 (countF 32) p with
  | error x => rw [h1] at h; cases h; exact num_err hp h1
  | ok q => obtain ⟨v, p1⟩ := q; rw [h1] at h; obtain ⟨rfl, g1, -⟩ := num_ok h1; exact procs_err hl0 hl8 _ _ _ _ _ g1 h
theorem prs_ok {parts locks : Int} (hl0 : 0 ≤ locks) (hl8 : locks ≤ 8) {b : List UInt8} {p p' : Nat} {l : List (Int × List Ins)} (hp : p ≤ b.length) (h : prsD b parts locks p = .ok (l, p')) : p' ≤ b.length ∧ b.drop p = le l.length 1 ++ encPs l ++ b.drop p' ∧ (1 ≤ l.length ∧ l.length ≤ 32) ∧ ∀ x ∈ l, (0 ≤ x.1 ∧ x.1 < parts) ∧ may x.2 locks = (0, 0) ∧ InV x.2 := by
  unfold prsD at h
  cases h1 : numD b 1 (countF 32) p with
  | error x => rw [h1] at h; cases h
  | ok q =>
    obtain ⟨v, p1⟩ := q
    rw [h1] at h
    obtain ⟨rfl, g1, g2, g3, g4⟩ := num_ok h1
    have g2 := count_zero g2
    obtain ⟨l1, e, e2, e3, e4, e5⟩ := procs_ok hl0 hl8 _ _ _ _ _ _ g1 h
    rw [List.nil_append] at e
    subst e
    exact ⟨e3, by rw [g4, e4, e2, List.append_assoc], by omega, e5⟩
theorem many_of {n : Nat} {m : Int} (h1 : 1 ≤ n) (h2 : (n : Int) ≤ m) : manyE n m = 0 := by unfold manyE; rw [if_neg (by omega), if_neg (by omega)]
theorem new_of {T : List Int} {parts : Int} (h1 : 1 ≤ parts) (h2 : parts ≤ 8) (h3 : 1 ≤ T.length) (h4 : T.length ≤ 64) (h5 : ∀ x ∈ T, 0 ≤ x ∧ x < parts) : (Slots.newE T parts).1 = 0 := by
  unfold Slots.newE
  rw [if_neg (by omega), if_neg (by omega)]
  have : T.findIdx (Slots.bad parts) = T.length := List.findIdx_eq_length.2 fun x hx => by
    have := h5 x hx
    simp [Slots.bad]
    omega
  rw [this, if_neg (Nat.lt_irrefl _)]
theorem body_err {b : List UInt8} {p : Nat} {e : Int × Int} (hp : p ≤ b.length) (h : bodyD b p = .error e) : Bad b e := by
  unfold bodyD at h
  cases h1 : labD b p with
  | error x => rw [h1] at h; cases h; exact lab_err hp h1
  | ok q =>
    obtain ⟨ls, p1⟩ := q
    rw [h1] at h
    have a1 := (lab_ok hp h1).1
    simp only at h
    cases h2 : tabD b ls.length p1 with
    | error x => rw [h2] at h; cases h; exact tab_err a1 h2
    | ok q =>
      obtain ⟨tb, p2⟩ := q
      rw [h2] at h
      have a2 := (tab_ok a1 h2).1
      simp only at h
      cases h3 : fourD b p2 with
      | error x => rw [h3] at h; cases h; exact four_err a2 h3
      | ok q =>
        obtain ⟨⟨v1, v2, v3, v4⟩, p3⟩ := q
        rw [h3] at h
        obtain ⟨a3, -, -, -, k3, -⟩ := four_ok a2 h3
        have hk := locks_of k3
        simp only at h
        cases h4 : prsD b ls.length v3 p3 with
        | error x => rw [h4] at h; cases h; exact prs_err hk.1 hk.2 a3 h4
        | ok q => rw [h4] at h; cases h
theorem body_ok {b : List UInt8} {p p' : Nat} {c : Cf} (hp : p ≤ b.length) (h : bodyD b p = .ok (c, p')) : p' ≤ b.length ∧ b.drop p = bodyB c ++ b.drop p' ∧ mayC c = (0, 0) ∧ Fits c := by
  unfold bodyD at h
  cases h1 : labD b p with
  | error x => rw [h1] at h; cases h
  | ok q =>
    obtain ⟨ls, p1⟩ := q
    rw [h1] at h
    obtain ⟨a1, b1, c1, d1⟩ := lab_ok hp h1
    simp only at h
    cases h2 : tabD b ls.length p1 with
    | error x => rw [h2] at h; cases h
    | ok q =>
      obtain ⟨tb, p2⟩ := q
      rw [h2] at h
      obtain ⟨a2, b2, c2, d2⟩ := tab_ok a1 h2
      simp only at h
      cases h3 : fourD b p2 with
      | error x => rw [h3] at h; cases h
      | ok q =>
        obtain ⟨⟨v1, v2, v3, v4⟩, p3⟩ := q
        rw [h3] at h
        obtain ⟨a3, b3, k1, k2, k3, k4⟩ := four_ok a2 h3
        have hk := locks_of k3
        simp only at h
        cases h4 : prsD b ls.length v3 p3 with
        | error x => rw [h4] at h; cases h
        | ok q =>
          obtain ⟨ps, p4⟩ := q
          rw [h4] at h
          cases h
          obtain ⟨a4, b4, c4, d4⟩ := prs_ok hk.1 hk.2 a3 h4
          have hll := lab_len (l := ls) (by rw [c1])
          refine ⟨a4, ?_, ?_, ⟨d1, fun p hp => (d4 p hp).2.2⟩⟩
          · unfold bodyB
            simp only
            rw [b1, b2, b3, b4]
            simp only [List.append_assoc]
          · refine mayC_ok (c := ⟨ls, tb, v1, v2, v3, v4, ps⟩) ⟨by simp only; rw [c1], many_of c2.1 (by simp only; omega), new_of (by simp only; omega) (by simp only; omega) c2.1 c2.2 d2⟩ (fun j hj => ?_) (many_of c4.1 (by simp only; omega)) (fun j hj => ?_)
            · rcases (by omega : j = 0 ∨ j = 1 ∨ j = 2 ∨ j = 3 ∨ j = 4 ∨ j = 5) with rfl | rfl | rfl | rfl | rfl | rfl
              · rfl
              · rfl
              · exact k1
              · exact k2
              · exact k3
              · exact k4
            · obtain ⟨e1, e2, -⟩ := d4 _ (List.getElem_mem hj)
              have hj' : j < ps.length := hj
              have e1' : 0 ≤ (ps[j]'hj').1 ∧ (ps[j]'hj').1 < ls.length := e1
              have e3 : withinB (ps[j]'hj').1 0 ((ls.length : Int) - 1) = true := decide_eq_true (by omega)
              have e4 : procE ls.length v3 (ps[j]'hj') = 0 := by
                unfold procE
                rw [e3, if_pos rfl]
                exact congrArg Prod.fst e2
              exact e4
theorem dec_some {b : List UInt8} {c : Cf} (h : decD b = .ok c) : mayC c = (0, 0) ∧ Fits c ∧ encB c = b := by
  unfold decD at h
  split at h
  · cases h
  · cases h1 : markD b markB 0 with
    | error x => rw [h1] at h; cases h
    | ok p =>
      rw [h1] at h
      obtain ⟨a1, b1⟩ := mark_inv markB b 0 p (Nat.zero_le _) h1
      simp only at h
      cases h2 : bodyD b p with
      | error x => rw [h2] at h; cases h
      | ok q =>
        obtain ⟨c', p'⟩ := q
        rw [h2] at h
        simp only at h
        obtain ⟨a2, b2, a3, a4⟩ := body_ok a1 h2
        split at h
        · cases h
        · rename_i hlt
          cases h
          refine ⟨a3, a4, ?_⟩
          rw [List.drop_zero] at b1
          rw [encB_body, b1, b2, List.drop_of_length_le (by omega), List.append_nil]
theorem dec_bad {b : List UInt8} {e : Int × Int} (h : decD b = .error e) : Bad b e := by
  unfold decD at h
  split at h
  · cases h; exact ⟨by simp, by simp, by simp only; omega⟩
  · cases h1 : markD b markB 0 with
    | error x => rw [h1] at h; cases h; exact mark_err markB b 0 _ (Nat.zero_le _) h1
    | ok p =>
      rw [h1] at h
      obtain ⟨a1, b1⟩ := mark_inv markB b 0 p (Nat.zero_le _) h1
      simp only at h
      cases h2 : bodyD b p with
      | error x => rw [h2] at h; cases h; exact body_err a1 h2
      | ok q =>
        obtain ⟨c', p'⟩ := q
        rw [h2] at h
        simp only at h
        split at h
        · rename_i hlt; cases h; exact ⟨by simp, by simp, by simp only; omega⟩
        · cases h
end Go.Proofs.Ytaefgljpdpigeaa.Conf
