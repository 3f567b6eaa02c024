/- Decode of Encode, of more, and of less (layer 14). No program in sight. -/
import Derived.Test.YtaefgljpdpigeaaConfX
namespace Go.Proofs.Ytaefgljpdpigeaa.Conf
open Go.RowKit Go.Fb Go.CodeP Go.BytesP Go.ReaderP
set_option linter.unusedVariables false
def bodyB (c : Cf) : List UInt8 := le c.labels.length 1 ++ encL c.labels ++ (le c.table.length 1 ++ encT c.table) ++ (le c.fuel 2 ++ (le c.lane 1 ++ (le c.locks 1 ++ le c.log 2))) ++ (le c.procs.length 1 ++ encPs c.procs)
theorem encB_body (c : Cf) : encB c = markB ++ bodyB c := by
  unfold encB stage8 stage4 stage2 bodyB
  simp only [List.append_assoc]
theorem numV_cons (x : UInt8) (l : List UInt8) (p : Nat) : numV (x :: l) (p + 1) 1 = numV l p 1 := by unfold numV; rw [List.drop_succ_cons]
theorem mark_ok (t : List UInt8) : markD (markB ++ t) markB 0 = .ok 5 := by
  have h : ∀ p, p < 5 → numV (markB ++ t) p 1 = (markB.getD p 0).toNat := by
    intro p hp
    rw [numV_one (by simp only [List.length_append, markB, List.length_cons, List.length_nil]; omega)]
    rcases (by omega : p = 0 ∨ p = 1 ∨ p = 2 ∨ p = 3 ∨ p = 4) with rfl | rfl | rfl | rfl | rfl <;> rfl
  have hl : (markB ++ t).length = 5 + t.length := by simp only [List.length_append, markB, List.length_cons, List.length_nil]
  have hs : ∀ p, p < 5 → numD (markB ++ t) 1 (fun v => if v = (markB.getD p 0).toNat then 0 else 4) p = .ok ((markB.getD p 0).toNat, p + 1) := by
    intro p hp
    unfold numD
    rw [if_neg (by omega), h p hp, if_pos (if_pos rfl)]
  have e : markB = [markB.getD 0 0, markB.getD 1 0, markB.getD 2 0, markB.getD 3 0, markB.getD 4 0] := rfl
  generalize hM : markB ++ t = M at *
  rw [e]
  simp only [markD]
  rw [hs 0 (by omega)]
  simp only
  rw [hs 1 (by omega)]
  simp only
  rw [hs 2 (by omega)]
  simp only
  rw [hs 3 (by omega)]
  simp only
  rw [hs 4 (by omega)]
theorem mark_cut {k : Nat} (hk : k < 5) : markD (markB.take k) markB 0 = .error (5, (k : Int)) := by
  rcases (by omega : k = 0 ∨ k = 1 ∨ k = 2 ∨ k = 3 ∨ k = 4) with rfl | rfl | rfl | rfl | rfl <;> rfl
theorem length_encB {c : Cf} (hm : mayC c = (0, 0)) : 14 ≤ (encB c).length ∧ (encB c).length ≤ 100000 := by
  obtain ⟨s1, s2, s3, s4, s5, s6, s7, s8, s9, s10, s11⟩ := sane_of hm
  have h1 := length_encPs c.procs (fun p hp => (may_ok (s10 p hp)).2.2.1)
  have h2 : 3075 * c.procs.length ≤ 3075 * 32 := Nat.mul_le_mul_left _ s8.2
  unfold encB
  rw [List.length_append, length_stage8]
  omega
theorem dec_more {c : Cf} (hm : mayC c = (0, 0)) (hf : Fits c) (more : List UInt8) (hl : more.length ≤ 1000) : decD (encB c ++ more) = if more = [] then .ok c else .error (6, ((encB c).length : Int)) := by
  have hle := length_encB hm
  have hb := (Codec.body hm hf).reads (encB c ++ more) markB more (by rw [encB_body]; rfl)
  have hlen : (encB c).length = markB.length + (bodyB c).length := by rw [encB_body, List.length_append]
  unfold decD
  rw [if_neg (by rw [List.length_append]; omega)]
  have hmk : markD (encB c ++ more) markB 0 = .ok 5 := by rw [encB_body, List.append_assoc]; exact mark_ok _
  rw [hmk]
  simp only
  rw [show (5 : Nat) = markB.length from rfl, hb]
  simp only
  change (if markB.length + (bodyB c).length < (encB c ++ more).length then _ else _) = _
  rw [← hlen, List.length_append]
  by_cases h : more = []
  · subst h
    rw [if_pos rfl, if_neg (by simp)]
  · have : 0 < more.length := List.length_pos_iff.2 h
    rw [if_neg h, if_pos (by omega), hlen]
    rfl
theorem dec_enc {c : Cf} (hm : mayC c = (0, 0)) (hf : Fits c) : decD (encB c) = .ok c := by
  have := dec_more hm hf [] (by decide)
  rw [List.append_nil, if_pos rfl] at this
  exact this
theorem dec_cut {c : Cf} (hm : mayC c = (0, 0)) (hf : Fits c) {k : Nat} (hk : k < (encB c).length) : decD ((encB c).take k) = .error (5, (k : Int)) := by
  have hle := length_encB hm
  have hlk : ((encB c).take k).length = k := by rw [List.length_take]; omega
  unfold decD
  rw [if_neg (by omega)]
  by_cases h5 : k < 5
  · have e : (encB c).take k = markB.take k := by rw [encB_body, List.take_append_of_le_length (by show k ≤ 5; omega)]
    rw [e, mark_cut h5]
  · have e : (encB c).take k = markB ++ (bodyB c).take (k - 5) := by
      rw [encB_body, List.take_append, List.take_of_length_le (by show 5 ≤ k; omega)]; rfl
    have hlen : (encB c).length = 5 + (bodyB c).length := by rw [encB_body, List.length_append]; rfl
    have hb := (Codec.body hm hf).cuts ((encB c).take k) markB (k - 5) (by change k - 5 < (bodyB c).length; omega) e
    have hmk : markD ((encB c).take k) markB 0 = .ok 5 := by rw [e]; exact mark_ok _
    rw [hmk]
    simp only
    rw [show (5 : Nat) = markB.length from rfl, hb, hlk]
end Go.Proofs.Ytaefgljpdpigeaa.Conf
