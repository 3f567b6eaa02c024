/- The walks of package lane's Put, Wait (layer 9). -/
import Derived.Test.YtnfaafdgfafcjaaLaneX
namespace Go.Proofs.Ytnfaafdgfafcjaa.Lane
open Go.RowKit Go.Fb
set_option linter.unusedVariables false
theorem AtT.still {T : TypeId} {F : Nat → Prop} {w w' : World} {b : Nat} {L : Lane} (h : AtT T w b F L) (hk : New w w') : AtT T w' b (grow F w w') L := by
  obtain ⟨⟨rv, Av, cv, rw, Aw, cw, hp, h1, h2⟩, h3, h4⟩ := h.new hk
  exact ⟨⟨rv, Av, cv, rw, Aw, cw, hp, fun k hk => ⟨.inl (h1 k hk), h4 k (h1 k hk)⟩, fun k hk => ⟨.inl (h2 k hk), h4 k (h2 k hk)⟩⟩, ⟨.inl h3, h4 b h3⟩, fun k hk => hk.2⟩
section
variable {T : TypeId} {w w2 : World} {b : Nat} {L : Lane} {rv : Option Nat} {Av : Option Addr} {cv : Nat} {rw : Option Nat} {Aw : Option Addr} {cw : Nat}
theorem PartsT.b_lt (hp : PartsT T w b L rv Av cv rw Aw cw) : b < w.heap.size := hp.blk.lt
/-- Other values. -/
theorem PartsT.put_vals (hp : PartsT T w b L rv Av cv rw Aw cw) {r' : Option Nat} {A' : Option Addr} {c' : Nat} {vals' : List Int} (hrow : Row w2 1 r' A' vals'.length c' (vals'.map (Value.int .i64))) (hk : Kept (fun k => rv = some k) w w2) (hr : ∀ k, r' = some k → rv = some k ∨ w.heap.size ≤ k) :
    PartsT T (w2.setCell ⟨b, 1, none⟩ (.slice A' vals'.length c')) b { L with vals := vals' } r' A' c' rw Aw cw := by
  have hb2 : Blk w2 b _ _ := hp.blk.kept hk hp.d1
  have hbl := hp.b_lt
  have hrb : ∀ k, r' = some k → ¬ k = b := fun k hk' e => by
    subst e
    rcases hr k hk' with h | h
    · exact hp.d1 h
    · omega
  refine ⟨hb2.set _, hrow.of_kept (by decide) (Kept.set1 _ _ _ _) hrb, (hp.waits.of_kept (by decide) hk fun k h1 h2 => hp.d3 k h2 h1).of_kept (by decide) (Kept.set1 _ _ _ _) fun k h e => by subst e; exact hp.d2 h, fun h => hrb b h rfl, hp.d2, fun k h1 h2 => ?_⟩
  rcases hr k h1 with h | h
  · exact hp.d3 k h h2
  · have := hp.waits.lt (by decide) k h2; omega
/-- Others who wait. -/
theorem PartsT.put_waits (hp : PartsT T w b L rv Av cv rw Aw cw) {r' : Option Nat} {A' : Option Addr} {c' : Nat} {ws : List (Int × Int)} (hrow : Row w2 2 r' A' ws.length c' (ws.flatMap cellsW)) (hk : Kept (fun k => rw = some k) w w2) (hr : ∀ k, r' = some k → rw = some k ∨ w.heap.size ≤ k) :
    PartsT T (w2.setCell ⟨b, 2, none⟩ (.slice A' ws.length c')) b { L with waits := ws } rv Av cv r' A' c' := by
  have hb2 : Blk w2 b _ _ := hp.blk.kept hk hp.d2
  have hbl := hp.b_lt
  have hrb : ∀ k, r' = some k → ¬ k = b := fun k hk' e => by
    subst e
    rcases hr k hk' with h | h
    · exact hp.d2 h
    · omega
  refine ⟨hb2.set _, (hp.vals.of_kept (by decide) hk fun k h1 h2 => hp.d3 k h1 h2).of_kept (by decide) (Kept.set1 _ _ _ _) (fun k h e => by subst e; exact hp.d1 h), hrow.of_kept (by decide) (Kept.set1 _ _ _ _) hrb, hp.d1, fun h => hrb b h rfl, fun k h1 h2 => ?_⟩
  rcases hr k h2 with h | h
  · exact hp.d3 k h1 h
  · have := hp.vals.lt (by decide) k h1; omega
theorem PartsT.put_taken (hp : PartsT T w b L rv Av cv rw Aw cw) (n : Int) : PartsT T (w.setCell ⟨b, 3, none⟩ (.int .i64 n)) b { L with taken := n } rv Av cv rw Aw cw :=
  ⟨hp.blk.set _, hp.vals.of_kept (by decide) (Kept.set1 _ _ _ _) (fun k h e => by subst e; exact hp.d1 h), hp.waits.of_kept (by decide) (Kept.set1 _ _ _ _) (fun k h e => by subst e; exact hp.d2 h), hp.d1, hp.d2, hp.d3⟩
theorem PartsT.put_dropped (hp : PartsT T w b L rv Av cv rw Aw cw) (n : Int) : PartsT T (w.setCell ⟨b, 4, none⟩ (.int .i64 n)) b { L with dropped := n } rv Av cv rw Aw cw :=
  ⟨hp.blk.set _, hp.vals.of_kept (by decide) (Kept.set1 _ _ _ _) (fun k h e => by subst e; exact hp.d1 h), hp.waits.of_kept (by decide) (Kept.set1 _ _ _ _) (fun k h e => by subst e; exact hp.d2 h), hp.d1, hp.d2, hp.d3⟩
end
section
variable {w : World} {b : Nat} {F : Nat → Prop} {L : Lane}
theorem AtT.drewN {T : TypeId} (h : AtT T w b F L) (q : Nat) : AtT T (w.drewN q) b F L := h.new ((Kept.refl _ _).drewN q)
def putL (L : Lane) (v : Int) : Lane × Int := if L.room ≤ (L.vals.length : Int) then (L, 19) else ({ L with vals := L.vals ++ [v] }, 0)
set_option maxHeartbeats 1000000 in
theorem put_any (h : At w b F L) (v : Int) (hlen : L.vals.length ≤ 1048576) : Calls Try.prog 22 #[.pointer (some ⟨b, 0, none⟩), .int .i64 v] w (Ends w b F (putL L v).1 (.int .i64 (putL L v).2)) := by
  have hfull := full_any h
  by_cases hf : L.room ≤ (L.vals.length : Int)
  · rw [decide_eq_true hf] at hfull
    have E := Lib.hid (show putL L v = (L, 19) from if_pos hf)
    have H := Lib.hid h
    have HFULL := Lib.hid hfull
    clear h hfull
    clear hf hlen
    go_enter Try.func22, Try.ntmps22
    go_wp2_with (refine HFULL.out.mono ?_; rintro e w1 ⟨rfl, q, rfl⟩)
    go_ret
    rw [E.out]
    exact ⟨rfl, H.out.still ((Kept.refl _ _).drewN q), ((Kept.refl _ _).drewN q)⟩
  · rw [decide_eq_false hf] at hfull
    have E := Lib.hid (show putL L v = ({ L with vals := L.vals ++ [v] }, 0) from if_neg hf)
    have H0 := Lib.hid h
    obtain ⟨⟨rv, Av, cv, rw, Aw, cw, hp, h1, h2⟩, h3, h4⟩ := h
    have HP := Lib.hid (fun q => hp.kept ((Kept.refl (fun _ => False) w).drewN q) id (fun _ _ h => h) (fun _ _ h => h))
    obtain ⟨c0, c1, c2, c3, c4⟩ := hp.cells
    have hb := hp.vals.bound
    obtain ⟨nv, hnv⟩ : ∃ n, n = L.vals.length := ⟨_, rfl⟩
    rw [← hnv] at c1 hb hlen
    have HNV := Lib.hid hnv
    have HFULL := Lib.hid hfull
    have H1 := Lib.hid h1
    have H2 := Lib.hid h2
    have H3 := Lib.hid h3
    have H4 := Lib.hid h4
    clear hfull h1 h2 h3 h4
    clear hf hp hnv
    go_enter Try.func22, Try.ntmps22
    go_wp2_with (first | (go_at_call 46; refine HFULL.out.mono ?_; rintro e w1 ⟨rfl, q, rfl⟩; have hrowv := (HP.out q).vals; rw [← HNV.out] at hrowv; have HROWV := Lib.hid hrowv; clear hrowv) | (at_builtin; refine wpList_append_one (cs := [.int .i64 v]) tyVals rfl (.tmp 11) (.tmp 13) rfl rfl HROWV.out rfl rfl rfl (by simp [Value.oneCell']) (by unfold maxLen; omega) (by omega) ?_; intro r2 A2 c2' w2 hr2 hk2 hn2; have hb2 := ((HP.out q).blk.kept hk2 (HP.out q).d1); have x1 := hb2.cell 1; have x2 := hb2.free 1; simp only [laneC, List.getElem?_toArray, List.getElem?_cons_zero, List.getElem?_cons_succ] at x1; have HR2 := Lib.hid hr2; have HK2 := Lib.hid hk2; have HN2 := Lib.hid hn2; clear hr2 hk2 hn2 hb2))
    go_ret
    have hp2 := (HP.out q).put_vals (vals' := L.vals ++ [v]) (r' := r2) (A' := A2) (c' := c2') (w2 := w2) (by have := HR2.out; rw [List.length_append, List.map_append, ← HNV.out]; exact this) HK2.out HN2.out
    have e : (L.vals ++ [v]).length = nv + 1 := by rw [List.length_append, ← HNV.out]; rfl
    rw [e] at hp2
    have hkk : Kept F w (w2.setCell ⟨b, 1, none⟩ (.slice A2 (nv + 1) c2')) := ((((Kept.refl F w).drewN q).step HK2.out fun k hk h => H1.out k h)).setCell (.inr H3.out) _
    rw [E.out]
    refine ⟨rfl, PartsT.ends H0.out hp2 (fun k hk => ?_) (fun k hk => .inl (H2.out k hk)) hkk.size, hkk⟩
    rcases HN2.out k hk with h | h
    · exact .inl (H1.out k h)
    · exact .inr h
end
end Go.Proofs.Ytnfaafdgfafcjaa.Lane
