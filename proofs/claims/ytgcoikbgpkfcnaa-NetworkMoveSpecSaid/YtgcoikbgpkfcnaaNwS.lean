/-
  Network: the law NetworkMoveSpec.
-/
import Derived.Test.YtgcoikbgpkfcnaaNwO
set_option linter.unusedSimpArgs false
set_option linter.unusedVariables false
namespace Go.Proofs.Ytgcoikbgpkfcnaa
open Go.Lo

@[simp] theorem elem45 : elemB P0 45 = some (8, [num 0]) := by kernel_rfl
@[simp] theorem elemOk45 : elemOk P0 45 = true := by kernel_rfl
@[simp] theorem isl45 : isSliceT P0 45 = true := by kernel_rfl
def rI (l : List Int) : List (List PV) := l.map fun x => [num x]
theorem rI_one (l : List Int) : ∀ r ∈ rI l, r.length = 1 := fun r hr => by
  obtain ⟨p, _, rfl⟩ := List.mem_map.1 hr; rfl
theorem rI_flat (l : List Int) : (rI l).flatten = l.map num := by
  induction l with
  | nil => rfl
  | cons x l ih => simp [rI] at ih ⊢; exact ih
theorem chunkI {σf : Heap} (m : Nat) (full : Bool) (l : List Int) : PV.slice full (chunks 1 l.length ((rI l).flatten.map (frzN m σf))) = .slice full (rI l) := by
  have e : (rI l).flatten.map (frzN m σf) = (rI l).flatten := by rw [rI_flat, List.map_map]; exact List.map_congr_left fun x _ => frzN_num _ _ _
  rw [e, show l.length = (rI l).length by simp [rI], Go.Lo.chunks_flatten (rI l) (rI_one l)]
theorem IAx_I {b : Bool} {l : List Int} {k : Nat} (kk : IntKind) (h : k < l.length) : IAx (some (none, 1, false)) (.slice b (rI l)) (.lit (.int kk (k : Int))) = ⟨True, .ref [num l[k]]⟩ := by simp [rI, h]
@[simp] theorem sv_rI (b : Bool) (l : List Int) : sv (.slice b (rI l)) = .slice b (rI l) := rfl
@[simp] theorem Lenx_rI (σ : Heap) (b : Bool) (l : List Int) : Lenx .slice σ (.slice b (rI l)) = ⟨True, num l.length⟩ := by simp [rI]

set_option maxHeartbeats 4000000 in
set_option maxRecDepth 8000 in
theorem move6_ok (n : Nt) (at_ a b : Int) (on : Bool) (hn : okN n) : PFun P0 6 [.agg (netC n), num at_, num a, num b, bo on] (bo true) := by
  refine pcalls_body Try.func6 rfl rfl rfl (by show 5 ≤ _; decide) (pwp_goK TP_ok [14] ?_)
  have hq := hn.1
  have ha := hn.2
  cases hf : fewS n with
  | false => simp (config := { contextual := true }) [netC, hq, ha, hf]
  | true =>
  have hqm := hq.2
  unfold maxLen at hqm
  obtain ⟨C, e, hC⟩ : ∃ C e, cutN n a b on = (C, e) := ⟨_, _, rfl⟩
  have oC : okN C := by have := okN_cut (a := a) (b := b) (on := on) hn; rwa [hC] at this
  have oC1 := oC.1
  have oC2 := oC.2
  have s0 := sameN_refl C
  simp (config := { contextual := true }) [netC, hq, ha, hf, hC, cutV, neV, oC1, oC2, s0]
  intro id5 id11 h1 id13 h2 h3
  refine pwpT_go (pwp_frz 2 (Heap.empty.set id5 (.cells (netC n))) (Frz.set Frz.none (by simp [h1, h3, netC, *])) ?_)
  have fz : ∀ σ, frzN 2 σ (.slice true [[num at_]]) = .slice true [[num at_]] := fun σ => by simp [frzN]
  refine pwp_loop (fun N fr σ => ∃ (i : Nat) (v : PV) (l : List Int), N = 3 - i ∧ i ≤ 3 ∧ fr 5 = .ref (netC n) ∧ fr 15 = v ∧ fr 16 = num i ∧ Own 1 σ v (rI l) ∧ l.length = i + 1)
    (N := 3) ⟨0, .slice true (rI [at_]), [at_], by simp [netC, rI, fz]; exact Own.full 1 _ (rI_one [at_])⟩ ?_
  rintro N fr σ ⟨i, v, l, rfl, hi, e5, e15, e16, ho, hll⟩
  obtain ⟨o1, o2⟩ := ho.sv
  refine pwp_goK TP_ok [14] ?_
  have ex : ∀ {c : Code} {Q : PX → Fr → Heap → Prop}, (∀ fr σ, (fr 5 = .ref (netC n) ∧ ∃ l full, fr 15 = .slice full (rI l) ∧ l.length ≤ 4) → pwp P0 false 150 c Q fr σ) → ∀ fr σ, fr 5 = .ref (netC n) → fr 15 = v → Own 1 σ v (rI l) → pwp P0 false 150 c Q fr σ := by
    intro c Q hk fr σ e5 e15 ho
    rcases ho.2 with ⟨rfl, hz⟩ | ⟨id, full, rfl, hid⟩ | rfl
    · have : l = [] := by simpa [rI] using hz
      subst this; simp at hll
    · refine pwp_frz 3 (Heap.empty.set id (.cells (rI l).flatten)) (Frz.set Frz.none hid) ?_
      refine hk _ _ ⟨?_, l, full, ?_, by omega⟩
      · show frzN 3 _ (fr 5) = _
        rw [e5]; simp [netC]
      · show frzN 3 _ (fr 15) = _
        rw [e15, frzN_msl, Heap.set_at, if_pos (show SameId id id from rfl)]
        have hl := (flatten_getD (rI_one l)).1
        simp only [cellsO_some, FZM_some, List.drop_zero]
        rw [if_pos (by rw [hl]; omega), show (rI l).length = l.length by simp [rI]]
        exact chunkI 2 full l
    · exact hk _ _ ⟨e5, l, true, e15, by omega⟩
  by_cases c1 : (i : Int) < n.q.length
  · by_cases c2 : (i : Int) < 3
    · have wk : IntKind.i64.wrap ((i : Int) + 1) = (i : Int) + 1 := wrap_i64 (by omega) (by omega)
      simp [netC, e5, e15, e16, c1, c2, o1, o2]
      refine own_append (k := 1) (b := 8) (rows := rI l) (new := [[num (i : Int)]]) (zs := [num 0]) ho elem45 (by decide) rfl (by decide) isl45 (yv_row fun r hr => by simp at hr; subst hr; rfl) (fun r hr => by simp at hr; subst hr; simp [isCell1]) (by simp [rI]; omega) ?_
      intro V σ2 hV hK _
      obtain ⟨v1, v2⟩ := hV.sv
      have hrow : rI l ++ [[num (i : Int)]] = rI (l ++ [(i : Int)]) := by simp [rI]
      rw [hrow] at hV
      simp [e5, e16, v1, v2, wk, netC]
      exact ⟨3 - (i + 1), by omega, i + 1, rfl, by omega, by omega, l ++ [(i : Int)], hV, by simp; omega⟩
    · simp [netC, e5, e15, e16, c1, c2, o1, o2]
      refine pwpT_go (ex ?_ _ _ ?_ ?_ ho)
      rotate_left
      · simp [e5, netC]
      · simp [e15]
      rintro fr σ ⟨e5, l, full, e15, hl⟩
      refine pwp_go TP_ok ?_
      simp [e5, e15]
      refine pwp_loop (fun N fr σ => ∃ k : Nat, N = l.length - k ∧ k ≤ l.length ∧ fr 5 = .ref (netC n) ∧ fr 72 = .slice full (rI l) ∧ fr 73 = num l.length ∧ fr 74 = num k) (N := l.length) ⟨0, by simp [e5, rI]⟩ ?_
      rintro N fr σ ⟨k, rfl, hk, e5, e72, e73, e74⟩
      refine pwp_go TP_ok ?_
      by_cases hlt : k < l.length
      · have wk : IntKind.i64.wrap ((k : Int) + 1) = (k : Int) + 1 := wrap_i64 (by omega) (by omega)
        have hix := IAx_I (b := full) .i64 hlt
        obtain ⟨x, hx⟩ : ∃ x, l[k] = x := ⟨_, rfl⟩
        rw [hx] at hix
        obtain ⟨p, M, eD, hD⟩ : ∃ p M e, deliverN n x = (p, M, e) := ⟨_, _, _, rfl⟩
        obtain ⟨L, eL, hL⟩ : ∃ M e, loseN n x = (M, e) := ⟨_, _, rfl⟩
        obtain ⟨R, eR, hR⟩ : ∃ M e, repeatN n x = (M, e) := ⟨_, _, rfl⟩
        have oM : okN M := by have := okN_deliver (i := x) hn; rwa [hD] at this
        have op : okP p := by have := okP_deliver (i := x) hn; rwa [hD] at this
        have oL : okN L := by have := okN_lose (i := x) hn; rwa [hL] at this
        have oR : okN R := by have := okN_repeat (i := x) hn; rwa [hR] at this
        unfold okP at op
        have t1 := sameN_refl M
        have t2 := sameN_refl L
        have t3 := sameN_refl R
        have t4 := sameP_refl p
        have m1 := oM.1
        have m2 := oM.2
        have l1 := oL.1
        have l2 := oL.2
        have r1 := oR.1
        have r2 := oR.2
        simp (config := { contextual := true }) [netC, rowK, hq, ha, e5, e72, e73, e74, hlt, hix, hD, hL, hR, deliverV, loseV, repeatV, neV, m1, m2, l1, l2, r1, r2, op, t1, t2, t3, t4, wk]
        intros
        exact ⟨l.length - (k + 1), by omega, k + 1, rfl, by omega, by omega⟩
      · simp [e5, e72, e73, e74, hlt]
  · simp [netC, e5, e15, e16, c1, o1, o2]
    refine pwpT_go (ex ?_ _ _ ?_ ?_ ho)
    rotate_left
    · simp [e5, netC]
    · simp [e15]
    rintro fr σ ⟨e5, l, full, e15, hl⟩
    refine pwp_go TP_ok ?_
    simp [e5, e15]
    refine pwp_loop (fun N fr σ => ∃ k : Nat, N = l.length - k ∧ k ≤ l.length ∧ fr 5 = .ref (netC n) ∧ fr 72 = .slice full (rI l) ∧ fr 73 = num l.length ∧ fr 74 = num k) (N := l.length) ⟨0, by simp [e5, rI]⟩ ?_
    rintro N fr σ ⟨k, rfl, hk, e5, e72, e73, e74⟩
    refine pwp_go TP_ok ?_
    by_cases hlt : k < l.length
    · have wk : IntKind.i64.wrap ((k : Int) + 1) = (k : Int) + 1 := wrap_i64 (by omega) (by omega)
      have hix := IAx_I (b := full) .i64 hlt
      obtain ⟨x, hx⟩ : ∃ x, l[k] = x := ⟨_, rfl⟩
      rw [hx] at hix
      obtain ⟨p, M, eD, hD⟩ : ∃ p M e, deliverN n x = (p, M, e) := ⟨_, _, _, rfl⟩
      obtain ⟨L, eL, hL⟩ : ∃ M e, loseN n x = (M, e) := ⟨_, _, rfl⟩
      obtain ⟨R, eR, hR⟩ : ∃ M e, repeatN n x = (M, e) := ⟨_, _, rfl⟩
      have oM : okN M := by have := okN_deliver (i := x) hn; rwa [hD] at this
      have op : okP p := by have := okP_deliver (i := x) hn; rwa [hD] at this
      have oL : okN L := by have := okN_lose (i := x) hn; rwa [hL] at this
      have oR : okN R := by have := okN_repeat (i := x) hn; rwa [hR] at this
      unfold okP at op
      have t1 := sameN_refl M
      have t2 := sameN_refl L
      have t3 := sameN_refl R
      have t4 := sameP_refl p
      have m1 := oM.1
      have m2 := oM.2
      have l1 := oL.1
      have l2 := oL.2
      have r1 := oR.1
      have r2 := oR.2
      simp (config := { contextual := true }) [netC, rowK, hq, ha, e5, e72, e73, e74, hlt, hix, hD, hL, hR, deliverV, loseV, repeatV, neV, m1, m2, l1, l2, r1, r2, op, t1, t2, t3, t4, wk]
      intros
      exact ⟨l.length - (k + 1), by omega, k + 1, rfl, by omega, by omega⟩
    · simp [e5, e72, e73, e74, hlt]
end Go.Proofs.Ytgcoikbgpkfcnaa
