/-
  Sizing: less costs no more; days without requirements at the end change nothing.
-/
import Derived.Test.YtccjejfdhhnhjaaSzM
set_option linter.unusedSimpArgs false
set_option linter.unusedVariables false
namespace Go.Proofs.Ytccjejfdhhnhjaa

section
variable {n m : Nat → Int} {s s' h h' : Int}
theorem lotC_mono (hm : ∀ d, 0 ≤ m d) (hmn : ∀ d, m d ≤ n d) (hs0 : 0 ≤ s') (hs : s' ≤ s) (hh0 : 0 ≤ h') (hh : h' ≤ h) (a t : Nat) : lotC m s' h' a t ≤ lotC n s h a t := by
  have hc : holdC m h' a (t - a) ≤ holdC n h a (t - a) := sumTo_le fun i _ =>
    Int.mul_le_mul (Int.mul_le_mul_of_nonneg_right hh (by omega)) (hmn _) (hm _) (Int.mul_nonneg (by omega) (by omega))
  have hn : ∀ d, 0 ≤ n d := fun d => Int.le_trans (hm d) (hmn d)
  cases hsm : some_ m a (t - a) with
  | true =>
    have hsn : some_ n a (t - a) = true := by
      obtain ⟨i, h1, h2⟩ := (some_iff _ _ _).1 hsm
      exact (some_iff _ _ _).2 ⟨i, h1, Int.lt_of_lt_of_le h2 (hmn _)⟩
    unfold lotC; rw [hsm, hsn, if_pos rfl, if_pos rfl]; omega
  | false =>
    have := lotC_nonneg (need := n) hn (Int.le_trans hs0 hs) (Int.le_trans hh0 hh) a t
    unfold lotC at this ⊢; rw [hsm]; simpa using this
theorem price_mono (hm : ∀ d, 0 ≤ m d) (hmn : ∀ d, m d ≤ n d) (hs0 : 0 ≤ s') (hs : s' ≤ s) (hh0 : 0 ≤ h') (hh : h' ≤ h) : ∀ t, price m s' h' t ≤ price n s h t := by
  intro t
  induction t using Nat.strongRecOn with
  | _ t ih =>
    rcases Nat.eq_zero_or_pos t with rfl | ht
    · exact Int.le_refl _
    · obtain ⟨a, ha, e⟩ := price_met n s h ht
      have h1 := price_le m s' h' ha
      have h2 := ih a ha
      have h3 := lotC_mono hm hmn hs0 hs hh0 hh a t
      omega

/-- A day without a requirement. -/
theorem some_zeroDay {t a : Nat} (hz : n t = 0) (ha : a ≤ t) : some_ n a (t + 1 - a) = some_ n a (t - a) := by
  rw [show t + 1 - a = t - a + 1 by omega, some_succ, show a + (t - a) = t by omega, hz]; simp
theorem lotC_zeroDay {t a : Nat} (hz : n t = 0) (ha : a ≤ t) : lotC n s h a (t + 1) = lotC n s h a t := by
  have e : holdC n h a (t + 1 - a) = holdC n h a (t - a) := by
    rw [show t + 1 - a = t - a + 1 by omega]
    show holdC n h a (t - a) + h * ((t - a : Nat) : Int) * n (a + (t - a)) = _
    rw [show a + (t - a) = t by omega, hz]; simp
  unfold lotC; rw [e, some_zeroDay hz ha]
theorem lotC_self (t : Nat) : lotC n s h t t = 0 := by unfold lotC; rw [Nat.sub_self, some_zero]; rfl
theorem price_zeroDay {t : Nat} (hz : n t = 0) : price n s h (t + 1) = price n s h t := by
  have h1 := price_le n s h (show t < t + 1 by omega)
  rw [lotC_zeroDay hz (Nat.le_refl t), lotC_self] at h1
  obtain ⟨a, ha, e⟩ := price_met n s h (show 0 < t + 1 by omega)
  rw [lotC_zeroDay hz (by omega)] at e
  rcases Nat.lt_or_ge a t with h2 | h2
  · have := price_le n s h h2; omega
  · rw [show a = t by omega, lotC_self] at e; omega
theorem pick_zeroDay {t : Nat} (hz : n t = 0) : pick n s h (t + 1) = pick n s h t := by
  have e : ∀ a, a ≤ t → pickP n s h (t + 1) a = pickP n s h t a := fun a ha => by
    unfold pickP; rw [some_zeroDay hz ha, lotC_zeroDay hz ha, price_zeroDay hz]
  have e0 : pickP n s h (t + 1) t = false := by rw [e t (Nat.le_refl t)]; unfold pickP; rw [Nat.sub_self, some_zero]; rfl
  cases hp : pick n s h t with
  | none =>
    refine findB_no fun d hd => ?_
    rcases Nat.lt_or_ge d t with h2 | h2
    · rw [e d (by omega)]; exact findB_none hp d h2
    · rw [show d = t by omega]; exact e0
  | some a =>
    obtain ⟨q1, q2, q3⟩ := findB_some hp
    refine findB_of (by omega) (by rw [e a (by omega)]; exact q2) fun d h1 h2 => ?_
    rcases Nat.lt_or_ge d t with h3 | h3
    · rw [e d (by omega)]; exact q3 d h1 h3
    · rw [show d = t by omega]; exact e0
theorem best_zeroDay {t : Nat} (hz : n t = 0) (d : Nat) : best n s h (t + 1) d = best n s h t d := by
  cases hp : pick n s h t with
  | none => rw [best_none hp, best_none (by rw [pick_zeroDay hz]; exact hp)]
  | some a => rw [best_some hp, best_some (t := t + 1) (by rw [pick_zeroDay hz]; exact hp)]
theorem lotsTo_zeroDay {S : Nat → Bool} {t : Nat} (hz : n t = 0) (d : Nat) : lotsTo n S (t + 1) d = lotsTo n S t d := by
  show lotsTo n S t d + (if lastTo S (t + 1) = some d then n t else 0) = _
  rw [hz]; simp
theorem zeros_end {t : Nat} : ∀ k, (∀ d, t ≤ d → d < t + k → n d = 0) → price n s h (t + k) = price n s h t ∧ ∀ d, lotsTo n (best n s h (t + k)) (t + k) d = lotsTo n (best n s h t) t d := by
  intro k
  induction k with
  | zero => exact fun _ => ⟨rfl, fun _ => rfl⟩
  | succ k ih =>
    intro hz
    obtain ⟨i1, i2⟩ := ih fun d h1 h2 => hz d h1 (by omega)
    have z := hz (t + k) (by omega) (by omega)
    refine ⟨(price_zeroDay z).trans i1, fun d => ?_⟩
    rw [← i2 d, show t + (k + 1) = t + k + 1 by omega, lotsTo_zeroDay z]
    exact lotsTo_congr (fun d _ => best_zeroDay z d) d
end
theorem nf_zeros (need : List Int) (k : Nat) : nf (need ++ List.replicate k 0) = nf need := by
  funext d
  unfold nf
  rw [List.getD_eq_getElem?_getD, List.getD_eq_getElem?_getD]
  rcases Nat.lt_or_ge d need.length with h | h
  · rw [List.getElem?_append_left h]
  · rw [List.getElem?_append_right h, List.getElem?_eq_none h, List.getElem?_replicate]; split <;> rfl
theorem valid_zeros {need : List Int} {s h : Int} (hv : validS need s h = true) {k : Nat} (hk : need.length + k ≤ 16) : validS (need ++ List.replicate k 0) s h = true := by
  simp only [validS, Bool.and_eq_true, decide_eq_true_eq, List.length_append, List.length_replicate, List.all_eq_true, List.mem_append, List.mem_replicate] at hv ⊢
  refine ⟨fun x hx => ?_, ⟨by omega, hv.2.1.2⟩, hv.2.2⟩
  rcases hx with hx | ⟨_, rfl⟩
  · exact hv.1 x hx
  · decide
/-- **The lots and the cost of the longer list.** -/
theorem zeros_size (need : List Int) (s h : Int) (k : Nat) : price (nf (need ++ List.replicate k 0)) s h (need ++ List.replicate k 0).length = price (nf need) s h need.length ∧
    ∀ d, nf (lotsL (need ++ List.replicate k 0) (bestS (need ++ List.replicate k 0) s h)) d = nf (lotsL need (bestS need s h)) d := by
  obtain ⟨z1, z2⟩ := zeros_end (n := nf need) (s := s) (h := h) (t := need.length) k fun d h1 _ => by
    unfold nf; rw [List.getD_eq_getElem?_getD, List.getElem?_eq_none h1]; rfl
  have hl : (need ++ List.replicate k 0).length = need.length + k := by simp
  refine ⟨by rw [nf_zeros, hl]; exact z1, fun d => ?_⟩
  rw [nf_lotsL, nf_lotsL, nf_zeros, hl]
  unfold bestS
  rw [nf_zeros, hl]
  exact z2 d
theorem valid_less {need : List Int} {s h : Int} (hv : validS need s h = true) {s' h' : Int} (h1 : 0 ≤ s' ∧ s' ≤ s) (h2 : 0 ≤ h' ∧ h' ≤ h) : validS need s' h' = true := by
  simp only [validS, inV, inS, Bool.and_eq_true, decide_eq_true_eq] at hv ⊢
  refine ⟨hv.1, ⟨hv.2.1.1, ?_⟩, ?_⟩ <;> omega
theorem nf_set {need : List Int} {k : Nat} {x : Int} (hk : k < need.length) (d : Nat) : nf (need.set k x) d = if d = k then x else nf need d := by
  unfold nf
  rw [List.getD_eq_getElem?_getD, List.getD_eq_getElem?_getD, List.getElem?_set]
  by_cases hd : k = d
  · subst hd; simp [hk]
  · rw [if_neg hd, if_neg (Ne.symm hd)]
theorem valid_set {need : List Int} {s h : Int} (hv : validS need s h = true) {k : Nat} {x : Int} (hx : 0 ≤ x ∧ x ≤ 1048576) : validS (need.set k x) s h = true := by
  simp only [validS, Bool.and_eq_true, decide_eq_true_eq, List.length_set, List.all_eq_true] at hv ⊢
  refine ⟨fun y hy => ?_, hv.2⟩
  rcases List.mem_or_eq_of_mem_set hy with h1 | rfl
  · exact hv.1 y h1
  · simp [inV, inS, hx]
end Go.Proofs.Ytccjejfdhhnhjaa
