/-
  Sizing: what costs nothing. If holding is free, all is made on the first day; if setting up is, each day makes its own.
-/
import Derived.Test.YtccjejfdhhnhjaaSzM
set_option linter.unusedSimpArgs false
set_option linter.unusedVariables false
namespace Go.Proofs.Ytccjejfdhhnhjaa

section
variable {n : Nat → Int} {c : Int}
theorem holdC_free (a k : Nat) : holdC n 0 a k = 0 := sumTo_zero fun i _ => by simp
theorem lotC_free (a t : Nat) : lotC n c 0 a t = if some_ n a (t - a) then c else 0 := by unfold lotC; rw [holdC_free]; simp
theorem some_of {a k d : Nat} (h1 : a ≤ d) (h2 : d < a + k) (h3 : 0 < n d) : some_ n a k = true :=
  (some_iff n a k).2 ⟨d - a, by omega, by rw [show a + (d - a) = d by omega]; exact h3⟩
theorem price_free (hn : ∀ d, 0 ≤ n d) (hc : 0 ≤ c) : ∀ t, some_ n 0 t = true → price n c 0 t = c := by
  intro t
  induction t using Nat.strongRecOn with
  | _ t ih =>
    intro hs
    obtain ⟨d, hd, hp⟩ := (some_iff n 0 t).1 hs
    rw [Nat.zero_add] at hp
    have ht : 0 < t := by omega
    have h1 := price_le n c 0 ht
    rw [price_zero, lotC_free, Nat.sub_zero, if_pos hs] at h1
    obtain ⟨a, ha, h2⟩ := price_met n c 0 ht
    rw [lotC_free] at h2
    have h3 := price_nonneg hn hc (Int.le_refl 0) a
    cases hsa : some_ n a (t - a) with
    | true => rw [hsa, if_pos rfl] at h2; omega
    | false =>
      rw [hsa] at h2
      have h4 := none_need hn hsa
      have hda : d < a := by
        rcases Nat.lt_or_ge d a with h | h
        · exact h
        · have := h4 (d - a) (by omega); rw [show a + (d - a) = d by omega] at this; omega
      have h5 := ih a ha (some_of (Nat.zero_le d) (by omega) hp)
      simp at h2; omega
theorem pick_free (hn : ∀ d, 0 ≤ n d) (hc : 0 < c) {t f : Nat} (hf : f < t) (h0 : ∀ d, d < f → n d = 0) (h1 : 0 < n f) : pick n c 0 t = some f := by
  have ht := price_free hn (Int.le_of_lt hc) t (some_of (Nat.zero_le f) (by omega) h1)
  refine findB_of hf ?_ fun d hd1 hd2 => ?_
  · unfold pickP
    have hs := some_of (n := n) (a := f) (k := t - f) (Nat.le_refl f) (by omega) h1
    rw [lotC_free, hs, price_none hn (by omega) (Int.le_refl 0) h0, ht]
    simp
  · unfold pickP
    rw [lotC_free, price_free hn (by omega) d (some_of (Nat.zero_le f) (by omega) h1), ht]
    cases some_ n d (t - d)
    · rfl
    · simp; omega
theorem pick_none_of {s h : Int} {t : Nat} (h0 : ∀ d, d < t → n d = 0) : pick n s h t = none := findB_no fun d hd => by
  have : some_ n d (t - d) = false := by
    rw [Bool.eq_false_iff]; intro h; obtain ⟨i, h1, h2⟩ := (some_iff _ _ _).1 h; rw [h0 _ (by omega)] at h2; omega
  unfold pickP; rw [this]; rfl
theorem lots_free (hn : ∀ d, 0 ≤ n d) (hc : 0 < c) {t f : Nat} (hf : f < t) (h0 : ∀ d, d < f → n d = 0) (h1 : 0 < n f) (x : Nat) (hx : x < t) :
    lotsTo n (best n c 0 t) t x = if x = f then sumTo n t else 0 := by
  obtain ⟨q1, q2, q3⟩ := chain_step (pick_free hn hc hf h0 h1)
  rcases Nat.lt_trichotomy x f with h | h | h
  · rw [q1 x h, chain_end (pick_none_of h0), if_neg (by omega)]
  · subst h
    rw [q2, if_pos rfl]
    have e := sumTo_split n x (t - x)
    rw [show x + (t - x) = t by omega, sumTo_zero h0] at e
    omega
  · rw [q3 x h hx, if_neg (by omega)]

/-- The first day with a requirement. -/
def fstTo (n : Nat → Int) : Nat → Int
  | 0 => -1
  | t + 1 => if 0 < n t ∧ fstTo n t < 0 then t else fstTo n t
theorem fstTo_is (n : Nat → Int) (t : Nat) : (fstTo n t = -1 ∧ ∀ d, d < t → ¬ 0 < n d) ∨ ∃ f : Nat, f < t ∧ fstTo n t = f ∧ 0 < n f ∧ ∀ d, d < f → ¬ 0 < n d := by
  induction t with
  | zero => exact .inl ⟨rfl, fun d hd => by omega⟩
  | succ t ih =>
    rcases ih with ⟨e, h⟩ | ⟨f, hf, e, h1, h2⟩
    · by_cases ht : 0 < n t
      · exact .inr ⟨t, by omega, by simp [fstTo, ht, e], ht, h⟩
      · refine .inl ⟨by simp [fstTo, ht, e], fun d hd => ?_⟩
        rcases Nat.lt_or_ge d t with h3 | h3
        · exact h d h3
        · rw [show d = t by omega]; exact ht
    · exact .inr ⟨f, by omega, by rw [fstTo, if_neg (by omega)]; exact e, h1, h2⟩
/-- **Holding is free.** -/
theorem free_hold (hn : ∀ d, 0 ≤ n d) (hc : 0 < c) (t : Nat) : (∀ x, x < t → lotsTo n (best n c 0 t) t x = if (x : Int) = fstTo n t then sumTo n t else 0) ∧
    (0 ≤ fstTo n t → price n c 0 t = c) ∧ (fstTo n t < 0 → price n c 0 t = 0) := by
  rcases fstTo_is n t with ⟨e, h⟩ | ⟨f, hf, e, h1, h2⟩
  · have h0 : ∀ d, d < t → n d = 0 := fun d hd => by have := h d hd; have := hn d; omega
    refine ⟨fun x hx => ?_, fun h => by omega, fun _ => price_none hn (by omega) (Int.le_refl 0) h0⟩
    rw [chain_end (pick_none_of h0), if_neg (by omega)]
  · have h0 : ∀ d, d < f → n d = 0 := fun d hd => by have := h2 d hd; have := hn d; omega
    refine ⟨fun x hx => ?_, fun _ => price_free hn (by omega) t (some_of (Nat.zero_le f) (by omega) h1), fun h => by omega⟩
    rw [lots_free hn hc hf h0 h1 x hx, e]
    by_cases hxf : x = f
    · subst hxf; simp
    · rw [if_neg hxf, if_neg (by omega)]
/-- **Setting up is free.** -/
theorem price_still (hn : ∀ d, 0 ≤ n d) (hc : 0 ≤ c) : ∀ t, price n 0 c t = 0 := by
  intro t
  induction t with
  | zero => rfl
  | succ t ih =>
    have h1 := price_le n 0 c (show t < t + 1 by omega)
    have h2 := price_nonneg hn (Int.le_refl 0) hc (t + 1)
    have h3 : lotC n 0 c t (t + 1) = 0 := by
      unfold lotC
      rw [show t + 1 - t = 1 by omega]
      simp [holdC, sumTo]
    omega
theorem lots_still (hn : ∀ d, 0 ≤ n d) (hc : 0 < c) : ∀ t x, x < t → lotsTo n (best n 0 c t) t x = n x := by
  intro t
  induction t using Nat.strongRecOn with
  | _ t ih =>
    intro x hx
    cases hp : pick n 0 c t with
    | none => rw [chain_end hp, pick_none hn hp x hx]
    | some d =>
      obtain ⟨hd, h1, _⟩ := findB_some hp
      unfold pickP at h1
      rw [price_still hn (by omega), price_still hn (by omega)] at h1
      simp only [Bool.and_eq_true, decide_eq_true_eq] at h1
      have h2 : holdC n c d (t - d) = 0 := by
        have := h1.2; unfold lotC at this; rw [if_pos h1.1] at this; omega
      have h3 : ∀ i, 0 < i → i < t - d → n (d + i) = 0 := fun i hi hi2 => by
        have h4 := sumTo_single (f := fun i => c * (i : Int) * n (d + i)) (fun i => Int.mul_nonneg (Int.mul_nonneg (by omega) (by omega)) (hn _)) hi2
        have h5 : sumTo (fun i => c * (i : Int) * n (d + i)) (t - d) = 0 := h2
        rw [h5] at h4
        have h6 : 0 ≤ c * (i : Int) * n (d + i) := Int.mul_nonneg (Int.mul_nonneg (by omega) (by omega)) (hn _)
        have h7 : c * (i : Int) * n (d + i) = 0 := Int.le_antisymm h4 h6
        rcases Int.mul_eq_zero.1 h7 with h8 | h8
        · rcases Int.mul_eq_zero.1 h8 with h9 | h9 <;> omega
        · exact h8
      obtain ⟨q1, q2, q3⟩ := chain_step hp
      rcases Nat.lt_trichotomy x d with h | h | h
      · rw [q1 x h]; exact ih d hd x h
      · subst h
        rw [q2]
        obtain ⟨k, hk⟩ : ∃ k, t - x = k + 1 := ⟨t - x - 1, by omega⟩
        rw [hk, sumTo_shift, sumTo_zero fun i hi => h3 (i + 1) (by omega) (by omega)]
        simp
      · rw [q3 x h hx]
        have := h3 (x - d) (by omega) (by omega)
        rw [show d + (x - d) = x by omega] at this
        exact this.symm
end
theorem lotsL_get {need : List Int} {S : Nat → Bool} {k : Nat} (h : k < (lotsL need S).length) : (lotsL need S)[k] = lotsTo (nf need) S need.length k := by
  simp [lotsL]
theorem lotsL_still {need : List Int} {c : Int} (hn : ∀ d, 0 ≤ nf need d) (hc : 0 < c) : lotsL need (bestS need 0 c) = need := by
  refine List.ext_getElem (lotsL_length _ _) fun k h1 h2 => ?_
  rw [lotsL_get h1, ← nf_get h2]
  exact lots_still hn hc _ _ h2
end Go.Proofs.Ytccjejfdhhnhjaa
