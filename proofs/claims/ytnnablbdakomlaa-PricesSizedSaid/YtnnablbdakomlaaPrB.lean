/-
  Sizing, part B: sets of days, and which of them is best: plain Lean, no program in sight.
-/
import Derived.Test.YtnnablbdakomlaaPrA
set_option linter.unusedSimpArgs false
set_option linter.unusedVariables false
namespace Go.Proofs.Ytnnablbdakomlaa

/-- The latest day below t in a set. -/
def lastTo (S : Nat → Bool) : Nat → Option Nat
  | 0 => none
  | t + 1 => if S t then some t else lastTo S t
/-- The lots of a set, of the first t days. -/
def lotsTo (need : Nat → Int) (S : Nat → Bool) : Nat → Nat → Int
  | 0, _ => 0
  | t + 1, d => lotsTo need S t d + if lastTo S (t + 1) = some d then need t else 0

theorem lastTo_some {S : Nat → Bool} {t s : Nat} (h : lastTo S t = some s) : s < t ∧ S s = true ∧ ∀ d, s < d → d < t → S d = false := by
  induction t with
  | zero => cases h
  | succ t ih =>
    simp only [lastTo] at h
    split at h
    · rename_i hs; cases h; exact ⟨by omega, hs, fun d h1 h2 => by omega⟩
    · rename_i hs
      obtain ⟨h1, h2, h3⟩ := ih h
      refine ⟨by omega, h2, fun d q1 q2 => ?_⟩
      rcases Nat.lt_or_ge d t with h4 | h4
      · exact h3 d q1 h4
      · rw [show d = t by omega]; simpa using hs
theorem lastTo_none {S : Nat → Bool} {t : Nat} (h : lastTo S t = none) : ∀ d, d < t → S d = false := by
  induction t with
  | zero => intro d hd; omega
  | succ t ih =>
    simp only [lastTo] at h
    split at h
    · cases h
    · rename_i hs
      intro d hd
      rcases Nat.lt_or_ge d t with h4 | h4
      · exact ih h d h4
      · rw [show d = t by omega]; simpa using hs
theorem lastTo_congr {S R : Nat → Bool} {t : Nat} (h : ∀ d, d < t → S d = R d) : lastTo S t = lastTo R t := by
  induction t with
  | zero => rfl
  | succ t ih => simp only [lastTo]; rw [h t (by omega), ih fun d hd => h d (by omega)]
theorem lastTo_of {S : Nat → Bool} {t s : Nat} (h1 : s < t) (h2 : S s = true) (h3 : ∀ d, s < d → d < t → S d = false) : lastTo S t = some s := by
  cases h : lastTo S t with
  | none => rw [lastTo_none h s h1] at h2; cases h2
  | some r =>
    obtain ⟨q1, q2, q3⟩ := lastTo_some h
    rcases Nat.lt_trichotomy r s with h4 | h4 | h4
    · rw [q3 s h4 h1] at h2; cases h2
    · rw [h4]
    · rw [h3 r h4 q1] at q2; cases q2

variable {need : Nat → Int} {setup hold : Int}
theorem lotsTo_congr {S R : Nat → Bool} {t : Nat} (h : ∀ d, d < t → S d = R d) (d : Nat) : lotsTo need S t d = lotsTo need R t d := by
  induction t with
  | zero => rfl
  | succ t ih => simp only [lotsTo]; rw [ih fun d hd => h d (by omega), lastTo_congr h]
theorem lotsTo_out {S : Nat → Bool} {t d : Nat} (h : t ≤ d ∨ S d = false) : lotsTo need S t d = 0 := by
  induction t with
  | zero => rfl
  | succ t ih =>
    simp only [lotsTo]
    rw [ih (h.imp (fun h => by omega) id), if_neg]; · rfl
    intro e
    obtain ⟨q1, q2, _⟩ := lastTo_some e
    rcases h with h | h
    · omega
    · rw [h] at q2; cases q2
/-- From the latest day on. -/
theorem lotsTo_last {S : Nat → Bool} {s : Nat} (hs : S s = true) : ∀ k, (∀ d, s < d → d < s + k → S d = false) → ∀ d, lotsTo need S (s + k) d = if d = s then sumTo (fun i => need (s + i)) k else lotsTo need S s d := by
  intro k
  induction k with
  | zero =>
    intro _ d
    split
    · rename_i h; subst h; exact lotsTo_out (.inl (Nat.le_refl _))
    · rfl
  | succ k ih =>
    intro h d
    rw [← Nat.add_assoc]
    simp only [lotsTo]
    rw [lastTo_of (s := s) (by omega) hs (fun d q1 q2 => h d q1 (by omega)), ih (fun d q1 q2 => h d q1 (by omega))]
    by_cases e : d = s
    · subst e; simp [sumTo]
    · rw [if_neg e, if_neg e, if_neg (fun e' => e (by cases e'; rfl))]; simp

/-- Each day with a requirement has a day of the set before it, and each day of the set makes something. -/
def Pos (need : Nat → Int) (S : Nat → Bool) (n : Nat) : Prop := (∀ t, t < n → need t ≠ 0 → lastTo S (t + 1) ≠ none) ∧ ∀ t, t < n → S t = true → lotsTo need S n t ≠ 0

theorem Pos.noNeed {S : Nat → Bool} {n : Nat} (h : Pos need S n) (hl : lastTo S n = none) : ∀ d, d < n → need d = 0 := fun d hd => by
  by_cases e : need d = 0
  · exact e
  · exfalso
    refine h.1 d hd e ?_
    have h0 := lastTo_none hl
    cases h1 : lastTo S (d + 1) with
    | none => rfl
    | some s => obtain ⟨q1, q2, _⟩ := lastTo_some h1; rw [h0 s (by omega)] at q2; cases q2
/-- A possible set, but for its latest day, is possible. -/
theorem Pos.rest {S : Nat → Bool} {n s : Nat} (h : Pos need S n) (hl : lastTo S n = some s) : Pos need S s := by
  obtain ⟨q1, q2, q3⟩ := lastTo_some hl
  obtain ⟨k, rfl⟩ : ∃ k, n = s + k := ⟨n - s, by omega⟩
  refine ⟨fun t ht => h.1 t (by omega), fun t ht hs => ?_⟩
  have := h.2 t (by omega) hs
  rwa [lotsTo_last q2 k q3, if_neg (by omega)] at this
theorem Pos.anyNeed {S : Nat → Bool} {n s : Nat} (hn : ∀ d, 0 ≤ need d) (h : Pos need S n) (hl : lastTo S n = some s) : some_ need s (n - s) = true := by
  obtain ⟨q1, q2, q3⟩ := lastTo_some hl
  obtain ⟨k, rfl⟩ : ∃ k, n = s + k := ⟨n - s, by omega⟩
  have h1 := h.2 s q1 q2
  rw [lotsTo_last q2 k q3, if_pos rfl] at h1
  rw [show s + k - s = k by omega]
  cases e : some_ need s k with
  | true => rfl
  | false => exact absurd (sumTo_zero fun i hi => none_need hn e i hi) h1
theorem Pos.mk {S : Nat → Bool} {n s : Nat} (hn : ∀ d, 0 ≤ need d) (hl : lastTo S n = some s) (h : Pos need S s) (hs : some_ need s (n - s) = true) : Pos need S n := by
  obtain ⟨q1, q2, q3⟩ := lastTo_some hl
  obtain ⟨k, rfl⟩ : ∃ k, n = s + k := ⟨n - s, by omega⟩
  rw [show s + k - s = k by omega] at hs
  refine ⟨fun t ht hne => ?_, fun t ht hS => ?_⟩
  · rcases Nat.lt_or_ge t s with h1 | h1
    · exact h.1 t h1 hne
    · intro e
      rw [lastTo_of (s := s) (by omega) q2 fun d r1 r2 => q3 d r1 (by omega)] at e; cases e
  · rw [lotsTo_last q2 k q3]
    split
    · obtain ⟨i, h1, h2⟩ := (some_iff need s k).1 hs
      have := sumTo_single (f := fun i => need (s + i)) (fun d => hn _) h1
      omega
    · rename_i hne
      rcases Nat.lt_or_ge t s with h1 | h1
      · exact h.2 t h1 hS
      · rw [q3 t (by omega) ht] at hS; cases hS

theorem heldF_congr {l m : Nat → Int} {d : Nat} (h : ∀ i, i ≤ d → l i = m i) : heldF need l d = heldF need m d := sumTo_congr fun i hi => by rw [h i (by omega)]
theorem costF_congr {l m : Nat → Int} {t : Nat} (h : ∀ i, i < t → l i = m i) : costF need l setup hold t = costF need m setup hold t :=
  sumTo_congr fun d hd => by rw [heldF_congr fun i hi => h i (by omega), h d hd]
theorem heldF_add (lots : Nat → Int) (s k : Nat) : heldF need lots (s + k) = sumTo (fun i => lots i - need i) s + sumTo (fun i => lots (s + i) - need (s + i)) (k + 1) := by
  unfold heldF; rw [Nat.add_assoc, sumTo_split]

/-- The lots of a possible set cover, and nothing is left. -/
theorem Pos.held {S : Nat → Bool} (hn : ∀ d, 0 ≤ need d) : ∀ n, Pos need S n → (∀ d, d < n → 0 ≤ heldF need (lotsTo need S n) d) ∧ sumTo (fun i => lotsTo need S n i - need i) n = 0 := by
  intro n
  induction n using Nat.strongRecOn with
  | _ n ih =>
    intro h
    cases hl : lastTo S n with
    | none =>
      have h0 := h.noNeed hl
      have h1 := lastTo_none hl
      have h2 : ∀ i, i < n → lotsTo need S n i - need i = 0 := fun i hi => by rw [h0 i hi, lotsTo_out (.inr (h1 i hi))]; rfl
      refine ⟨fun d hd => ?_, sumTo_zero h2⟩
      rw [show heldF need (lotsTo need S n) d = 0 from sumTo_zero fun i hi => h2 i (by omega)]
      exact Int.le_refl _
    | some s =>
      obtain ⟨q1, q2, q3⟩ := lastTo_some hl
      obtain ⟨i1, i2⟩ := ih s q1 (h.rest hl)
      obtain ⟨k, rfl⟩ : ∃ k, n = s + (k + 1) := ⟨n - s - 1, by omega⟩
      have e : ∀ d, lotsTo need S (s + (k + 1)) d = if d = s then sumTo (fun i => need (s + i)) (k + 1) else lotsTo need S s d := lotsTo_last q2 (k + 1) q3
      have e2 : sumTo (fun i => lotsTo need S (s + (k + 1)) i - need i) s = 0 := by
        rw [← i2]
        exact sumTo_congr fun i hi => by rw [e, if_neg (by omega)]
      have e3 : ∀ j, j ≤ k → sumTo (fun i => lotsTo need S (s + (k + 1)) (s + i) - need (s + i)) (j + 1) = sumTo (fun i => need (s + i)) (k + 1) - sumTo (fun i => need (s + i)) (j + 1) := by
        intro j
        induction j with
        | zero =>
          intro _
          have e4 : lotsTo need S (s + (k + 1)) (s + 0) = sumTo (fun i => need (s + i)) (k + 1) := by rw [e, if_pos (Nat.add_zero s)]
          show 0 + (lotsTo need S (s + (k + 1)) (s + 0) - need (s + 0)) = _ - (0 + need (s + 0))
          rw [e4]; omega
        | succ j ihj =>
          intro hj
          have := ihj (by omega)
          have e4 : lotsTo need S (s + (k + 1)) (s + (j + 1)) = 0 := lotsTo_out (.inr (q3 _ (by omega) (by omega)))
          have e5 : sumTo (fun i => need (s + i)) (j + 1 + 1) = sumTo (fun i => need (s + i)) (j + 1) + need (s + (j + 1)) := rfl
          rw [sumTo, this, e4, e5]; omega
      refine ⟨fun d hd => ?_, ?_⟩
      · rcases Nat.lt_or_ge d s with h1 | h1
        · rw [heldF_congr (m := lotsTo need S s) fun i hi => by rw [e, if_neg (by omega)]]
          exact i1 d h1
        · obtain ⟨j, rfl⟩ : ∃ j, d = s + j := ⟨d - s, by omega⟩
          rw [heldF_add, e2, e3 j (by omega)]
          have : sumTo (fun i => need (s + i)) (j + 1) ≤ sumTo (fun i => need (s + i)) (k + 1) := by
            obtain ⟨m, hm⟩ : ∃ m, k + 1 = j + 1 + m := ⟨k - j, by omega⟩
            rw [hm, sumTo_split _ (j + 1) m]
            have := sumTo_nonneg (f := fun i => need (s + (j + 1 + i))) (k := m) fun i _ => hn _
            omega
          omega
      · rw [sumTo_split, e2, e3 k (Nat.le_refl _)]; omega

theorem Pos.cost {S : Nat → Bool} {n s : Nat} (hn : ∀ d, 0 ≤ need d) (h : Pos need S n) (hl : lastTo S n = some s) :
    costF need (lotsTo need S n) setup hold n = costF need (lotsTo need S s) setup hold s + lotC need setup hold s n := by
  obtain ⟨q1, q2, q3⟩ := lastTo_some hl
  have h1 := (h.held hn n).2
  have hne := h.2 s q1 q2
  rw [cost_last q1 hne fun d r1 r2 => lotsTo_out (.inr (q3 d r1 r2))]
  have h2 : heldF need (lotsTo need S n) (n - 1) = 0 := by unfold heldF; rw [show n - 1 + 1 = n by omega]; exact h1
  rw [h2]
  obtain ⟨k, rfl⟩ : ∃ k, n = s + k := ⟨n - s, by omega⟩
  rw [costF_congr (m := lotsTo need S s) fun i hi => by rw [lotsTo_last q2 k q3, if_neg (by omega)]]
  unfold lotC
  rw [if_pos (h.anyNeed hn hl)]
  simp
  omega

theorem Pos.cost_none {S : Nat → Bool} {n : Nat} (hn : ∀ d, 0 ≤ need d) (h : Pos need S n) (hl : lastTo S n = none) : costF need (lotsTo need S n) setup hold n = 0 := by
  have h0 := h.noNeed hl
  have h1 := lastTo_none hl
  refine sumTo_zero fun d hd => ?_
  rw [show heldF need (lotsTo need S n) d = 0 from sumTo_zero fun i hi => by rw [h0 i (by omega), lotsTo_out (.inr (h1 i (by omega)))]; rfl, lotsTo_out (.inr (h1 d hd))]
  simp
theorem Pos.ge {S : Nat → Bool} (hn : ∀ d, 0 ≤ need d) (hs : 0 ≤ setup) (hh : 0 ≤ hold) {n : Nat} (h : Pos need S n) : price need setup hold n ≤ costF need (lotsTo need S n) setup hold n :=
  cost_ge hn hs hh n (h.held hn n).1

/-! ### The best set -/
def findB (p : Nat → Bool) : Nat → Option Nat
  | 0 => none
  | k + 1 => if p k then some k else findB p k
theorem findB_some {p : Nat → Bool} {k s : Nat} (h : findB p k = some s) : s < k ∧ p s = true ∧ ∀ d, s < d → d < k → p d = false := by
  induction k with
  | zero => cases h
  | succ k ih =>
    simp only [findB] at h
    split at h
    · rename_i hs; cases h; exact ⟨by omega, hs, fun d h1 h2 => by omega⟩
    · rename_i hs
      obtain ⟨h1, h2, h3⟩ := ih h
      refine ⟨by omega, h2, fun d q1 q2 => ?_⟩
      rcases Nat.lt_or_ge d k with h4 | h4
      · exact h3 d q1 h4
      · rw [show d = k by omega]; simpa using hs
theorem findB_none {p : Nat → Bool} {k : Nat} (h : findB p k = none) : ∀ d, d < k → p d = false := by
  induction k with
  | zero => intro d hd; omega
  | succ k ih =>
    simp only [findB] at h
    split at h
    · cases h
    · rename_i hs
      intro d hd
      rcases Nat.lt_or_ge d k with h4 | h4
      · exact ih h d h4
      · rw [show d = k by omega]; simpa using hs
def pickP (need : Nat → Int) (setup hold : Int) (t s : Nat) : Bool := some_ need s (t - s) && decide (price need setup hold s + lotC need setup hold s t = price need setup hold t)
/-- The day of the latest lot. -/
def pick (need : Nat → Int) (setup hold : Int) (t : Nat) : Option Nat := findB (pickP need setup hold t) t
theorem pick_lt {t s : Nat} (h : pick need setup hold t = some s) : s < t := (findB_some h).1
/-- The days of lots. -/
def best (need : Nat → Int) (setup hold : Int) (t : Nat) (d : Nat) : Bool :=
  match h : pick need setup hold t with
  | none => false
  | some s => d == s || best need setup hold s d
termination_by t
decreasing_by exact pick_lt h
theorem best_none {t : Nat} (h : pick need setup hold t = none) (d : Nat) : best need setup hold t d = false := by
  rw [best]; split
  · rfl
  · rename_i e; rw [h] at e; cases e
theorem best_some {t s : Nat} (h : pick need setup hold t = some s) (d : Nat) : best need setup hold t d = (d == s || best need setup hold s d) := by
  rw [best]; split
  · rename_i e; rw [h] at e; cases e
  · rename_i e; rw [h] at e; cases e; rfl
theorem best_lt : ∀ (t d : Nat), best need setup hold t d = true → d < t := by
  intro t
  induction t using Nat.strongRecOn with
  | _ t ih =>
    intro d h
    cases hp : pick need setup hold t with
    | none => rw [best_none hp] at h; cases h
    | some s =>
      have := pick_lt hp
      rw [best_some hp] at h
      simp only [Bool.or_eq_true, beq_iff_eq] at h
      rcases h with rfl | h
      · exact this
      · have := ih s this d h; omega
theorem best_last (t : Nat) : lastTo (best need setup hold t) t = pick need setup hold t := by
  cases hp : pick need setup hold t with
  | none =>
    cases h : lastTo (best need setup hold t) t with
    | none => rfl
    | some s => obtain ⟨_, q, _⟩ := lastTo_some h; rw [best_none hp] at q; cases q
  | some s =>
    have h1 := pick_lt hp
    refine lastTo_of h1 (by rw [best_some hp]; simp) fun d q1 q2 => ?_
    rw [best_some hp]
    cases h : best need setup hold s d with
    | true => have := best_lt s d h; omega
    | false => simp; omega

/-- If anything is required, there is a latest lot. -/
theorem pick_ex (hn : ∀ d, 0 ≤ need d) : ∀ t, some_ need 0 t = true → ∃ s, s < t ∧ some_ need s (t - s) = true ∧ price need setup hold s + lotC need setup hold s t = price need setup hold t := by
  intro t
  induction t using Nat.strongRecOn with
  | _ t ih =>
    intro h
    have ht : 0 < t := by
      rcases Nat.eq_zero_or_pos t with rfl | h1
      · rw [some_zero] at h; cases h
      · exact h1
    obtain ⟨s, h1, h2⟩ := price_met need setup hold ht
    cases hs : some_ need s (t - s) with
    | true => exact ⟨s, h1, hs, h2.symm⟩
    | false =>
      have hz := none_need hn hs
      have h3 : lotC need setup hold s t = 0 := by unfold lotC; rw [hs]; rfl
      have h4 : some_ need 0 s = true := by
        obtain ⟨i, q1, q2⟩ := (some_iff need 0 t).1 h
        refine (some_iff need 0 s).2 ⟨i, ?_, q2⟩
        rcases Nat.lt_or_ge i s with h5 | h5
        · exact h5
        · have := hz (i - s) (by omega)
          rw [show s + (i - s) = 0 + i by omega] at this; omega
      obtain ⟨r, q1, q2, q3⟩ := ih s h1 h4
      have hsome : some_ need r (t - r) = true := by
        obtain ⟨i, r1, r2⟩ := (some_iff need r (s - r)).1 q2
        exact (some_iff need r (t - r)).2 ⟨i, by omega, r2⟩
      refine ⟨r, by omega, hsome, ?_⟩
      have : lotC need setup hold r t = lotC need setup hold r s := by
        unfold lotC
        rw [hsome, q2]
        simp only [if_true]
        congr 1
        unfold holdC
        obtain ⟨m, hm⟩ : ∃ m, t - r = (s - r) + m := ⟨t - s, by omega⟩
        rw [hm, sumTo_split, sumTo_zero (f := fun i => hold * ((s - r + i : Nat) : Int) * need (r + (s - r + i)))]
        · omega
        · intro i hi
          have := hz i (by omega)
          rw [show r + (s - r + i) = s + i by omega, this]; simp
      rw [this, q3, h2, h3]; omega
theorem pick_none (hn : ∀ d, 0 ≤ need d) {t : Nat} (h : pick need setup hold t = none) : ∀ d, d < t → need d = 0 := by
  have h0 := findB_none h
  cases e : some_ need 0 t with
  | true =>
    obtain ⟨s, h1, h2, h3⟩ := pick_ex (setup := setup) (hold := hold) hn t e
    have := h0 s h1
    simp [pickP, h2, h3] at this
  | false => intro d hd; have := none_need hn e d hd; simpa using this

theorem best_pos (hn : ∀ d, 0 ≤ need d) : ∀ t, Pos need (best need setup hold t) t := by
  intro t
  induction t using Nat.strongRecOn with
  | _ t ih =>
    have hl := best_last (need := need) (setup := setup) (hold := hold) t
    cases hp : pick need setup hold t with
    | none =>
      have hz := pick_none hn hp
      exact ⟨fun d hd h => absurd (hz d hd) h, fun d hd h => by rw [best_none hp] at h; cases h⟩
    | some s =>
      rw [hp] at hl
      obtain ⟨h1, h2, _⟩ := findB_some hp
      simp only [pickP, Bool.and_eq_true, decide_eq_true_eq] at h2
      refine Pos.mk hn hl ?_ h2.1
      have := ih s h1
      have e : ∀ d, d < s → best need setup hold t d = best need setup hold s d := fun d hd => by rw [best_some hp]; simp; omega
      refine ⟨fun d hd hne => ?_, fun d hd hS => ?_⟩
      · rw [lastTo_congr fun i hi => e i (by omega)]; exact this.1 d hd hne
      · rw [lotsTo_congr e]; exact this.2 d hd (by rw [← e d hd]; exact hS)
theorem best_below {t s : Nat} (hp : pick need setup hold t = some s) (d : Nat) (hd : d < s) : best need setup hold t d = best need setup hold s d := by rw [best_some hp]; simp; omega
theorem best_cost (hn : ∀ d, 0 ≤ need d) (hs : 0 ≤ setup) (hh : 0 ≤ hold) : ∀ t, costF need (lotsTo need (best need setup hold t) t) setup hold t = price need setup hold t := by
  intro t
  induction t using Nat.strongRecOn with
  | _ t ih =>
    have hl := best_last (need := need) (setup := setup) (hold := hold) t
    cases hp : pick need setup hold t with
    | none =>
      rw [hp] at hl
      rw [(best_pos hn t).cost_none hn hl, price_none hn hs hh (pick_none hn hp)]
    | some s =>
      rw [hp] at hl
      obtain ⟨h1, h2, _⟩ := findB_some hp
      simp only [pickP, Bool.and_eq_true, decide_eq_true_eq] at h2
      rw [(best_pos hn t).cost hn hl, ← h2.2]
      congr 1
      rw [← ih s h1]
      exact costF_congr fun i hi => lotsTo_congr (best_below hp) i
/-- **Of the sets that cost as little, the best one has the latest days.** -/
theorem best_tie (hn : ∀ d, 0 ≤ need d) (hs : 0 ≤ setup) (hh : 0 ≤ hold) {S : Nat → Bool} : ∀ t, Pos need S t → costF need (lotsTo need S t) setup hold t = price need setup hold t →
    (∀ d, d < t → S d = best need setup hold t d) ∨ ∃ d, d < t ∧ S d = false ∧ best need setup hold t d = true ∧ ∀ e, d < e → e < t → S e = best need setup hold t e := by
  intro t
  induction t using Nat.strongRecOn with
  | _ t ih =>
    intro h hc
    cases hp : pick need setup hold t with
    | none =>
      have hz := pick_none hn hp
      left; intro d hd
      rw [best_none hp]
      cases e : S d with
      | false => rfl
      | true =>
        exfalso
        refine h.2 d hd e ?_
        clear h hc ih hp
        suffices ∀ k, k ≤ t → lotsTo need S k d = 0 from this t (Nat.le_refl _)
        intro k
        induction k with
        | zero => intro _; rfl
        | succ k ihk => intro hk; simp only [lotsTo]; rw [ihk (by omega), hz k (by omega)]; simp
    | some r =>
      obtain ⟨r1, r2, r3⟩ := findB_some hp
      simp only [pickP, Bool.and_eq_true, decide_eq_true_eq] at r2
      have hlast := best_last (need := need) (setup := setup) (hold := hold) t
      rw [hp] at hlast
      obtain ⟨b1, b2, b3⟩ := lastTo_some hlast
      cases hl : lastTo S t with
      | none =>
        have := h.noNeed hl
        obtain ⟨i, q1, q2⟩ := (some_iff need r (t - r)).1 r2.1
        rw [this _ (by omega)] at q2; omega
      | some s =>
        obtain ⟨q1, q2, q3⟩ := lastTo_some hl
        have c1 := h.cost (setup := setup) (hold := hold) hn hl
        have c2 := (h.rest hl).ge hn hs hh
        have c3 := price_le need setup hold q1
        have hsome := h.anyNeed hn hl
        have hps : pickP need setup hold t s = true := by
          simp only [pickP, Bool.and_eq_true, decide_eq_true_eq]
          exact ⟨hsome, by omega⟩
        rcases Nat.lt_trichotomy s r with h4 | h4 | h4
        · exact .inr ⟨r, r1, q3 r h4 r1, b2, fun e e1 e2 => by rw [q3 e (by omega) e2, b3 e e1 e2]⟩
        · subst h4
          rcases ih s q1 (h.rest hl) (by omega) with k | ⟨d, d1, d2, d3, d4⟩
          · refine .inl fun d hd => ?_
            rcases Nat.lt_trichotomy d s with h5 | h5 | h5
            · rw [k d h5, best_below hp d h5]
            · subst h5; rw [q2, b2]
            · rw [q3 d h5 hd, b3 d h5 hd]
          · refine .inr ⟨d, by omega, d2, by rw [best_below hp d d1]; exact d3, fun e e1 e2 => ?_⟩
            rcases Nat.lt_trichotomy e s with h5 | h5 | h5
            · rw [d4 e e1 h5, best_below hp e h5]
            · subst h5; rw [q2, b2]
            · rw [q3 e h5 e2, b3 e h5 e2]
        · rw [r3 s h4 q1] at hps; cases hps

theorem findB_of {p : Nat → Bool} {k s : Nat} (h1 : s < k) (h2 : p s = true) (h3 : ∀ d, s < d → d < k → p d = false) : findB p k = some s := by
  induction k with
  | zero => omega
  | succ k ih =>
    simp only [findB]
    rcases Nat.lt_or_ge s k with h | h
    · rw [h3 k h (by omega)]
      exact ih h fun d q1 q2 => h3 d q1 (by omega)
    · rw [show k = s by omega, h2]; rfl
theorem findB_no {p : Nat → Bool} {k : Nat} (h : ∀ d, d < k → p d = false) : findB p k = none := by
  cases e : findB p k with
  | none => rfl
  | some s => obtain ⟨h1, h2, _⟩ := findB_some e; rw [h s h1] at h2; cases h2
/-- The lots of the best set, step by step. -/
theorem chain_step {t d : Nat} (hp : pick need setup hold t = some d) : (∀ x, x < d → lotsTo need (best need setup hold t) t x = lotsTo need (best need setup hold d) d x) ∧
    lotsTo need (best need setup hold t) t d = sumTo (fun i => need (d + i)) (t - d) ∧ ∀ x, d < x → x < t → lotsTo need (best need setup hold t) t x = 0 := by
  have hl := best_last (need := need) (setup := setup) (hold := hold) t
  rw [hp] at hl
  obtain ⟨q1, q2, q3⟩ := lastTo_some hl
  obtain ⟨k, rfl⟩ : ∃ k, t = d + k := ⟨t - d, by omega⟩
  refine ⟨fun x hx => ?_, ?_, fun x h1 h2 => lotsTo_out (.inr (q3 x h1 h2))⟩
  · rw [lotsTo_last q2 k q3, if_neg (by omega)]
    exact lotsTo_congr (best_below hp) x
  · rw [lotsTo_last q2 k q3, if_pos rfl, show d + k - d = k by omega]
theorem chain_end {t : Nat} (hp : pick need setup hold t = none) (x : Nat) : lotsTo need (best need setup hold t) t x = 0 := lotsTo_out (.inr (best_none hp x))
end Go.Proofs.Ytnnablbdakomlaa
