/-
  Sizing, part A: lots of least cost: plain Lean, no program in sight.
-/
set_option linter.unusedSimpArgs false
set_option linter.unusedVariables false
namespace Go.Proofs.Ytnnablbdakomlaa

/-- A sum of the first k. -/
def sumTo (f : Nat → Int) : Nat → Int
  | 0 => 0
  | k + 1 => sumTo f k + f k
theorem sumTo_congr {f g : Nat → Int} {k : Nat} (h : ∀ i, i < k → f i = g i) : sumTo f k = sumTo g k := by
  induction k with
  | zero => rfl
  | succ k ih => simp only [sumTo]; rw [ih fun i hi => h i (by omega), h k (by omega)]
theorem sumTo_nonneg {f : Nat → Int} {k : Nat} (h : ∀ i, i < k → 0 ≤ f i) : 0 ≤ sumTo f k := by
  induction k with
  | zero => exact Int.le_refl _
  | succ k ih => simp only [sumTo]; have := ih fun i hi => h i (by omega); have := h k (by omega); omega
theorem sumTo_le {f g : Nat → Int} {k : Nat} (h : ∀ i, i < k → f i ≤ g i) : sumTo f k ≤ sumTo g k := by
  induction k with
  | zero => exact Int.le_refl _
  | succ k ih => simp only [sumTo]; have := ih fun i hi => h i (by omega); have := h k (by omega); omega
theorem sumTo_split (f : Nat → Int) (a k : Nat) : sumTo f (a + k) = sumTo f a + sumTo (fun i => f (a + i)) k := by
  induction k with
  | zero => simp [sumTo]
  | succ k ih => rw [← Nat.add_assoc]; simp only [sumTo]; rw [ih]; omega
theorem sumTo_zero {f : Nat → Int} {k : Nat} (h : ∀ i, i < k → f i = 0) : sumTo f k = 0 := by
  induction k with
  | zero => rfl
  | succ k ih => simp only [sumTo]; rw [ih fun i hi => h i (by omega), h k (by omega)]; rfl
theorem sumTo_mul (c : Int) (f : Nat → Int) (k : Nat) : sumTo (fun i => c * f i) k = c * sumTo f k := by
  induction k with
  | zero => simp [sumTo]
  | succ k ih => simp only [sumTo]; rw [ih, Int.mul_add]
theorem sumTo_bound {f : Nat → Int} {k : Nat} {b : Int} (h : ∀ i, i < k → f i ≤ b) : sumTo f k ≤ k * b := by
  induction k with
  | zero => simp [sumTo]
  | succ k ih =>
    simp only [sumTo]
    have h1 := ih fun i hi => h i (by omega)
    have h2 := h k (by omega)
    rw [show ((k + 1 : Nat) : Int) = (k : Int) + 1 by omega, Int.add_mul]; omega

section
variable (need : Nat → Int) (setup hold : Int)

/-- Is anything required in the k days from s on? -/
def some_ (s k : Nat) : Bool := (List.range k).any fun i => decide (0 < need (s + i))
theorem some_iff (s k : Nat) : some_ need s k = true ↔ ∃ i, i < k ∧ 0 < need (s + i) := by
  simp [some_]
theorem some_succ (s k : Nat) : some_ need s (k + 1) = (some_ need s k || decide (0 < need (s + k))) := by
  simp [some_, List.range_succ]
theorem some_zero (s : Nat) : some_ need s 0 = false := by simp [some_]
/-- What holding costs if the k days from s on are made on day s. -/
def holdC (s k : Nat) : Int := sumTo (fun i => hold * i * need (s + i)) k
/-- The cost of one lot on day s for the days below t. -/
def lotC (s t : Nat) : Int := if some_ need s (t - s) then holdC need hold s (t - s) + setup else 0

def minF (g : Nat → Int) : Nat → Int
  | 0 => g 0
  | k + 1 => min (minF g k) (g (k + 1))
theorem minF_le (g : Nat → Int) (k : Nat) : ∀ i, i ≤ k → minF g k ≤ g i := by
  induction k with
  | zero => intro i hi; rw [show i = 0 by omega]; exact Int.le_refl _
  | succ k ih =>
    intro i hi
    simp only [minF]
    rcases Nat.lt_or_ge k i with h | h
    · rw [show i = k + 1 by omega]; omega
    · have := ih i h; omega
theorem minF_met (g : Nat → Int) (k : Nat) : ∃ i, i ≤ k ∧ minF g k = g i := by
  induction k with
  | zero => exact ⟨0, Nat.le_refl _, rfl⟩
  | succ k ih =>
    obtain ⟨i, h1, h2⟩ := ih
    simp only [minF]
    rcases Int.le_total (minF g k) (g (k + 1)) with h | h
    · exact ⟨i, by omega, by omega⟩
    · exact ⟨k + 1, Nat.le_refl _, by omega⟩
theorem minF_congr {g h : Nat → Int} {k : Nat} (e : ∀ i, i ≤ k → g i = h i) : minF g k = minF h k := by
  induction k with
  | zero => exact e 0 (Nat.le_refl _)
  | succ k ih => simp only [minF]; rw [ih fun i hi => e i (by omega), e (k + 1) (Nat.le_refl _)]

/-- The prices up to day t. -/
def prL : Nat → List Int
  | 0 => [0]
  | t + 1 => prL t ++ [minF (fun s => (prL t).getD s 0 + lotC need setup hold s (t + 1)) t]
def price (t : Nat) : Int := (prL need setup hold t).getD t 0
theorem prL_length (t : Nat) : (prL need setup hold t).length = t + 1 := by
  induction t with
  | zero => rfl
  | succ t ih => simp [prL, ih]
theorem prL_get (t : Nat) : ∀ s, s ≤ t → (prL need setup hold t).getD s 0 = price need setup hold s := by
  induction t with
  | zero => intro s hs; rw [show s = 0 by omega]; rfl
  | succ t ih =>
    intro s hs
    rcases Nat.lt_or_ge t s with h | h
    · rw [show s = t + 1 by omega]; rfl
    · rw [← ih s h]
      simp only [prL, List.getD_eq_getElem?_getD]
      rw [List.getElem?_append_left (by rw [prL_length]; omega)]
theorem price_zero : price need setup hold 0 = 0 := rfl
theorem price_succ (t : Nat) : price need setup hold (t + 1) = minF (fun s => price need setup hold s + lotC need setup hold s (t + 1)) t := by
  rw [price, prL, List.getD_eq_getElem?_getD, List.getElem?_append_right (by rw [prL_length]; omega), prL_length]
  simp only [Nat.sub_self, List.getElem?_cons_zero, Option.getD_some]
  exact minF_congr fun i hi => by rw [prL_get _ _ _ _ _ hi]
theorem price_le {s t : Nat} (h : s < t) : price need setup hold t ≤ price need setup hold s + lotC need setup hold s t := by
  cases t with
  | zero => omega
  | succ t => rw [price_succ]; exact minF_le _ _ s (by omega)
theorem price_met {t : Nat} (h : 0 < t) : ∃ s, s < t ∧ price need setup hold t = price need setup hold s + lotC need setup hold s t := by
  cases t with
  | zero => omega
  | succ t => rw [price_succ]; obtain ⟨i, h1, h2⟩ := minF_met (fun s => price need setup hold s + lotC need setup hold s (t + 1)) t; exact ⟨i, by omega, h2⟩

variable {need setup hold}
theorem holdC_nonneg (hn : ∀ d, 0 ≤ need d) (hh : 0 ≤ hold) (s k : Nat) : 0 ≤ holdC need hold s k :=
  sumTo_nonneg fun i _ => Int.mul_nonneg (Int.mul_nonneg hh (by omega)) (hn _)
theorem lotC_nonneg (hn : ∀ d, 0 ≤ need d) (hs : 0 ≤ setup) (hh : 0 ≤ hold) (s t : Nat) : 0 ≤ lotC need setup hold s t := by
  unfold lotC; split
  · have := holdC_nonneg hn hh s (t - s); omega
  · exact Int.le_refl _
theorem price_nonneg (hn : ∀ d, 0 ≤ need d) (hs : 0 ≤ setup) (hh : 0 ≤ hold) (t : Nat) : 0 ≤ price need setup hold t := by
  induction t using Nat.strongRecOn with
  | _ t ih =>
    rcases Nat.eq_zero_or_pos t with rfl | h
    · exact Int.le_refl _
    · obtain ⟨s, h1, h2⟩ := price_met need setup hold h
      have := ih s h1; have := lotC_nonneg hn hs hh s t; omega
/-- What is required of no day costs nothing. -/
theorem none_need (hn : ∀ d, 0 ≤ need d) {s k : Nat} (h : some_ need s k = false) : ∀ i, i < k → need (s + i) = 0 := fun i hi => by
  have := hn (s + i)
  rcases Int.lt_or_le 0 (need (s + i)) with h1 | h1
  · rw [(some_iff need s k).2 ⟨i, hi, h1⟩] at h; cases h
  · omega
theorem lotC_all (hn : ∀ d, 0 ≤ need d) (hs : 0 ≤ setup) {s t : Nat} : lotC need setup hold s t ≤ holdC need hold s (t - s) + setup := by
  unfold lotC; split
  · exact Int.le_refl _
  · rename_i h
    have : holdC need hold s (t - s) = 0 := sumTo_zero fun i hi => by rw [none_need hn (by simpa using h) i hi]; simp
    omega

/-! ### Any lots -/
def heldF (need lots : Nat → Int) (d : Nat) : Int := sumTo (fun i => lots i - need i) (d + 1)
def costF (need lots : Nat → Int) (setup hold : Int) (t : Nat) : Int := sumTo (fun d => hold * heldF need lots d + if lots d ≠ 0 then setup else 0) t
theorem heldF_succ (lots : Nat → Int) (d : Nat) : heldF need lots (d + 1) = heldF need lots d + (lots (d + 1) - need (d + 1)) := rfl

/-- The last lot below t. -/
theorem last_lot (lots : Nat → Int) (t : Nat) : (∀ d, d < t → lots d = 0) ∨ ∃ s, s < t ∧ lots s ≠ 0 ∧ ∀ d, s < d → d < t → lots d = 0 := by
  induction t with
  | zero => exact .inl fun d h => by omega
  | succ t ih =>
    by_cases h : lots t = 0
    · rcases ih with h1 | ⟨s, h1, h2, h3⟩
      · refine .inl fun d hd => ?_
        rcases Nat.lt_or_ge d t with h4 | h4
        · exact h1 d h4
        · rw [show d = t by omega]; exact h
      · refine .inr ⟨s, by omega, h2, fun d q1 q2 => ?_⟩
        rcases Nat.lt_or_ge d t with h4 | h4
        · exact h3 d q1 h4
        · rw [show d = t by omega]; exact h
    · exact .inr ⟨t, by omega, h, fun d q1 q2 => by omega⟩

/-- Behind the last lot: what is held is what is needed later, and more. -/
theorem held_after {lots : Nat → Int} {s : Nat} : ∀ k : Nat, (∀ d, s < d → d < s + k + 1 → lots d = 0) → heldF need lots (s + k) = heldF need lots s - sumTo (fun i => need (s + 1 + i)) k := by
  intro k
  induction k with
  | zero => intro _; simp [sumTo]
  | succ k ih =>
    intro h
    rw [← Nat.add_assoc, heldF_succ, ih fun d q1 q2 => h d q1 (by omega), h (s + k + 1) (by omega) (by omega)]
    simp only [sumTo]
    rw [show s + 1 + k = s + k + 1 by omega]; omega

/-- What is held from day s on: the later requirements, each as long as it waits, and the rest. -/
theorem hold_sum {need : Nat → Int} {s : Nat} (x : Int) (k : Nat) :
    sumTo (fun j => need (s + 1 + j) * ((j : Int) + 1)) k + (k + 1) * (x - sumTo (fun i => need (s + 1 + i)) k) = sumTo (fun k' => x - sumTo (fun i => need (s + 1 + i)) k') (k + 1) := by
  induction k with
  | zero => simp [sumTo]
  | succ k ih =>
    have e : sumTo (fun k' => x - sumTo (fun i => need (s + 1 + i)) k') (k + 1 + 1) = sumTo (fun k' => x - sumTo (fun i => need (s + 1 + i)) k') (k + 1) + (x - sumTo (fun i => need (s + 1 + i)) (k + 1)) := rfl
    rw [e, ← ih]
    simp only [sumTo]
    generalize sumTo (fun i => need (s + 1 + i)) k = A
    generalize sumTo (fun j => need (s + 1 + j) * ((j : Int) + 1)) k = B
    generalize need (s + 1 + k) = c
    simp only [Int.mul_sub, Int.add_mul, Int.mul_add, Int.natCast_add, Int.natCast_one, Int.one_mul, Int.mul_one]
    rw [Int.mul_comm c (k : Int)]
    generalize (k : Int) * x = p
    generalize (k : Int) * A = q
    generalize (k : Int) * c = r
    omega
theorem sumTo_shift (f : Nat → Int) (k : Nat) : sumTo f (k + 1) = f 0 + sumTo (fun i => f (i + 1)) k := by
  induction k with
  | zero => simp [sumTo]
  | succ k ih => rw [sumTo, ih]; simp only [sumTo]; omega
theorem sumTo_add (f g : Nat → Int) (k : Nat) : sumTo (fun i => f i + g i) k = sumTo f k + sumTo g k := by
  induction k with
  | zero => rfl
  | succ k ih => simp only [sumTo]; rw [ih]; omega
theorem holdC_succ (s k : Nat) : holdC need hold s (k + 1) = hold * sumTo (fun j => need (s + 1 + j) * ((j : Int) + 1)) k := by
  unfold holdC
  rw [sumTo_shift, ← sumTo_mul]
  simp only [Int.natCast_zero, Int.mul_zero, Int.zero_mul, Int.zero_add]
  refine sumTo_congr fun i _ => ?_
  rw [show s + (i + 1) = s + 1 + i by omega, Int.mul_assoc, Int.mul_comm (need _)]
  rfl

/-- The cost from the last lot on. -/
theorem cost_last {lots : Nat → Int} {s t : Nat} (hst : s < t) (hl : lots s ≠ 0) (h0 : ∀ d, s < d → d < t → lots d = 0) :
    costF need lots setup hold t = costF need lots setup hold s + setup + (holdC need hold s (t - s) + hold * (((t - s : Nat) : Int) * heldF need lots (t - 1))) := by
  obtain ⟨k, rfl⟩ : ∃ k, t = s + (k + 1) := ⟨t - s - 1, by omega⟩
  unfold costF
  rw [sumTo_split, sumTo_add (fun i => hold * heldF need lots (s + i)), show s + (k + 1) - s = k + 1 by omega, holdC_succ, show s + (k + 1) - 1 = s + k by omega]
  have e1 : sumTo (fun i => if lots (s + i) ≠ 0 then setup else 0) (k + 1) = setup := by
    rw [sumTo_shift, sumTo_zero fun i hi => by rw [if_neg]; simp; exact h0 _ (by omega) (by omega)]
    rw [Nat.add_zero, if_pos hl]; omega
  have e2 : sumTo (fun i => hold * heldF need lots (s + i)) (k + 1) = hold * (sumTo (fun j => need (s + 1 + j) * ((j : Int) + 1)) k + (k + 1) * heldF need lots (s + k)) := by
    rw [sumTo_mul, held_after k fun d q1 q2 => h0 d q1 (by omega), hold_sum]
    congr 1
    exact sumTo_congr fun i hi => held_after i fun d q1 q2 => h0 d q1 (by omega)
  rw [e1, e2, Int.mul_add, show ((k + 1 : Nat) : Int) = (k : Int) + 1 by omega]
  omega

theorem price_none (hn : ∀ d, 0 ≤ need d) (hs : 0 ≤ setup) (hh : 0 ≤ hold) {t : Nat} (h : ∀ d, d < t → need d = 0) : price need setup hold t = 0 := by
  rcases Nat.eq_zero_or_pos t with rfl | ht
  · rfl
  · have h1 := price_le need setup hold ht
    have h2 : lotC need setup hold 0 t = 0 := by
      unfold lotC
      rw [if_neg]
      intro e
      obtain ⟨i, h3, h4⟩ := (some_iff need 0 (t - 0)).1 e
      rw [h _ (by omega)] at h4; omega
    have := price_nonneg hn hs hh t
    rw [price_zero, h2] at h1; omega

theorem heldF_none {lots : Nat → Int} : ∀ d, (∀ i, i ≤ d → lots i = 0) → heldF need lots d = - sumTo need (d + 1) := by
  intro d
  induction d with
  | zero => intro h; simp [heldF, sumTo, h]
  | succ d ih => intro h; rw [heldF_succ, ih fun i hi => h i (by omega), h (d + 1) (Nat.le_refl _)]; simp only [sumTo]; omega
theorem sumTo_single {f : Nat → Int} (hf : ∀ d, 0 ≤ f d) {k i : Nat} (h : i < k) : f i ≤ sumTo f k := by
  induction k with
  | zero => omega
  | succ k ih =>
    simp only [sumTo]
    have h0 : 0 ≤ sumTo f k := sumTo_nonneg fun i _ => hf i
    have h1 := hf k
    rcases Nat.lt_or_ge i k with h2 | h2
    · have := ih h2; omega
    · rw [show i = k by omega]; omega
/-- **No lots that cover cost less.** -/
theorem cost_ge (hn : ∀ d, 0 ≤ need d) (hs : 0 ≤ setup) (hh : 0 ≤ hold) {lots : Nat → Int} : ∀ t, (∀ d, d < t → 0 ≤ heldF need lots d) → price need setup hold t ≤ costF need lots setup hold t := by
  intro t
  induction t using Nat.strongRecOn with
  | _ t ih =>
    intro hc
    rcases last_lot lots t with h | ⟨s, h1, h2, h3⟩
    · have hz : ∀ d, d < t → need d = 0 := fun d hd => by
        have h4 := hc d hd
        rw [heldF_none d fun i hi => h i (by omega)] at h4
        have h5 := sumTo_single hn (show d < d + 1 by omega)
        have := hn d
        omega
      rw [price_none hn hs hh hz]
      refine sumTo_nonneg fun d hd => ?_
      have := Int.mul_nonneg hh (hc d hd)
      split <;> omega
    · rw [cost_last h1 h2 h3]
      have h4 := ih s h1 fun d hd => hc d (by omega)
      have h5 := price_le need setup hold h1
      have h6 := lotC_all (setup := setup) (hold := hold) hn hs (s := s) (t := t)
      have h7 : 0 ≤ hold * (((t - s : Nat) : Int) * heldF need lots (t - 1)) := Int.mul_nonneg hh (Int.mul_nonneg (by omega) (hc _ (by omega)))
      omega
end
end Go.Proofs.Ytnnablbdakomlaa
