/-
  Spans, part C: the runs of a row of bits: plain Lean, no program in sight.
-/
set_option linter.unusedSimpArgs false
set_option linter.unusedVariables false
namespace Go.Proofs.Ytmmgifhnbgehaaa

/-- The maximal runs of f from i on, below 1024. -/
inductive Runs (f : Nat → Bool) : Nat → List (Int × Int) → Prop
  | nil (i : Nat) : (∀ j, i ≤ j → j < 1024 → f j = false) → Runs f i []
  | cons (i a b : Nat) (l : List (Int × Int)) : i ≤ a → a < b → b ≤ 1024 → (∀ j, i ≤ j → j < a → f j = false) → (∀ j, a ≤ j → j < b → f j = true) → (b < 1024 → f b = false) → Runs f b l → Runs f i (((a : Int), (b : Int)) :: l)

theorem Runs.unique {f : Nat → Bool} {i : Nat} {l m : List (Int × Int)} (h : Runs f i l) (k : Runs f i m) : l = m := by
  induction h generalizing m with
  | nil i h =>
    cases k with
    | nil _ _ => rfl
    | cons _ a b l h1 h2 h3 h4 h5 h6 h7 =>
      have e1 := h a h1 (by omega)
      rw [h5 a (Nat.le_refl _) h2] at e1; cases e1
  | cons i a b l h1 h2 h3 h4 h5 h6 h7 ih =>
    cases k with
    | nil _ h =>
      have e1 := h a h1 (by omega)
      rw [h5 a (Nat.le_refl _) h2] at e1; cases e1
    | cons _ a' b' l' k1 k2 k3 k4 k5 k6 k7 =>
      have ea : a = a' := by
        rcases Nat.lt_trichotomy a a' with h | h | h
        · have := k4 a h1 h; rw [h5 a (Nat.le_refl _) h2] at this; cases this
        · exact h
        · have := h4 a' k1 h; rw [k5 a' (Nat.le_refl _) k2] at this; cases this
      subst ea
      have eb : b = b' := by
        rcases Nat.lt_trichotomy b b' with h | h | h
        · have := h6 (by omega); rw [k5 b (by omega) h] at this; cases this
        · exact h
        · have := k6 (by omega); rw [h5 b' (by omega) h] at this; cases this
      subst eb
      rw [ih k7]

theorem Runs.skip {f : Nat → Bool} {i : Nat} {l : List (Int × Int)} (h : Runs f i l) (hi : i < 1024 → f i = false) : Runs f (i + 1) l := by
  cases h with
  | nil _ h => exact .nil _ fun j h1 h2 => h j (by omega) h2
  | cons _ a b l h1 h2 h3 h4 h5 h6 h7 =>
    have : a ≠ i := fun e => by subst e; have := hi (by omega); rw [h5 a (Nat.le_refl _) h2] at this; cases this
    exact .cons _ a b l (by omega) h2 h3 (fun j q1 q2 => h4 j (by omega) q2) h5 h6 h7
theorem Runs.back {f : Nat → Bool} {i : Nat} {l : List (Int × Int)} (h : Runs f (i + 1) l) (hi : f i = false) : Runs f i l := by
  cases h with
  | nil _ h =>
    refine .nil _ fun j h1 h2 => ?_
    rcases Nat.eq_or_lt_of_le h1 with e | h3
    · rw [← e]; exact hi
    · exact h j h3 h2
  | cons _ a b l h1 h2 h3 h4 h5 h6 h7 =>
    refine .cons _ a b l (by omega) h2 h3 (fun j q1 q2 => ?_) h5 h6 h7
    rcases Nat.eq_or_lt_of_le q1 with e | h8
    · rw [← e]; exact hi
    · exact h4 j h8 q2
/-- At a set bit. -/
theorem Runs.at {f : Nat → Bool} {i : Nat} {l : List (Int × Int)} (h : Runs f i l) (hi : i < 1024) (hf : f i = true) :
    ∃ (b : Nat) (l' : List (Int × Int)), l = ((i : Int), (b : Int)) :: l' ∧ i < b ∧ b ≤ 1024 ∧ (∀ j, i ≤ j → j < b → f j = true) ∧ (b < 1024 → f b = false) ∧ Runs f b l' := by
  cases h with
  | nil _ h => have := h i (Nat.le_refl _) hi; rw [hf] at this; cases this
  | cons _ a b l h1 h2 h3 h4 h5 h6 h7 =>
    have : a = i := by
      rcases Nat.eq_or_lt_of_le h1 with h | h
      · exact h.symm
      · have := h4 i (Nat.le_refl _) h; rw [hf] at this; cases this
    subst this
    exact ⟨b, l, rfl, h2, h3, h5, h6, h7⟩
theorem Runs.done {f : Nat → Bool} {i : Nat} {l : List (Int × Int)} (h : Runs f i l) (hi : 1024 ≤ i) : l = [] := by
  cases h with
  | nil => rfl
  | cons _ a b l h1 h2 h3 => omega

/-- One bit more at the left. -/
def ins (i : Nat) : List (Int × Int) → List (Int × Int)
  | (a, b) :: l => if a = (i : Int) + 1 then ((i : Int), b) :: l else ((i : Int), (i : Int) + 1) :: (a, b) :: l
  | [] => [((i : Int), (i : Int) + 1)]
/-- From the right: 'n' bits yet, bit i is the rightmost of them .. -/
def runsGo (f : Nat → Bool) : Nat → List (Int × Int) → List (Int × Int)
  | 0, l => l
  | i + 1, l => runsGo f i (if f i then ins i l else l)
def runsF (f : Nat → Bool) : List (Int × Int) := runsGo f 1024 []

theorem Runs.ins {f : Nat → Bool} {i : Nat} {l : List (Int × Int)} (h : Runs f (i + 1) l) (hi : i < 1024) (hf : f i = true) : Runs f i (ins i l) := by
  cases h with
  | nil _ h =>
    refine .cons i i (i + 1) [] (Nat.le_refl _) (by omega) (by omega) (fun j _ _ => by omega) (fun j q1 q2 => ?_) (fun h1 => h (i + 1) (Nat.le_refl _) h1) (.nil _ h)
    rw [show j = i by omega]; exact hf
  | cons _ a b l h1 h2 h3 h4 h5 h6 h7 =>
    by_cases e : a = i + 1
    · subst e
      rw [show Proofs.Ytmmgifhnbgehaaa.ins i ((((i + 1 : Nat) : Int), (b : Int)) :: l) = ((i : Int), (b : Int)) :: l by simp [Proofs.Ytmmgifhnbgehaaa.ins]]
      refine .cons i i b l (Nat.le_refl _) (by omega) h3 (fun j _ _ => by omega) (fun j q1 q2 => ?_) h6 h7
      rcases Nat.eq_or_lt_of_le q1 with rfl | h8
      · exact hf
      · exact h5 j h8 q2
    · have ea : i + 1 < a := by omega
      rw [show Proofs.Ytmmgifhnbgehaaa.ins i ((((a : Nat) : Int), (b : Int)) :: l) = ((i : Int), (((i + 1 : Nat) : Nat) : Int)) :: ((a : Int), (b : Int)) :: l by simp [Proofs.Ytmmgifhnbgehaaa.ins]; omega]
      refine .cons i i (i + 1) _ (Nat.le_refl _) (by omega) (by omega) (fun j _ _ => by omega) (fun j q1 q2 => ?_) (fun _ => h4 (i + 1) (Nat.le_refl _) ea) (.cons _ a b l h1 h2 h3 h4 h5 h6 h7)
      rw [show j = i by omega]; exact hf

theorem runsGo_runs {f : Nat → Bool} : ∀ (n : Nat) (l : List (Int × Int)), n ≤ 1024 → Runs f n l → Runs f 0 (runsGo f n l) := by
  intro n
  induction n with
  | zero => exact fun l _ h => h
  | succ n ih =>
    intro l hn h
    simp only [runsGo]
    refine ih _ (by omega) ?_
    cases hf : f n with
    | true => exact h.ins (by omega) hf
    | false => exact h.back hf
theorem runsF_runs (f : Nat → Bool) : Runs f 0 (runsF f) := runsGo_runs 1024 [] (Nat.le_refl _) (.nil _ fun j h1 h2 => by omega)

theorem Runs.congr {f g : Nat → Bool} {i : Nat} {l : List (Int × Int)} (h : Runs f i l) (e : ∀ j, j < 1024 → f j = g j) : Runs g i l := by
  induction h with
  | nil i h => exact .nil _ fun j h1 h2 => by rw [← e j h2]; exact h j h1 h2
  | cons i a b l h1 h2 h3 h4 h5 h6 h7 ih =>
    exact .cons i a b l h1 h2 h3 (fun j q1 q2 => by rw [← e j (by omega)]; exact h4 j q1 q2) (fun j q1 q2 => by rw [← e j (by omega)]; exact h5 j q1 q2) (fun q => by rw [← e b q]; exact h6 q) ih
theorem runsF_congr {f g : Nat → Bool} (e : ∀ j, j < 1024 → f j = g j) : runsF f = runsF g := ((runsF_runs f).congr e).unique (runsF_runs g)

theorem Runs.length {f : Nat → Bool} {i : Nat} {l : List (Int × Int)} (h : Runs f i l) : l.length + i ≤ 1024 ∨ l = [] := by
  induction h with
  | nil => exact .inr rfl
  | cons i a b l h1 h2 h3 h4 h5 h6 h7 ih =>
    left
    rcases ih with h | rfl
    · simp; omega
    · simp; omega
theorem runsF_length (f : Nat → Bool) : (runsF f).length ≤ 1024 := by
  rcases (runsF_runs f).length with h | h
  · omega
  · rw [h]; simp
/-- One bit more at the right. -/
def snoc (i : Nat) : List (Int × Int) → List (Int × Int)
  | [] => [((i : Int), (i : Int) + 1)]
  | [(a, b)] => if b = (i : Int) then [(a, (i : Int) + 1)] else [(a, b), ((i : Int), (i : Int) + 1)]
  | x :: y :: l => x :: snoc i (y :: l)
theorem snoc_concat (i : Nat) (s : Int × Int) : ∀ l : List (Int × Int), snoc i (l ++ [s]) = if s.2 = (i : Int) then l ++ [(s.1, (i : Int) + 1)] else (l ++ [s]) ++ [((i : Int), (i : Int) + 1)] := by
  intro l
  induction l with
  | nil => obtain ⟨a, b⟩ := s; simp only [List.nil_append, snoc]; split <;> rfl
  | cons x l ih =>
    cases l with
    | nil => obtain ⟨a, b⟩ := s; simp only [List.nil_append, List.cons_append, snoc]; split <;> rfl
    | cons y l =>
      simp only [List.cons_append] at ih ⊢
      simp only [snoc]
      rw [ih]; split <;> rfl

theorem Runs.snoc {f : Nat → Bool} {i0 i : Nat} {l : List (Int × Int)} (h : Runs f i0 l) (hz : ∀ j, i ≤ j → j < 1024 → f j = false) (h0 : i0 ≤ i) (hi : i < 1024) : Runs (fun j => f j || decide (j = i)) i0 (snoc i l) := by
  have base : ∀ k, k ≤ i → (∀ j, k ≤ j → j < 1024 → f j = false) → Runs (fun j => f j || decide (j = i)) k [((i : Int), (i : Int) + 1)] := fun k hk hf => by
    have := Runs.cons (f := fun j => f j || decide (j = i)) k i (i + 1) [] hk (by omega) (by omega) (fun j q1 q2 => by simp [hf j q1 (by omega)]; omega) (fun j q1 q2 => by simp; exact .inr (by omega)) (fun q => by simp [hf (i + 1) (by omega) q]) (.nil _ fun j q1 q2 => by simp [hf j (by omega) q2]; omega)
    exact this
  induction h with
  | nil k hk => exact base k h0 hk
  | cons k a b l h1 h2 h3 h4 h5 h6 h7 ih =>
    have hbi : b ≤ i := by
      rcases Nat.lt_or_ge i b with q | q
      · have h8 := h5 (max a i) (by omega) (by omega)
        rw [hz (max a i) (by omega) (by omega)] at h8; cases h8
      · exact q
    have hg1 : ∀ j, k ≤ j → j < a → (f j || decide (j = i)) = false := fun j q1 q2 => by simp [h4 j q1 q2]; omega
    cases l with
    | nil =>
      have hzb : ∀ j, b ≤ j → j < 1024 → f j = false := by cases h7 with | nil _ h => exact h
      simp only [Proofs.Ytmmgifhnbgehaaa.snoc]
      split
      · rename_i e
        have e : b = i := by omega
        subst e
        refine .cons k a (b + 1) [] h1 (by omega) (by omega) hg1 (fun j q1 q2 => ?_) (fun q => ?_) (.nil _ fun j q1 q2 => ?_)
        · by_cases e : j = b
          · simp [e]
          · simp [h5 j q1 (by omega)]
        · simp [hzb (b + 1) (by omega) q]
        · simp [hzb j (by omega) q2]; omega
      · rename_i e
        have e : b ≠ i := fun h => e (by omega)
        exact .cons k a b _ h1 h2 h3 hg1 (fun j q1 q2 => by simp [h5 j q1 q2]) (fun q => by simp [h6 q, e]) (base b hbi hzb)
    | cons y l =>
      have hlt : b < i := by
        cases h7 with
        | cons _ a' b' l' g1 g2 g3 g4 g5 g6 g7 =>
          rcases Nat.lt_or_ge a' i with q | q
          · omega
          · have := g5 a' (Nat.le_refl _) g2; rw [hz a' q (by omega)] at this; cases this
      exact .cons k a b _ h1 h2 h3 hg1 (fun j q1 q2 => by simp [h5 j q1 q2]) (fun q => by simp [h6 q]; omega) (ih hbi)

/-- The runs of the first 'i' bits. -/
def runsTo (f : Nat → Bool) (i : Nat) : List (Int × Int) := runsF fun j => f j && decide (j < i)
theorem runsTo_zero (f : Nat → Bool) : runsTo f 0 = [] := (runsF_runs _).unique (.nil _ fun j _ _ => by simp)
theorem runsTo_skip {f : Nat → Bool} {i : Nat} (h : f i = false) : runsTo f (i + 1) = runsTo f i := runsF_congr fun j _ => by
  by_cases e : j = i
  · subst e; simp [h]
  · rw [show decide (j < i + 1) = decide (j < i) by simp only [decide_eq_decide]; omega]
theorem runsTo_snoc {f : Nat → Bool} {i : Nat} (h : f i = true) (hi : i < 1024) : runsTo f (i + 1) = snoc i (runsTo f i) := by
  have := (runsF_runs (fun j => f j && decide (j < i))).snoc (i := i) (fun j q1 q2 => by simp; omega) (Nat.zero_le _) hi
  refine (runsF_runs _).unique (this.congr fun j _ => ?_)
  by_cases e : j = i
  · subst e; simp [h]
  · rw [show decide (j < i + 1) = decide (j < i) by simp only [decide_eq_decide]; omega]; simp [e]
theorem runsTo_all (f : Nat → Bool) : runsTo f 1024 = runsF f := runsF_congr fun j hj => by simp [hj]
theorem runsTo_length (f : Nat → Bool) (i : Nat) : (runsTo f i).length ≤ 1024 := runsF_length _

attribute [irreducible] runsF
end Go.Proofs.Ytmmgifhnbgehaaa
