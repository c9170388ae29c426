/-
  Prices: the plain law: what prices bound from below, which days are tight.
-/
import Derived.Test.YtnnablbdakomlaaPrB
set_option linter.unusedSimpArgs false
set_option linter.unusedVariables false
namespace Go.Proofs.Ytnnablbdakomlaa

section
variable {n : Nat → Int} {s h : Int} {F : Nat → Int} {N : Nat}
/-- How much less F is than what is permitted. -/
def slackF (n : Nat → Int) (s h : Int) (F : Nat → Int) (a t : Nat) : Int := F a + lotC n s h a (t + 1) - F (t + 1)
/-- F is a proof for N days. -/
def ProofF (n : Nat → Int) (s h : Int) (F : Nat → Int) (N : Nat) : Prop := ∀ a t, a ≤ t → t < N → 0 ≤ slackF n s h F a t

theorem proof_le (h0 : F 0 = 0) (hP : ProofF n s h F N) : ∀ t, t ≤ N → F t ≤ price n s h t := by
  intro t
  induction t using Nat.strongRecOn with
  | _ t ih =>
    intro ht
    cases t with
    | zero => rw [h0, price_zero]; exact Int.le_refl _
    | succ t =>
      obtain ⟨a, ha, he⟩ := price_met (need := n) (setup := s) (hold := h) (t := t + 1) (by omega)
      have h1 := ih a ha (by omega)
      have h2 := hP a t (by omega) (by omega)
      unfold slackF at h2
      omega

theorem proof_tight (h0 : F 0 = 0) (hP : ProofF n s h F N) : ∀ t, t ≤ N → F t = price n s h t → price n s h t ≠ 0 → ∃ a u, a ≤ u ∧ u < N ∧ some_ n a (u + 1 - a) = true ∧ slackF n s h F a u = 0 := by
  intro t
  induction t using Nat.strongRecOn with
  | _ t ih =>
    intro ht he hne
    cases t with
    | zero => exact absurd (price_zero n s h) hne
    | succ t =>
      obtain ⟨a, ha, hm⟩ := price_met (need := n) (setup := s) (hold := h) (t := t + 1) (by omega)
      have h1 := proof_le h0 hP a (by omega)
      have h2 := hP a t (by omega) (by omega)
      have h3 : slackF n s h F a t = 0 := by unfold slackF at h2 ⊢; omega
      cases hs : some_ n a (t + 1 - a) with
      | true => exact ⟨a, t, by omega, by omega, hs, h3⟩
      | false =>
        have hl : lotC n s h a (t + 1) = 0 := by unfold lotC; rw [hs]; rfl
        refine ih a ha (by omega) ?_ (by omega)
        unfold slackF at h3; omega

/-- The prices themselves are a proof. -/
theorem price_proof : ProofF n s h (price n s h) N := fun a t hat _ => by
  have := price_le n s h (s := a) (t := t + 1) (by omega)
  unfold slackF; omega

/-- Days of lots of least cost are tight. -/
theorem best_tight : ∀ t d, best n s h t d = true → ∃ u, d ≤ u ∧ u < t ∧ some_ n d (u + 1 - d) = true ∧ slackF n s h (price n s h) d u = 0 := by
  intro t
  induction t using Nat.strongRecOn with
  | _ t ih =>
    intro d hd
    cases hp : pick n s h t with
    | none => rw [best_none hp] at hd; cases hd
    | some a =>
      have ha := pick_lt hp
      rw [best_some hp, Bool.or_eq_true] at hd
      rcases hd with hd | hd
      · have e : d = a := by simpa using hd
        subst e
        obtain ⟨_, h1, _⟩ := findB_some hp
        simp only [pickP, Bool.and_eq_true, decide_eq_true_eq] at h1
        refine ⟨t - 1, by omega, by omega, by rw [show t - 1 + 1 - d = t - d by omega]; exact h1.1, ?_⟩
        unfold slackF
        rw [show t - 1 + 1 = t by omega]; omega
      · obtain ⟨u, h1, h2, h3⟩ := ih a ha d hd
        exact ⟨u, h1, by omega, h3⟩

/-- Less by b from the day after 'from' on. -/
theorem proof_lower {b : Int} {f : Nat} (hb : 0 ≤ b) (hP : ProofF n s h F N) : ProofF n s h (fun t => if f < t then F t - b else F t) N := fun a t hat ht => by
  have := hP a t hat ht
  unfold slackF at this ⊢
  dsimp only
  split <;> split <;> omega
end

/-! ### All pairs -/
/-- The pairs of the first m days of N. -/
def rowsTo {α : Type} (N : Nat) (g : Nat → Nat → α) (m : Nat) : List α := (List.range m).flatMap fun a => (List.range (N - a)).map fun j => g a (a + j)
def offTo (N : Nat) : Nat → Nat
  | 0 => 0
  | a + 1 => offTo N a + (N - a)
theorem rowsTo_succ {α : Type} (N : Nat) (g : Nat → Nat → α) (m : Nat) : rowsTo N g (m + 1) = rowsTo N g m ++ (List.range (N - m)).map fun j => g m (m + j) := by
  simp [rowsTo, List.range_succ]
theorem rowsTo_length {α : Type} (N : Nat) (g : Nat → Nat → α) (m : Nat) : (rowsTo N g m).length = offTo N m := by
  induction m with
  | zero => rfl
  | succ m ih => rw [rowsTo_succ, List.length_append, ih]; simp [offTo]
theorem rowsTo_get {α : Type} (N : Nat) (g : Nat → Nat → α) {a j : Nat} (hj : j < N - a) : ∀ m, a < m → (rowsTo N g m)[offTo N a + j]? = some (g a (a + j)) := by
  intro m
  induction m with
  | zero => intro h; omega
  | succ m ih =>
    intro h
    rw [rowsTo_succ]
    rcases Nat.lt_or_ge a m with h1 | h1
    · have := ih h1
      rw [List.getElem?_append_left]; exact this
      rcases Nat.lt_or_ge (offTo N a + j) (rowsTo N g m).length with h2 | h2
      · exact h2
      · rw [List.getElem?_eq_none h2] at this; cases this
    · have e : a = m := by omega
      subst e
      rw [List.getElem?_append_right (by rw [rowsTo_length]; omega), rowsTo_length, Nat.add_sub_cancel_left]
      simp [hj]
theorem offTo_lt {N a j : Nat} (hj : j < N - a) : offTo N a + j < offTo N N := by
  have h := rowsTo_get N (fun x y => (x, y)) (a := a) (j := j) hj N (by omega)
  rw [← rowsTo_length N (fun x y => (x, y)) N]
  rcases Nat.lt_or_ge (offTo N a + j) (rowsTo N (fun x y => (x, y)) N).length with h2 | h2
  · exact h2
  · rw [List.getElem?_eq_none h2] at h; cases h
theorem rowsTo_mem {α : Type} {N : Nat} {g : Nat → Nat → α} {m : Nat} {x : α} : x ∈ rowsTo N g m ↔ ∃ a t, a < m ∧ a ≤ t ∧ t < N ∧ x = g a t := by
  simp only [rowsTo, List.mem_flatMap, List.mem_map, List.mem_range]
  constructor
  · rintro ⟨a, ha, j, hj, rfl⟩; exact ⟨a, a + j, ha, by omega, by omega, rfl⟩
  · rintro ⟨a, t, ha, h1, h2, rfl⟩; exact ⟨a, ha, t - a, by omega, by rw [show a + (t - a) = t by omega]⟩
theorem rowsTo_map {α β : Type} (N : Nat) (g : Nat → Nat → α) (f : α → β) (m : Nat) : (rowsTo N g m).map f = rowsTo N (fun a t => f (g a t)) m := by
  simp [rowsTo, List.map_flatMap, Function.comp_def]

/-! ### Days that are tight -/
/-- One pair's day is added if it is tight and new. -/
def tStep (l : List Nat) (x : Nat × Bool) : List Nat := if x.2 && !l.contains x.1 then l ++ [x.1] else l
theorem tStep_same (a : Nat) : ∀ (bs : List Bool) (l : List Nat), a ∈ l → (bs.map fun b => (a, b)).foldl tStep l = l := by
  intro bs
  induction bs with
  | nil => intro l _; rfl
  | cons b bs ih =>
    intro l hl
    have : tStep l (a, b) = l := by unfold tStep; rw [if_neg (by simp [hl])]
    rw [List.map_cons, List.foldl_cons, this]; exact ih l hl
theorem tStep_new (a : Nat) : ∀ (bs : List Bool) (l : List Nat), a ∉ l → (bs.map fun b => (a, b)).foldl tStep l = if bs.any id then l ++ [a] else l := by
  intro bs
  induction bs with
  | nil => intro l _; rfl
  | cons b bs ih =>
    intro l hl
    rw [List.map_cons, List.foldl_cons]
    cases b with
    | true =>
      have : tStep l (a, true) = l ++ [a] := by unfold tStep; rw [if_pos (by simp [hl])]
      rw [this, tStep_same a bs _ (by simp)]; simp
    | false =>
      have : tStep l (a, false) = l := by unfold tStep; rw [if_neg (by simp)]
      rw [this, ih l hl]; simp
def tightDays (N : Nat) (p : Nat → Nat → Bool) (m : Nat) : List Nat := (List.range m).filter fun a => (List.range (N - a)).any fun j => p a (a + j)
theorem tightDays_succ (N : Nat) (p : Nat → Nat → Bool) (m : Nat) : tightDays N p (m + 1) = if (List.range (N - m)).any fun j => p m (m + j) then tightDays N p m ++ [m] else tightDays N p m := by
  unfold tightDays
  rw [List.range_succ, List.filter_append]
  simp only [List.filter_cons, List.filter_nil]
  split <;> simp
theorem tight_fold (N : Nat) (p : Nat → Nat → Bool) : ∀ m, (rowsTo N (fun a t => (a, p a t)) m).foldl tStep [] = tightDays N p m := by
  intro m
  induction m with
  | zero => rfl
  | succ m ih =>
    have hm : m ∉ tightDays N p m := by unfold tightDays; simp
    rw [rowsTo_succ, List.foldl_append, ih, tightDays_succ]
    have e : ((List.range (N - m)).map fun j => (m, p m (m + j))) = ((List.range (N - m)).map fun j => p m (m + j)).map fun b => (m, b) := by simp [Function.comp_def]
    rw [e, tStep_new m _ _ hm, List.any_map]
    rfl
theorem tightDays_mem {N : Nat} {p : Nat → Nat → Bool} {m a : Nat} : a ∈ tightDays N p m ↔ a < m ∧ ∃ t, a ≤ t ∧ t < N ∧ p a t = true := by
  simp only [tightDays, List.mem_filter, List.mem_range, List.any_eq_true]
  constructor
  · rintro ⟨h, j, hj, hp⟩; exact ⟨h, a + j, by omega, by omega, hp⟩
  · rintro ⟨h, t, h1, h2, hp⟩; exact ⟨h, t - a, by omega, by rw [show a + (t - a) = t by omega]; exact hp⟩
end Go.Proofs.Ytnnablbdakomlaa
