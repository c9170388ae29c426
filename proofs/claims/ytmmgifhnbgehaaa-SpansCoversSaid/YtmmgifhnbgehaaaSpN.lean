/-
  Spans: the contracts of the laws SpansDays and SpansCovers.
-/
import Derived.Test.YtmmgifhnbgehaaaSpL
set_option linter.unusedSimpArgs false
set_option linter.unusedVariables false
namespace Go.Proofs.Ytmmgifhnbgehaaa
open Go.Lo

/-! ### Plain -/
theorem covS_iff (a : List Sp) (s : Sp) : covS a s = true ↔ s.2 ≤ s.1 ∨ (0 ≤ s.1 ∧ s.2 ≤ 1024 ∧ ∀ d : Nat, d < 1024 → s.1 ≤ (d : Int) → (d : Int) < s.2 → daysF a d = true) := by
  rw [cov_eq]; unfold rcovS
  rw [Bool.or_eq_true, Bool.and_eq_true, Bool.and_eq_true, allS_iff]
  simp [and_assoc]
theorem cov_split (l : List Sp) {a m b : Int} (h0 : 0 ≤ a) (h1 : a ≤ m) (h2 : m ≤ b) (h3 : b ≤ 1024) : covS l (a, b) = (covS l (a, m) && covS l (m, b)) := by
  rw [Bool.eq_iff_iff, Bool.and_eq_true, covS_iff, covS_iff, covS_iff]
  simp only
  constructor
  · rintro (h | ⟨_, _, h⟩)
    · exact ⟨.inl (by omega), .inl (by omega)⟩
    · refine ⟨.inr ⟨h0, by omega, fun d q1 q2 q3 => h d q1 q2 (by omega)⟩, .inr ⟨by omega, h3, fun d q1 q2 q3 => h d q1 (by omega) q3⟩⟩
  · rintro ⟨h, k⟩
    by_cases e : b ≤ a
    · exact .inl e
    · refine .inr ⟨h0, h3, fun d q1 q2 q3 => ?_⟩
      by_cases q : (d : Int) < m
      · rcases h with h | h
        · omega
        · exact h.2.2 d q1 q2 q
      · rcases k with k | k
        · omega
        · exact k.2.2 d q1 (by omega) q3
theorem cov_nil (l : List Sp) {a b : Int} (h0 : 0 ≤ a) (h1 : a < b) (h3 : b ≤ 1024) : covS l (a, b) = decide ((combS 2 [(a, b)] l).length = 0) := by
  unfold covS
  rw [decide_eq_false (show ¬ b ≤ a by omega), decide_eq_true h0, decide_eq_true h3]; simp
theorem cov_out (l : List Sp) {a b : Int} (h1 : a < b) (h3 : 1024 < b) : covS l (a, b) = false := by
  unfold covS
  rw [decide_eq_false (show ¬ b ≤ a by omega), decide_eq_false (show ¬ b ≤ 1024 by omega)]; simp

/-- In order, apart, inside the calendar. -/
def Norm (l : List Sp) : Prop := ∀ k, (h : k < l.length) → 0 ≤ l[k].1 ∧ l[k].1 < l[k].2 ∧ l[k].2 ≤ 1024 ∧ ∀ h0 : 0 < k, l[k - 1].2 < l[k].1
theorem Runs.norm {f : Nat → Bool} {i : Nat} {l : List (Int × Int)} (h : Runs f i l) : (∀ h : 0 < l.length, (i : Int) ≤ l[0].1 ∧ (f i = false → (i : Int) < l[0].1)) ∧ Norm l := by
  induction h with
  | nil => exact ⟨fun h => absurd h (Nat.lt_irrefl 0), fun k h => absurd h (Nat.not_lt_zero _)⟩
  | cons i a b l h1 h2 h3 h4 h5 h6 h7 ih =>
    refine ⟨fun _ => ⟨by simp; omega, fun hf => ?_⟩, fun k hk => ?_⟩
    · have : a ≠ i := fun e => by subst e; rw [h5 a (Nat.le_refl _) h2] at hf; cases hf
      simp; omega
    · cases k with
      | zero => exact ⟨by simp, by simp; omega, by simp; omega, fun h => absurd h (Nat.lt_irrefl 0)⟩
      | succ k =>
        have hk' : k < l.length := by simpa using hk
        obtain ⟨q1, q2, q3, q4⟩ := ih.2 k hk'
        refine ⟨by simpa using q1, by simpa using q2, by simpa using q3, fun _ => ?_⟩
        cases k with
        | zero =>
          obtain ⟨r1, r2⟩ := ih.1 hk'
          have hb : b < 1024 := by
            rcases Nat.lt_or_ge b 1024 with h | h
            · exact h
            · have e := h7.done h
              rw [e] at hk'; simp at hk'
          simpa using r2 (h6 hb)
        | succ k => simpa using q4 (Nat.succ_pos _)
theorem runsF_norm (f : Nat → Bool) : Norm (runsF f) := (runsF_runs f).norm.2
theorem Norm.check {l : List Sp} (h : Norm l) : checkS l = 0 := by
  unfold checkS
  rw [if_neg]
  intro e
  obtain ⟨s, hs, hb⟩ := List.any_eq_true.1 e
  obtain ⟨k, hk, rfl⟩ := List.getElem_of_mem hs
  obtain ⟨q1, q2, q3, _⟩ := h k hk
  simp [badS] at hb
  omega
theorem hasS_days (l : List Sp) (d : Int) : hasS l d = (decide (0 ≤ d) && decide (d < 1024) && daysF l d.toNat) := by
  unfold hasS daysF
  by_cases h : 0 ≤ d
  · rw [show ((d.toNat : Nat) : Int) = d by omega]
  · simp [h]
theorem hasS_comb (t : Nat) (a b : List Sp) (d : Int) (hf : opS t false false = false) : hasS (combS t a b) d = opS t (hasS a d) (hasS b d) := by
  rw [hasS_days, hasS_days, hasS_days]
  by_cases h : 0 ≤ d ∧ d < 1024
  · rw [daysF_comb _ _ _ (show d.toNat < 1024 by omega)]; simp [h.1, h.2]
  · have : (decide (0 ≤ d) && decide (d < 1024)) = false := by simp; omega
    rw [this]; simp [hf]
theorem hasS_norm (a : List Sp) (d : Int) : hasS (normS a) d = hasS a d := by
  rw [hasS_days, hasS_days]
  by_cases h : 0 ≤ d ∧ d < 1024
  · rw [daysF_norm _ (show d.toNat < 1024 by omega)]
  · have : (decide (0 ≤ d) && decide (d < 1024)) = false := by simp; omega
    rw [this]; simp

/-! ### Contracts -/
@[simp] theorem isL_one (x : Bool) (a b : Int) : isL (.slice x [[num a, num b]]) = True := eq_true ⟨[(a, b)], rfl, by simp [maxLen]⟩
@[simp] theorem decL_one (x : Bool) (a b : Int) : decL (.slice x [[num a, num b]]) = [(a, b)] := rfl
@[simp] theorem elem35 : elemB P0 35 = some (24, [.lit (.slice none 0 0)]) := by kernel_rfl
@[simp] theorem ixi35 : ixi P0 35 = some (none, 1, false) := by kernel_rfl
@[simp] theorem elem36 : elemB P0 36 = some (8, [num 0]) := by kernel_rfl

theorem tmod_in {x m : Int} (h : 0 ≤ x) (hm : 0 < m) : 0 ≤ x.tmod m ∧ x.tmod m < m := by
  rw [Int.tmod_eq_emod_of_nonneg h]; exact ⟨Int.emod_nonneg _ (by omega), Int.emod_lt_of_pos _ hm⟩

set_option maxRecDepth 8000 in
set_option maxHeartbeats 2000000 in
theorem spansCovers_law (x : Bool) (l : List Sp) (f t c : Int) (hl : l.length ≤ maxLen) (hf : 0 ≤ f ∧ f < 65536) (ht : 0 ≤ t ∧ t < 65536) (hc : 0 ≤ c ∧ c < 65536) :
    PFun P0 9 [encL x l, .lit (.int .u16 f), .lit (.int .u16 t), .lit (.int .u16 c)] (bo true) := by
  have wf : IntKind.i64.wrap f = f := wrap_i64 (by omega) (by omega)
  have wt : IntKind.i64.wrap t = t := wrap_i64 (by omega) (by omega)
  have wc : IntKind.i64.wrap c = c := wrap_i64 (by omega) (by omega)
  obtain ⟨a, ha⟩ : ∃ a, f.tmod 1025 = a := ⟨_, rfl⟩
  obtain ⟨b, hb⟩ : ∃ b, t.tmod 1025 = b := ⟨_, rfl⟩
  have la : 0 ≤ a ∧ a < 1025 := ha ▸ tmod_in hf.1 (by omega)
  have lb : 0 ≤ b ∧ b < 1025 := hb ▸ tmod_in ht.1 (by omega)
  have w1 : IntKind.i64.wrap (b - a) = b - a := wrap_i64 (by omega) (by omega)
  have w2 : IntKind.i64.wrap (b - a + 1) = b - a + 1 := wrap_i64 (by omega) (by omega)
  have w3 : IntKind.i64.wrap (1025 + c) = 1025 + c := wrap_i64 (by omega) (by omega)
  refine pcalls_body Try.func9 rfl rfl rfl (by show 4 ≤ _; decide) (pwp_run TD_ok ?_)
  by_cases hlt : b ≤ a
  · have h1 : covS l (a, b) = true := by simp [covS, hlt]
    simp (config := { maxSteps := 3000000 }) [-evLen, TD, TC, TB, e1, e2, eN, eS, hl, sameS, wf, wt, ha, hb, hlt, h1]
  · obtain ⟨r, hr⟩ : ∃ r, c.tmod (b - a + 1) = r := ⟨_, rfl⟩
    have lr : 0 ≤ r ∧ r < b - a + 1 := hr ▸ tmod_in hc.1 (by omega)
    have w4 : IntKind.i64.wrap (a + r) = a + r := wrap_i64 (by omega) (by omega)
    have h1 := cov_nil l la.1 (show a < b by omega) (by omega)
    have h2 := cov_split l la.1 (show a ≤ a + r by omega) (show a + r ≤ b by omega) (by omega)
    have h3 := cov_out l (a := a) (b := 1025 + c) (by omega) (by omega)
    have h4 : b - a + 1 ≠ 0 := by omega
    have h5 : a < b := by omega
    simp (config := { maxSteps := 3000000 }) [-evLen, TD, TC, TB, e1, e2, eN, eS, hl, sameS, wf, wt, wc, ha, hb, hlt, w1, w2, w3, w4, hr, h4, h5, h3]
    intro _
    have key : covS l (a, b) = (((combS 2 [(a, b)] l).length : Int) == 0) := by
      rw [h1, Bool.eq_iff_iff]; simp
    exact ⟨fun _ => ⟨key, fun q => ⟨key, q⟩⟩, key, h2⟩

end Go.Proofs.Ytmmgifhnbgehaaa
