/-
  Spans: the laws' contracts.
-/
import Derived.Test.YtmmgifhnbgehaaaSpK
set_option linter.unusedSimpArgs false
set_option linter.unusedVariables false
namespace Go.Proofs.Ytmmgifhnbgehaaa
open Go.Lo

def TD : Tab := TC.add 10 fun args _ => ⟨args = [], bo true⟩
theorem TD_ok : TD.ok P0 := Tab.add_fun TC_ok Try.call10 fun args h => by subst h; exact sane_ok

/-! ### Plain -/
theorem Runs.days {f : Nat → Bool} {i : Nat} {l : List (Int × Int)} (h : Runs f i l) : ∀ j, j < 1024 → daysF l j = (decide (i ≤ j) && f j) := by
  induction h with
  | nil i h =>
    intro j hj
    by_cases q : i ≤ j
    · simp [daysF, h j q hj]
    · simp [daysF, q]
  | cons i a b l h1 h2 h3 h4 h5 h6 h7 ih =>
    intro j hj
    have e : daysF (((a : Int), (b : Int)) :: l) j = ((decide (a ≤ j) && decide (j < b)) || daysF l j) := by
      simp [daysF]
    rw [e, ih j hj]
    by_cases q1 : j < a
    · have q0 : ¬ b ≤ j := by omega
      have q3 : ¬ a ≤ j := by omega
      by_cases q2 : i ≤ j
      · rw [h4 j q2 q1]; simp [q3]
      · simp [q2, q3, q0]
    · by_cases q2 : j < b
      · have q0 : a ≤ j := by omega
        have q3 : i ≤ j := by omega
        simp [h5 j (by omega) q2, q0, q2, q3]
      · have : b ≤ j := by omega
        have q3 : i ≤ j := by omega
        simp [this, q3, q2]
theorem daysF_runsF (f : Nat → Bool) {j : Nat} (h : j < 1024) : daysF (runsF f) j = f j := by rw [(runsF_runs f).days j h]; simp
theorem daysF_comb (t : Nat) (a b : List Sp) {j : Nat} (h : j < 1024) : daysF (combS t a b) j = opS t (daysF a j) (daysF b j) := daysF_runsF _ h
theorem daysF_norm (a : List Sp) {j : Nat} (h : j < 1024) : daysF (normS a) j = daysF a j := by rw [normS_eq]; exact daysF_runsF _ h
theorem combS_congr {t u : Nat} {a b c d : List Sp} (h : ∀ j, j < 1024 → opS t (daysF a j) (daysF b j) = opS u (daysF c j) (daysF d j)) : combS t a b = combS u c d := runsF_congr h
theorem combS_norm {t : Nat} {a b c : List Sp} (h : ∀ j, j < 1024 → opS t (daysF a j) (daysF b j) = daysF c j) : combS t a b = normS c := by rw [normS_eq]; exact runsF_congr h
set_option maxRecDepth 4000 in
theorem runsF_nil {f : Nat → Bool} : (runsF f).length = 0 ↔ ∀ j, j < 1024 → f j = false := by
  constructor
  · intro h j hj
    rw [← daysF_runsF f hj, List.length_eq_zero_iff.1 h]; rfl
  · intro h
    have : runsF f = [] := (runsF_runs f).unique (.nil 0 fun j _ hj => h j hj)
    rw [this]; rfl
theorem combS_nil {t : Nat} {a b : List Sp} : (combS t a b).length = 0 ↔ ∀ j, j < 1024 → opS t (daysF a j) (daysF b j) = false := runsF_nil
theorem cov_eq (a : List Sp) (s : Sp) : covS a s = rcovS a s := by
  suffices key : decide ((combS 2 [s] a).length = 0) = allS a s by unfold covS rcovS; rw [key]
  rw [Bool.eq_iff_iff]
  rw [allS_iff, decide_eq_true_eq, combS_nil]
  constructor
  · intro h d hd h1 h2
    have := h d hd
    simpa [opS, daysF, h1, h2] using this
  · intro h j hj
    by_cases h1 : s.1 ≤ (j : Int)
    · by_cases h2 : (j : Int) < s.2
      · simp [opS, h j hj h1 h2]
      · simp [opS, daysF, h2]
    · simp [opS, daysF, h1]

theorem spansSpec_law (x : Bool) (a : List Sp) (ha : a.length ≤ maxLen) : PFun P0 3 [encL x a] (bo true) := by
  refine pcalls_body Try.func3 rfl rfl rfl (by show 1 ≤ _; decide) (pwp_run TD_ok ?_)
  simp [TD, TC, TB, e1, e2, eN, eS, ha, sameS]

theorem spansSets_law (x y : Bool) (a b : List Sp) (ha : a.length ≤ maxLen) (hb : b.length ≤ maxLen) : PFun P0 4 [encL x a, encL y b] (bo true) := by
  refine pcalls_body Try.func4 rfl rfl rfl (by show 2 ≤ _; decide) (pwp_run TD_ok ?_)
  simp [TD, TC, TB, e1, e2, eN, eS, ha, hb, sameS]

theorem spansHas_law (x : Bool) (a : List Sp) (d : Int) (s : Sp) (ha : a.length ≤ maxLen) : PFun P0 5 [encL x a, num d, .agg (encS s)] (bo true) := by
  refine pcalls_body Try.func5 rfl rfl rfl (by show 3 ≤ _; decide) (pwp_run TD_ok ?_)
  simp [TD, TC, TB, e1, e2, eN, eS, ha, sameS, encS, cov_eq]
  intro id hf
  refine pwp_draw (k := 16) TD_ok mixed (by kernel_rfl) ?_
  simp [TD, TC, TB, e1, e2, eN, eS, ha, sameS, encS, cov_eq]

set_option maxRecDepth 8000 in
set_option maxHeartbeats 1000000 in
theorem spansDivide_law (x y : Bool) (a b : List Sp) (ha : a.length ≤ maxLen) (hb : b.length ≤ maxLen) : PFun P0 8 [encL x a, encL y b] (bo true) := by
  have h1 : combS 1 (combS 2 a b) (combS 1 a b) = [] := List.length_eq_zero_iff.1 (combS_nil.2 fun j hj => by rw [daysF_comb _ _ _ hj, daysF_comb _ _ _ hj]; cases daysF a j <;> cases daysF b j <;> rfl)
  have h2 : combS 1 (combS 2 a b) b = [] := List.length_eq_zero_iff.1 (combS_nil.2 fun j hj => by rw [daysF_comb _ _ _ hj]; cases daysF a j <;> cases daysF b j <;> rfl)
  have h3 : combS 0 (combS 2 a b) (combS 1 a b) = normS a := combS_norm fun j hj => by rw [daysF_comb _ _ _ hj, daysF_comb _ _ _ hj]; cases daysF a j <;> cases daysF b j <;> rfl
  have h4 : combS 0 (combS 2 a b) b = combS 0 a b := combS_congr fun j hj => by rw [daysF_comb _ _ _ hj]; cases daysF a j <;> cases daysF b j <;> rfl
  refine pcalls_body Try.func8 rfl rfl rfl (by show 2 ≤ _; decide) (pwp_run TD_ok ?_)
  simp [TD, TC, TB, e1, e2, eN, eS, ha, hb, sameS, h1, h2, h3, h4]
  simp [encO]

set_option maxRecDepth 8000 in
set_option maxHeartbeats 4000000 in
theorem spansAlgebra_law (x y z : Bool) (a b c : List Sp) (ha : a.length ≤ maxLen) (hb : b.length ≤ maxLen) (hc : c.length ≤ maxLen) : PFun P0 7 [encL x a, encL y b, encL z c] (bo true) := by
  have h1 : combS 0 b a = combS 0 a b := combS_congr fun j hj => by cases daysF a j <;> cases daysF b j <;> rfl
  have h2 : combS 1 b a = combS 1 a b := combS_congr fun j hj => by cases daysF a j <;> cases daysF b j <;> rfl
  have h3 : combS 0 (combS 0 a b) c = combS 0 a (combS 0 b c) := combS_congr fun j hj => by rw [daysF_comb _ _ _ hj, daysF_comb _ _ _ hj]; cases daysF a j <;> cases daysF b j <;> cases daysF c j <;> rfl
  have h4 : combS 1 (combS 1 a b) c = combS 1 a (combS 1 b c) := combS_congr fun j hj => by rw [daysF_comb _ _ _ hj, daysF_comb _ _ _ hj]; cases daysF a j <;> cases daysF b j <;> cases daysF c j <;> rfl
  have h5 : combS 0 (combS 1 a b) (combS 1 a c) = combS 1 a (combS 0 b c) := combS_congr fun j hj => by rw [daysF_comb _ _ _ hj, daysF_comb _ _ _ hj, daysF_comb _ _ _ hj]; cases daysF a j <;> cases daysF b j <;> cases daysF c j <;> rfl
  have h6 : combS 0 a a = normS a := combS_norm fun j hj => by cases daysF a j <;> rfl
  have h7 : combS 1 a a = normS a := combS_norm fun j hj => by cases daysF a j <;> rfl
  have h8 : normS (normS a) = normS a := by rw [normS_eq (normS a), normS_eq a]; exact runsF_congr fun j hj => daysF_runsF _ hj
  have h9 : combS 2 (combS 2 a b) c = combS 2 a (combS 0 b c) := combS_congr fun j hj => by rw [daysF_comb _ _ _ hj, daysF_comb _ _ _ hj]; cases daysF a j <;> cases daysF b j <;> cases daysF c j <;> rfl
  have h10 : combS 2 a a = [] := List.length_eq_zero_iff.1 (combS_nil.2 fun j hj => by cases daysF a j <;> rfl)
  refine pcalls_body Try.func7 rfl rfl rfl (by show 3 ≤ _; decide) (pwp_run TD_ok ?_)
  simp [TD, TC, TB, e1, e2, eN, eS, ha, hb, hc, sameS, h1, h2, h3, h4, h5, h6, h7, h8, h9, h10]
  simp [encO]
  exact fun p q => ⟨p, q⟩
end Go.Proofs.Ytmmgifhnbgehaaa
