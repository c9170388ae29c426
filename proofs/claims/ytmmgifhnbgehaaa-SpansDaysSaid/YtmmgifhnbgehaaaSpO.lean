/-
  Spans: the contract of the law SpansDays.
-/
import Derived.Test.YtmmgifhnbgehaaaSpN
set_option linter.unusedSimpArgs false
set_option linter.unusedVariables false
namespace Go.Proofs.Ytmmgifhnbgehaaa
open Go.Lo

/-- The lists that the law looks at. -/
def Good (l : List Sp) : Prop := Norm l ∧ l.length ≤ maxLen
theorem combS_good (t : Nat) (a b : List Sp) : Good (combS t a b) := ⟨runsF_norm _, combS_len t a b⟩
theorem normS_good (a : List Sp) : Good (normS a) := combS_good 0 a []

theorem evLen35 (σ : Heap) (f : Bool) (rows : List (List PV)) : evLen P0 σ 35 (.slice f rows) = ⟨True, num rows.length⟩ := by
  unfold evLen
  rw [show P0.underlying 35 = some (.slice 22) by kernel_rfl]
set_option maxRecDepth 8000 in
set_option maxHeartbeats 2000000 in
theorem spansDays_law (x y : Bool) (a b : List Sp) (d : Int) (ha : a.length ≤ maxLen) (hb : b.length ≤ maxLen) : PFun P0 6 [encL x a, encL y b, num d] (bo true) := by
  refine pcalls_body Try.func6 rfl rfl rfl (by show 3 ≤ _; decide) (pwp_run TD_ok ?_)
  simp (config := { maxSteps := 3000000 }) [-evLen, TD, TC, TB, e1, e2, eN, eS, ha, hb]
  intro _ _
  refine ⟨by kernel_rfl, by rw [evLen35]; trivial, ?_⟩
  have gu := combS_good 0 a b
  have gm := combS_good 1 a b
  have gd := combS_good 2 a b
  have gw := normS_good a
  have gL : ∀ l ∈ [combS 0 a b, combS 1 a b, combS 2 a b, normS a], Good l := by
    intro l hl; simp at hl; rcases hl with rfl | rfl | rfl | rfl <;> assumption
  have eL : ([[encO (combS 0 a b)], [encO (combS 1 a b)], [encO (combS 2 a b)], [encO (normS a)]] : List (List PV)) = [combS 0 a b, combS 1 a b, combS 2 a b, normS a].map fun l => [encO l] := rfl
  rw [evLen35, eL]
  generalize hL : [combS 0 a b, combS 1 a b, combS 2 a b, normS a] = L at *
  have lL : L.length = 4 := by rw [← hL]; rfl
  refine pwp_loop (fun N fr σ => ∃ k : Nat, N = 4 - k ∧ k ≤ 4 ∧ fr 0 = encL x a ∧ fr 1 = encL y b ∧ fr 2 = num d ∧ fr 7 = encO (combS 0 a b) ∧ fr 8 = encO (combS 1 a b) ∧ fr 9 = encO (combS 2 a b) ∧
    fr 42 = .slice true (L.map fun l => [encO l]) ∧ fr 43 = num 4 ∧ fr 44 = num k) (N := 4) ⟨0, by simp [lL]⟩ ?_
  rintro N fr σ ⟨k, rfl, hk, e0, e1', e2', e7, e8, e9, e42, e43, e44⟩
  by_cases hlt : k < 4
  · have hlt' : (k : Int) < 4 := by omega
    have hkL : k < L.length := by omega
    obtain ⟨l, hl⟩ : ∃ l, L[k] = l := ⟨_, rfl⟩
    have gl : Good l := hl ▸ gL _ (List.getElem_mem hkL)
    have hl? : L[k]? = some l := by rw [List.getElem?_eq_getElem hkL, hl]
    refine pwp_run TD_ok ?_
    simp (config := { maxSteps := 3000000 }) [-evLen, TD, TC, TB, e1, e0, e1', e2', e7, e8, e9, e42, e43, e44, hlt', hkL, hl?, lL]
    refine pwp_loop (fun N fr σ => ∃ j : Nat, N = l.length - j ∧ j ≤ l.length ∧ fr 0 = encL x a ∧ fr 1 = encL y b ∧ fr 2 = num d ∧ fr 7 = encO (combS 0 a b) ∧ fr 8 = encO (combS 1 a b) ∧ fr 9 = encO (combS 2 a b) ∧
      fr 42 = .slice true (L.map fun l => [encO l]) ∧ fr 43 = num 4 ∧ fr 44 = num k ∧ fr 11 = encL false l ∧ fr 48 = encL false l ∧ fr 49 = num l.length ∧ fr 50 = num j) (N := l.length) ?_ ?_
    · refine ⟨0, ?_⟩
      simp [e0, e1', e2', e7, e8, e9, e42, e43, e44, hl, hkL, encO]
    rintro N fr σ ⟨j, rfl, hj, e0, e1', e2', e7, e8, e9, e42, e43, e44, e11, e48, e49, e50⟩
    have hlen := gl.2
    unfold maxLen at hlen
    by_cases hjl : j < l.length
    · obtain ⟨q1, q2, q3, q4⟩ := gl.1 j hjl
      have r1 : ¬ l[j].1 < 0 := by omega
      have r2 : ¬ l[j].2 ≤ l[j].1 := by omega
      have r3 : ¬ 1024 < l[j].2 := by omega
      refine pwp_run TD_ok ?_
      simp [e0, e1', e2', e7, e8, e9, e42, e43, e44, e11, e48, e49, e50, hjl, encS]
      intro id hid
      refine pwp_draw (k := 29) TD_ok mixed (by kernel_rfl) ?_
      by_cases h0 : j = 0
      · subst h0
        simp [e0, e1', e2', e7, e8, e9, e42, e43, e44, e11, e48, e49, e50, hjl, encS, r1, r2, r3, q1, q2, q3, show IntKind.i64.wrap (-1) = -1 by decide]
        exact ⟨l.length - 1, by omega, 1, by omega, by omega, by rw [wrap_i64 (by omega) (by omega)]; rfl⟩
      · have q5 := q4 (by omega)
        have w1 : IntKind.i64.wrap ((j : Int) - 1) = ((j - 1 : Nat) : Int) := by rw [wrap_i64 (by omega) (by omega)]; omega
        have hj0 : 0 < j := by omega
        have hj1 : j - 1 < l.length := by omega
        simp [e0, e1', e2', e7, e8, e9, e42, e43, e44, e11, e48, e49, e50, hjl, encS, r1, r2, r3, q1, q2, q3, w1, hj0, hj1, q5]
        exact ⟨l.length - (j + 1), by omega, j + 1, by omega, by omega, by rw [wrap_i64 (by omega) (by omega)]; omega⟩
    · have hc := gl.1.check
      refine pwp_run TD_ok ?_
      simp (config := { maxSteps := 3000000 }) [-evLen, TD, TC, TB, e1, e0, e1', e2', e7, e8, e9, e42, e43, e44, e11, e48, e49, e50, hjl, hc, gl.2]
      exact ⟨4 - (k + 1), by omega, k + 1, by omega, by omega, by rw [wrap_i64 (by omega) (by omega)]; omega⟩
  · have hlt' : ¬ (k : Int) < 4 := by omega
    refine pwp_run TD_ok ?_
    simp (config := { maxSteps := 3000000 }) [TD, TC, TB, e1, e0, e1', e2', e7, e8, e9, e42, e43, e44, hlt']
    obtain ⟨w, hw⟩ : ∃ w : Int, IntKind.i64.wrap (((d % 2 ^ IntKind.i64.bits).toNat &&& ((511 : Int) % 2 ^ IntKind.i64.bits).toNat : Nat) : Int) = w := ⟨_, rfl⟩
    have eK : ∀ i < 4, ∃ q : Int, ([[num d], [num w], [num 0], [num 1023]] : List (List PV))[i]? = some [num q] := by
      intro i hi
      match i, hi with
      | 0, _ => exact ⟨_, rfl⟩
      | 1, _ => exact ⟨_, rfl⟩
      | 2, _ => exact ⟨_, rfl⟩
      | 3, _ => exact ⟨_, rfl⟩
    generalize hK : ([[num d], [num w], [num 0], [num 1023]] : List (List PV)) = K at eK
    have lK : K.length = 4 := by rw [← hK]; rfl
    refine pwp_loop (fun N fr σ => ∃ k : Nat, N = 4 - k ∧ k ≤ 4 ∧ fr 0 = encL x a ∧ fr 1 = encL y b ∧ fr 7 = encO (combS 0 a b) ∧ fr 8 = encO (combS 1 a b) ∧ fr 9 = encO (combS 2 a b) ∧
      fr 93 = .slice true K ∧ fr 94 = num 4 ∧ fr 95 = num k) (N := 4) ?_ ?_
    · refine ⟨0, ?_⟩
      simp [e0, e1', e2', e7, e8, e9, e42, e43, e44, ← hK, hw]
    · clear e0 e1' e2' e7 e8 e9 e42 e43 e44
      rintro N fr σ ⟨k, rfl, hk, e0, e1', e7, e8, e9, e93, e94, e95⟩
      by_cases hlt : k < 4
      · have hlt' : (k : Int) < 4 := by omega
        obtain ⟨q, hq⟩ := eK k hlt
        have h1 := hasS_comb 0 a b q rfl
        have h2 := hasS_comb 1 a b q rfl
        have h3 := hasS_comb 2 a b q rfl
        have h4 := hasS_norm a q
        have fin : ∃ N', N' < 4 - k ∧ ∃ k' : Nat, N' = 4 - k' ∧ k' ≤ 4 ∧ IntKind.i64.wrap ((k : Int) + 1) = (k' : Int) := ⟨4 - (k + 1), by omega, k + 1, rfl, by omega, by rw [wrap_i64 (by omega) (by omega)]; omega⟩
        refine pwp_run TD_ok ?_
        cases hA : hasS a q <;> cases hB : hasS b q <;> rw [hA, hB] at h1 h2 h3 <;> rw [hA] at h4 <;> simp only [opS, Bool.or_false, Bool.or_true, Bool.and_false, Bool.and_true, Bool.not_false, Bool.not_true] at h1 h2 h3
        all_goals
          simp (config := { maxSteps := 3000000 }) [TD, TC, TB, e1, eN, e0, e1', e7, e8, e9, e93, e94, e95, hlt', hq, lK, ha, hb, h1, h2, h3, h4, hA, hB]
        all_goals exact fin
      · have hlt' : ¬ (k : Int) < 4 := by omega
        refine pwp_run TD_ok ?_
        simp (config := { maxSteps := 3000000 }) [e93, e94, e95, hlt']
end Go.Proofs.Ytmmgifhnbgehaaa
