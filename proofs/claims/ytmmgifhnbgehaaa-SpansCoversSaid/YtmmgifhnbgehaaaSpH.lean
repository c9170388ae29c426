/-
  Spans: what the functions compute, part H: the reference's sets.
-/
import Derived.Test.YtmmgifhnbgehaaaSpG
set_option linter.unusedSimpArgs false
set_option linter.unusedVariables false
namespace Go.Proofs.Ytmmgifhnbgehaaa
open Go.Lo

def T30 (G : Nat → Bool) : Tab := Tab.nil.add 30 fun args _ => ⟨∃ x, args = [.slice x (rowsP G)], encL false (runsF G)⟩
theorem T30_ok (G : Nat → Bool) : (T30 G).ok P0 := Tab.add_fun n_ok Try.call30 fun args h => by
  obtain ⟨x, rfl⟩ := h; exact refSpans_ok x G

set_option maxHeartbeats 1000000 in
theorem refUnion_ok (x y : Bool) (a b : List Sp) (ha : a.length ≤ maxLen) (hb : b.length ≤ maxLen) : PFun P0 18 [encL x a, encL y b] (encL false (combS 0 a b)) := by
  obtain ⟨G, hG⟩ : ∃ G : Nat → Bool, G = fun i => opS 0 (daysF a i) (daysF b i) := ⟨_, rfl⟩
  have hG' : ∀ i, G i = opS 0 (daysF a i) (daysF b i) := fun i => by rw [hG]
  have hres : combS 0 a b = runsF G := by rw [hG]; rfl
  rw [hres]
  refine pcalls_body Try.func18 rfl rfl rfl (by show 2 ≤ _; decide) (pwp_run (T30_ok G) ?_)
  simp [T30]
  refine pops_call (T30 G) (T30_ok G) rfl rfl rfl rfl Try.call31 (by simp) (args := [encL x a]) (by simp) (days_ok x a ha) ?_
  rintro o' σ1 ⟨id1, full1, rfl, hs1⟩
  simp [T30]
  refine pops_call (T30 G) (T30_ok G) rfl rfl rfl rfl Try.call31 (by simp) (args := [encL y b]) (by simp) (pcalls_new (days_ok y b hb)) ?_
  rintro o' σ2 ⟨σ', ⟨id2, full2, rfl, hs2⟩, hk1, hk2, hk3⟩
  have hne : id1 ≠ id2 := by
    rintro rfl
    have := hk3 id1 (by rw [hs1]; simp)
    rw [this] at hs2; cases hs2
  simp
  refine pwp_loop (fun N fr σ => ∃ (d : Nat) (g : Nat → Bool), N = 1024 - d ∧ d ≤ 1024 ∧ fr 5 = .msl id1 1 0 1024 full1 ∧ fr 6 = .msl id2 1 0 1024 full2 ∧ fr 7 = num d ∧ σ id1 = some (.cells (bitsP g)) ∧ σ id2 = some (.cells (bitsP (daysF b))) ∧ ∀ i, i < 1024 → g i = if i < d then G i else daysF a i)
    (N := 1024) ⟨0, daysF a, rfl, by omega, by simp, by simp, by simp, hk1 _ _ hs1, hk2 _ _ hs2, by simp⟩ ?_
  rintro N fr σ ⟨d, g, rfl, hd, e5, e6, e7, q1, q2, hg⟩
  by_cases hlt : d < 1024
  · have hlt' : (d : Int) < 1024 := by omega
    refine pwp_run n_ok ?_
    have hgd : g d = daysF a d := by rw [hg d hlt, if_neg (by omega)]
    obtain ⟨A, hA⟩ : ∃ A, A = daysF a d := ⟨_, rfl⟩
    obtain ⟨B, hB⟩ : ∃ B, B = daysF b d := ⟨_, rfl⟩
    have hGd := hG' d
    rw [← hA, ← hB] at hGd
    rw [← hA] at hgd
    have fin : ∃ N', N' < 1024 - d ∧ ∃ d_1 : Nat, N' = 1024 - d_1 ∧ d_1 ≤ 1024 ∧ IntKind.i64.wrap ((d : Int) + 1) = (d_1 : Int) ∧ ∃ x, setR (bitsP g) d [bo (G d)] = bitsP x ∧ ∀ (i : Nat), i < 1024 → x i = if i < d_1 then G i else daysF a i := by
      refine ⟨1024 - (d + 1), by omega, d + 1, rfl, by omega, by rw [wrap_i64 (by omega) (by omega)]; omega, _, bitsP_set g (G d) hlt, fun i hi => ?_⟩
      by_cases e : i = d
      · subst e; rw [if_pos rfl, if_pos (by omega)]
      · rw [if_neg e, hg i hi]
        by_cases h : i < d
        · rw [if_pos h, if_pos (by omega)]
        · rw [if_neg h, if_neg (by omega)]
    rw [hGd] at fin
    cases A <;> cases B <;> simp [e5, e6, e7, hlt, hlt', q1, q2, hne, Ne.symm hne, hgd, ← hB] <;> exact ⟨by omega, by simpa [opS] using fin⟩
  · have hlt' : ¬ (d : Int) < 1024 := by omega
    refine pwp_frz 1 (Heap.one id1 (.cells (bitsP g))) (.one q1) ?_
    have hgG : rowsP g = rowsP G := rowsP_congr fun i hi => by rw [hg i hi, if_pos (by omega)]
    refine pwp_run n_ok ?_
    simp [e5, e6, e7, hlt, hlt', frzN, Heap.one_apply, map_frz0, hgG]

set_option maxHeartbeats 1000000 in
theorem refMeet_ok (x y : Bool) (a b : List Sp) (ha : a.length ≤ maxLen) (hb : b.length ≤ maxLen) : PFun P0 20 [encL x a, encL y b] (encL false (combS 1 a b)) := by
  obtain ⟨G, hG⟩ : ∃ G : Nat → Bool, G = fun i => opS 1 (daysF a i) (daysF b i) := ⟨_, rfl⟩
  have hG' : ∀ i, G i = opS 1 (daysF a i) (daysF b i) := fun i => by rw [hG]
  have hres : combS 1 a b = runsF G := by rw [hG]; rfl
  rw [hres]
  refine pcalls_body Try.func20 rfl rfl rfl (by show 2 ≤ _; decide) (pwp_run (T30_ok G) ?_)
  simp [T30]
  refine pops_call (T30 G) (T30_ok G) rfl rfl rfl rfl Try.call31 (by simp) (args := [encL x a]) (by simp) (days_ok x a ha) ?_
  rintro o' σ1 ⟨id1, full1, rfl, hs1⟩
  simp [T30]
  refine pops_call (T30 G) (T30_ok G) rfl rfl rfl rfl Try.call31 (by simp) (args := [encL y b]) (by simp) (pcalls_new (days_ok y b hb)) ?_
  rintro o' σ2 ⟨σ', ⟨id2, full2, rfl, hs2⟩, hk1, hk2, hk3⟩
  have hne : id1 ≠ id2 := by
    rintro rfl
    have := hk3 id1 (by rw [hs1]; simp)
    rw [this] at hs2; cases hs2
  simp
  refine pwp_loop (fun N fr σ => ∃ (d : Nat) (g : Nat → Bool), N = 1024 - d ∧ d ≤ 1024 ∧ fr 5 = .msl id1 1 0 1024 full1 ∧ fr 6 = .msl id2 1 0 1024 full2 ∧ fr 7 = num d ∧ σ id1 = some (.cells (bitsP g)) ∧ σ id2 = some (.cells (bitsP (daysF b))) ∧ ∀ i, i < 1024 → g i = if i < d then G i else daysF a i)
    (N := 1024) ⟨0, daysF a, rfl, by omega, by simp, by simp, by simp, hk1 _ _ hs1, hk2 _ _ hs2, by simp⟩ ?_
  rintro N fr σ ⟨d, g, rfl, hd, e5, e6, e7, q1, q2, hg⟩
  by_cases hlt : d < 1024
  · have hlt' : (d : Int) < 1024 := by omega
    refine pwp_run n_ok ?_
    have hgd : g d = daysF a d := by rw [hg d hlt, if_neg (by omega)]
    obtain ⟨A, hA⟩ : ∃ A, A = daysF a d := ⟨_, rfl⟩
    obtain ⟨B, hB⟩ : ∃ B, B = daysF b d := ⟨_, rfl⟩
    have hGd := hG' d
    rw [← hA, ← hB] at hGd
    rw [← hA] at hgd
    have fin : ∃ N', N' < 1024 - d ∧ ∃ d_1 : Nat, N' = 1024 - d_1 ∧ d_1 ≤ 1024 ∧ IntKind.i64.wrap ((d : Int) + 1) = (d_1 : Int) ∧ ∃ x, setR (bitsP g) d [bo (G d)] = bitsP x ∧ ∀ (i : Nat), i < 1024 → x i = if i < d_1 then G i else daysF a i := by
      refine ⟨1024 - (d + 1), by omega, d + 1, rfl, by omega, by rw [wrap_i64 (by omega) (by omega)]; omega, _, bitsP_set g (G d) hlt, fun i hi => ?_⟩
      by_cases e : i = d
      · subst e; rw [if_pos rfl, if_pos (by omega)]
      · rw [if_neg e, hg i hi]
        by_cases h : i < d
        · rw [if_pos h, if_pos (by omega)]
        · rw [if_neg h, if_neg (by omega)]
    rw [hGd] at fin
    cases A <;> cases B <;> simp [e5, e6, e7, hlt, hlt', q1, q2, hne, Ne.symm hne, hgd, ← hB] <;> exact ⟨by omega, by simpa [opS] using fin⟩
  · have hlt' : ¬ (d : Int) < 1024 := by omega
    refine pwp_frz 1 (Heap.one id1 (.cells (bitsP g))) (.one q1) ?_
    have hgG : rowsP g = rowsP G := rowsP_congr fun i hi => by rw [hg i hi, if_pos (by omega)]
    refine pwp_run n_ok ?_
    simp [e5, e6, e7, hlt, hlt', frzN, Heap.one_apply, map_frz0, hgG]

set_option maxHeartbeats 1000000 in
theorem refMinus_ok (x y : Bool) (a b : List Sp) (ha : a.length ≤ maxLen) (hb : b.length ≤ maxLen) : PFun P0 22 [encL x a, encL y b] (encL false (combS 2 a b)) := by
  obtain ⟨G, hG⟩ : ∃ G : Nat → Bool, G = fun i => opS 2 (daysF a i) (daysF b i) := ⟨_, rfl⟩
  have hG' : ∀ i, G i = opS 2 (daysF a i) (daysF b i) := fun i => by rw [hG]
  have hres : combS 2 a b = runsF G := by rw [hG]; rfl
  rw [hres]
  refine pcalls_body Try.func22 rfl rfl rfl (by show 2 ≤ _; decide) (pwp_run (T30_ok G) ?_)
  simp [T30]
  refine pops_call (T30 G) (T30_ok G) rfl rfl rfl rfl Try.call31 (by simp) (args := [encL x a]) (by simp) (days_ok x a ha) ?_
  rintro o' σ1 ⟨id1, full1, rfl, hs1⟩
  simp [T30]
  refine pops_call (T30 G) (T30_ok G) rfl rfl rfl rfl Try.call31 (by simp) (args := [encL y b]) (by simp) (pcalls_new (days_ok y b hb)) ?_
  rintro o' σ2 ⟨σ', ⟨id2, full2, rfl, hs2⟩, hk1, hk2, hk3⟩
  have hne : id1 ≠ id2 := by
    rintro rfl
    have := hk3 id1 (by rw [hs1]; simp)
    rw [this] at hs2; cases hs2
  simp
  refine pwp_loop (fun N fr σ => ∃ (d : Nat) (g : Nat → Bool), N = 1024 - d ∧ d ≤ 1024 ∧ fr 5 = .msl id1 1 0 1024 full1 ∧ fr 6 = .msl id2 1 0 1024 full2 ∧ fr 7 = num d ∧ σ id1 = some (.cells (bitsP g)) ∧ σ id2 = some (.cells (bitsP (daysF b))) ∧ ∀ i, i < 1024 → g i = if i < d then G i else daysF a i)
    (N := 1024) ⟨0, daysF a, rfl, by omega, by simp, by simp, by simp, hk1 _ _ hs1, hk2 _ _ hs2, by simp⟩ ?_
  rintro N fr σ ⟨d, g, rfl, hd, e5, e6, e7, q1, q2, hg⟩
  by_cases hlt : d < 1024
  · have hlt' : (d : Int) < 1024 := by omega
    refine pwp_run n_ok ?_
    have hgd : g d = daysF a d := by rw [hg d hlt, if_neg (by omega)]
    obtain ⟨A, hA⟩ : ∃ A, A = daysF a d := ⟨_, rfl⟩
    obtain ⟨B, hB⟩ : ∃ B, B = daysF b d := ⟨_, rfl⟩
    have hGd := hG' d
    rw [← hA, ← hB] at hGd
    rw [← hA] at hgd
    have fin : ∃ N', N' < 1024 - d ∧ ∃ d_1 : Nat, N' = 1024 - d_1 ∧ d_1 ≤ 1024 ∧ IntKind.i64.wrap ((d : Int) + 1) = (d_1 : Int) ∧ ∃ x, setR (bitsP g) d [bo (G d)] = bitsP x ∧ ∀ (i : Nat), i < 1024 → x i = if i < d_1 then G i else daysF a i := by
      refine ⟨1024 - (d + 1), by omega, d + 1, rfl, by omega, by rw [wrap_i64 (by omega) (by omega)]; omega, _, bitsP_set g (G d) hlt, fun i hi => ?_⟩
      by_cases e : i = d
      · subst e; rw [if_pos rfl, if_pos (by omega)]
      · rw [if_neg e, hg i hi]
        by_cases h : i < d
        · rw [if_pos h, if_pos (by omega)]
        · rw [if_neg h, if_neg (by omega)]
    rw [hGd] at fin
    cases A <;> cases B <;> simp [e5, e6, e7, hlt, hlt', q1, q2, hne, Ne.symm hne, hgd, ← hB] <;> exact ⟨by omega, by simpa [opS] using fin⟩
  · have hlt' : ¬ (d : Int) < 1024 := by omega
    refine pwp_frz 1 (Heap.one id1 (.cells (bitsP g))) (.one q1) ?_
    have hgG : rowsP g = rowsP G := rowsP_congr fun i hi => by rw [hg i hi, if_pos (by omega)]
    refine pwp_run n_ok ?_
    simp [e5, e6, e7, hlt, hlt', frzN, Heap.one_apply, map_frz0, hgG]

theorem normS_eq (a : List Sp) : normS a = runsF (daysF a) := by
  unfold normS combS
  exact runsF_congr fun j _ => by simp [opS, daysF]
theorem refNormal_ok (x : Bool) (a : List Sp) (ha : a.length ≤ maxLen) : PFun P0 16 [encL x a] (encL false (normS a)) := by
  rw [normS_eq]
  refine pcalls_body Try.func16 rfl rfl rfl (by show 1 ≤ _; decide) (pwp_run (T := (T30 (daysF a)).add 31 fun args _ => ⟨args = [encL x a], .slice false (rowsP (daysF a))⟩) (Tab.add_fun (T30_ok _) Try.call31 fun args h => by
    subst h; exact daysR_ok x a ha) ?_)
  simp [T30]
end Go.Proofs.Ytmmgifhnbgehaaa
