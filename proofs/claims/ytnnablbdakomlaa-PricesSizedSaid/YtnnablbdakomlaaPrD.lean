/-
  Sizing: what the functions compute, part D: lots, costs.
-/
import Derived.Test.YtnnablbdakomlaaPrC
set_option linter.unusedSimpArgs false
set_option linter.unusedVariables false
namespace Go.Proofs.Ytnnablbdakomlaa
open Go.Lo

def fewS (need : List Int) : Bool := decide ((need.length : Int) ≤ 9) || (decide ((16 : Int) < need.length) && decide ((need.length : Int) ≤ 40))
theorem few_ok (b : Bool) (need : List Int) : PFun P0 19 [encI b need] (bo (fewS need)) := by
  refine pcalls_body Try.func19 rfl rfl rfl (by show 1 ≤ _; decide) (pwp_go n_ok ?_)
  unfold fewS
  by_cases h1 : (need.length : Int) ≤ 9
  · simp [h1]
  · by_cases h2 : (16 : Int) < need.length
    · simp [h1, h2]
    · simp [h1, h2]

theorem fits28_ok (b c : Bool) (need l : List Int) (hn : need.length ≤ maxLen) (hl : l.length ≤ maxLen) : PFun P0 53 [encI b need, encI c l] (bo (fitsS need l)) := by
  refine pcalls_body Try.func53 rfl rfl rfl (by show 2 ≤ _; decide) (pwp_go TA_ok ?_)
  simp
  refine pwp_loop (fun N fr σ => ∃ k : Nat, N = l.length - k ∧ k ≤ l.length ∧ fr 0 = encI b need ∧ fr 1 = encI c l ∧ fr 7 = encI c l ∧ fr 8 = num l.length ∧ fr 9 = num k ∧ allTo inL l k = true)
    (N := l.length) ⟨0, by simp [allTo_zero]⟩ ?_
  rintro N fr σ ⟨k, rfl, hk, e0, e1, e7, e8, e9, hi⟩
  refine pwp_go TA_ok ?_
  unfold maxLen at hl
  by_cases hlt : k < l.length
  · simp [e0, e1, e7, e8, e9, hlt, IAx_encI]
    refine ⟨fun hb => ?_, fun hb => ⟨l.length - (k + 1), by omega, k + 1, rfl, by omega, wrap_succ (by omega), ?_⟩⟩
    · simp [fitsS, all_not hlt (show inL l[k] = false from hb)]
    · rw [allTo_succ hlt, hi]; exact hb
  · simp [e0, e1, e7, e8, e9, hlt]
    rw [allTo_all hlt] at hi
    simp [fitsS, hi]
    rfl
theorem lots30_ok (b c : Bool) (need l : List Int) (hn : need.length ≤ maxLen) (hl : l.length ≤ maxLen) : PFun P0 50 [encI b need, encI c l] (bo (fitsS need l)) := by
  refine pcalls_body Try.func50 rfl rfl rfl (by show 2 ≤ _; decide) (pwp_go TA_ok ?_)
  simp
  refine pwp_loop (fun N fr σ => ∃ k : Nat, N = l.length - k ∧ k ≤ l.length ∧ fr 0 = encI b need ∧ fr 1 = encI c l ∧ fr 5 = num k ∧ allTo inL l k = true)
    (N := l.length) ⟨0, by simp [allTo_zero]⟩ ?_
  rintro N fr σ ⟨k, rfl, hk, e0, e1, e5, hi⟩
  refine pwp_go TA_ok ?_
  unfold maxLen at hl
  by_cases hlt : k < l.length
  · simp [e0, e1, e5, hlt, IAx_encI]
    refine ⟨fun hb => ?_, fun hb => ⟨l.length - (k + 1), by omega, k + 1, rfl, by omega, wrap_succ (by omega), ?_⟩⟩
    · simp [fitsS, all_not hlt (show inL l[k] = false from hb)]
    · rw [allTo_succ hlt, hi]; exact hb
  · simp [e0, e1, e5, hlt]
    rw [allTo_all hlt] at hi
    simp [fitsS, hi]
    rfl

theorem sameInts_ok (b c : Bool) (l m : List Int) (hl : l.length ≤ maxLen) (hm : m.length ≤ maxLen) : PFun P0 15 [encI b l, encI c m] (bo (decide (l = m))) := by
  refine pcalls_body Try.func15 rfl rfl rfl (by show 2 ≤ _; decide) (pwp_go n_ok ?_)
  simp
  refine ⟨fun h => ?_, fun h => ?_⟩
  · intro e; subst e; omega
  · have h : l.length = m.length := by omega
    refine pwp_loop (fun N fr σ => ∃ k : Nat, N = l.length - k ∧ k ≤ l.length ∧ fr 0 = encI b l ∧ fr 1 = encI c m ∧ fr 5 = num k ∧ l.take k = m.take k)
      (N := l.length) ⟨0, by simp⟩ ?_
    rintro N fr σ ⟨k, rfl, hk, e0, e1, e5, hi⟩
    refine pwp_go n_ok ?_
    unfold maxLen at hl
    by_cases hlt : k < l.length
    · have hlt' : k < m.length := by omega
      simp [e0, e1, e5, hlt]
      refine pwp_drawT n_ok 8 mixed (by kernel_rfl) ?_
      simp [e0, e1, e5, hlt, hlt', IAx_encI]
      refine ⟨fun hne => ?_, fun h1 => ⟨l.length - (k + 1), by omega, k + 1, rfl, by omega, wrap_succ (by omega), ?_⟩⟩
      · intro e; subst e; exact hne rfl
      · rw [List.take_succ_eq_append_getElem hlt, List.take_succ_eq_append_getElem hlt', hi, h1]
    · simp [e0, e1, e5, hlt]
      rwa [List.take_of_length_le (by omega), List.take_of_length_le (by omega)] at hi

/-! ### Held, covered, paid -/
def nf (l : List Int) (d : Nat) : Int := l.getD d 0
theorem nf_get {l : List Int} {k : Nat} (h : k < l.length) : nf l k = l[k] := by simp [nf, h]
/-- Requirements and lots that are small and few. -/
structure Small (need l : List Int) : Prop where
  len : need.length = l.length
  few : l.length ≤ 16
  need : ∀ d, 0 ≤ nf need d ∧ nf need d ≤ 1048576
  lots : ∀ d, 0 ≤ nf l d ∧ nf l d ≤ 67108864
def S_ (need l : List Int) (k : Nat) : Int := sumTo (fun i => nf l i - nf need i) k
theorem S_succ (need l : List Int) (k : Nat) : S_ need l (k + 1) = S_ need l k + (nf l k - nf need k) := rfl
theorem Small.bound {need l : List Int} (h : Small need l) {k : Nat} (hk : k ≤ 16) : -16777216 ≤ S_ need l k ∧ S_ need l k ≤ 1073741824 := by
  have h1 : S_ need l k ≤ k * 67108864 := sumTo_bound fun i _ => by have := h.need i; have := h.lots i; omega
  have h2 : -(k * 1048576 : Int) ≤ S_ need l k := by
    have : sumTo (fun i => nf need i - nf l i) k ≤ k * 1048576 := sumTo_bound fun i _ => by have := h.need i; have := h.lots i; omega
    have e : S_ need l k = - sumTo (fun i => nf need i - nf l i) k := by
      unfold S_
      clear this h1 hk
      induction k with
      | zero => rfl
      | succ k ih => simp only [sumTo]; rw [ih]; omega
    omega
  omega
def covTo (need l : List Int) (k : Nat) : Bool := (List.range k).all fun d => decide (0 ≤ S_ need l (d + 1))
theorem covTo_succ (need l : List Int) (k : Nat) : covTo need l (k + 1) = (covTo need l k && decide (0 ≤ S_ need l (k + 1))) := by simp [covTo, List.range_succ]
def coversS (need l : List Int) : Bool := covTo need l l.length
theorem covTo_false {need l : List Int} {k n : Nat} (hk : k < n) (h : ¬ 0 ≤ S_ need l (k + 1)) : covTo need l n = false := by
  unfold covTo
  rw [List.all_eq_false]
  exact ⟨k, List.mem_range.2 hk, by simp; omega⟩
theorem coversS_iff (need l : List Int) : coversS need l = true ↔ ∀ d, d < l.length → 0 ≤ heldF (nf need) (nf l) d := by
  simp only [coversS, covTo, List.all_eq_true, List.mem_range, decide_eq_true_eq]
  exact Iff.rfl

theorem covers31_ok (b c : Bool) (need l : List Int) (hs : Small need l) : PFun P0 51 [encI b need, encI c l] (bo (coversS need l)) := by
  refine pcalls_body Try.func51 rfl rfl rfl (by show 2 ≤ _; decide) (pwp_go n_ok ?_)
  simp
  refine pwp_loop (fun N fr σ => ∃ k : Nat, N = l.length - k ∧ k ≤ l.length ∧ fr 0 = encI b need ∧ fr 1 = encI c l ∧ fr 5 = num (S_ need l k) ∧ fr 6 = num k ∧ covTo need l k = true)
    (N := l.length) ⟨0, by simp [covTo, S_, sumTo]⟩ ?_
  rintro N fr σ ⟨k, rfl, hk, e0, e1, e5, e6, hi⟩
  refine pwp_go n_ok ?_
  have hf := hs.few
  by_cases hlt : k < l.length
  · have hlt' : k < need.length := by rw [hs.len]; exact hlt
    have b1 := hs.bound (show k ≤ 16 by omega)
    have b2 := hs.lots k
    have b3 := hs.need k
    rw [nf_get hlt] at b2; rw [nf_get hlt'] at b3
    have w1 : IntKind.i64.wrap (S_ need l k + l[k]) = S_ need l k + l[k] := wrap_i64 (by omega) (by omega)
    have w2 : IntKind.i64.wrap (S_ need l k + l[k] - need[k]) = S_ need l (k + 1) := by rw [wrap_i64 (by omega) (by omega), S_succ, nf_get hlt, nf_get hlt']; omega
    simp [e0, e1, e5, e6, hlt]
    refine pwp_drawT n_ok 11 mixed (by kernel_rfl) ?_
    simp [e0, e1, e5, e6, hlt, hlt', IAx_encI, w1, w2]
    refine ⟨fun h => ?_, fun h => ⟨l.length - (k + 1), by omega, k + 1, rfl, by omega, rfl, wrap_succ (by omega), ?_⟩⟩
    · exact covTo_false hlt (by omega)
    · rw [covTo_succ, hi]; simp; omega
  · simp [e0, e1, e5, e6, hlt]
    rw [coversS, show l.length = k by omega, hi]

/-- What the first k days cost. -/
def C_ (need l : List Int) (s h : Int) (k : Nat) : Int := costF (nf need) (nf l) s h k
theorem C_succ (need l : List Int) (s h : Int) (k : Nat) : C_ need l s h (k + 1) = C_ need l s h k + (h * S_ need l (k + 1) + if nf l k ≠ 0 then s else 0) := rfl
structure Paid (s h : Int) : Prop where
  s : 0 ≤ s ∧ s ≤ 1048576
  h : 0 ≤ h ∧ h ≤ 1048576
theorem mul_bound {a b A B : Int} (ha : 0 ≤ a ∧ a ≤ A) (hb : 0 ≤ b ∧ b ≤ B) : 0 ≤ a * b ∧ a * b ≤ A * B :=
  ⟨Int.mul_nonneg ha.1 hb.1, Int.mul_le_mul ha.2 hb.2 hb.1 (by omega)⟩
theorem Small.paid {need l : List Int} {s h : Int} (hS : Small need l) (hp : Paid s h) (hc : coversS need l = true) : ∀ {k : Nat}, k ≤ l.length → 0 ≤ C_ need l s h k ∧ C_ need l s h k ≤ k * 1125899907891200 := by
  intro k hk
  have hf := hS.few
  have term : ∀ d, d < k → 0 ≤ h * S_ need l (d + 1) ∧ h * S_ need l (d + 1) ≤ 1125899906842624 := fun d hd => by
    have h1 := (coversS_iff need l).1 hc d (by omega)
    have := mul_bound hp.h ⟨h1, (hS.bound (show d + 1 ≤ 16 by omega)).2⟩
    exact this
  have h2 := hp.s
  refine ⟨sumTo_nonneg fun d hd => ?_, sumTo_bound fun d hd => ?_⟩
  · have := term d hd
    show 0 ≤ h * S_ need l (d + 1) + _
    split <;> omega
  · have := term d hd
    show h * S_ need l (d + 1) + _ ≤ _
    split <;> omega

theorem cost26_ok (b c : Bool) (need l : List Int) (s h : Int) (hS : Small need l) (hp : Paid s h) (hc : coversS need l = true) : PFun P0 52 [encI b need, encI c l, num s, num h] (num (C_ need l s h l.length)) := by
  refine pcalls_body Try.func52 rfl rfl rfl (by show 4 ≤ _; decide) (pwp_go n_ok ?_)
  simp
  refine pwp_loop (fun N fr σ => ∃ k : Nat, N = l.length - k ∧ k ≤ l.length ∧ fr 0 = encI b need ∧ fr 1 = encI c l ∧ fr 2 = num s ∧ fr 3 = num h ∧ fr 9 = num (C_ need l s h k) ∧ fr 10 = num (S_ need l k) ∧ fr 11 = num k)
    (N := l.length) ⟨0, by simp [S_, C_, costF, sumTo]⟩ ?_
  rintro N fr σ ⟨k, rfl, hk, e0, e1, e2, e3, e9, e10, e11⟩
  refine pwp_go n_ok ?_
  have hf := hS.few
  by_cases hlt : k < l.length
  · have hlt' : k < need.length := by rw [hS.len]; exact hlt
    have b1 := hS.bound (show k ≤ 16 by omega)
    have b2 := hS.lots k
    have b3 := hS.need k
    rw [nf_get hlt] at b2; rw [nf_get hlt'] at b3
    have c1 := hS.paid hp hc (show k ≤ l.length by omega)
    have c2 := hS.paid hp hc (show k + 1 ≤ l.length by omega)
    have h1 := (coversS_iff need l).1 hc k hlt
    have h2 : 0 ≤ h * S_ need l (k + 1) ∧ h * S_ need l (k + 1) ≤ 1125899906842624 := mul_bound hp.h ⟨h1, (hS.bound (show k + 1 ≤ 16 by omega)).2⟩
    have h3 := hp.s
    have w1 : IntKind.i64.wrap (S_ need l k + l[k]) = S_ need l k + l[k] := wrap_i64 (by omega) (by omega)
    have w2 : IntKind.i64.wrap (S_ need l k + l[k] - need[k]) = S_ need l (k + 1) := by rw [wrap_i64 (by omega) (by omega), S_succ, nf_get hlt, nf_get hlt']; omega
    have w3 : IntKind.i64.wrap (h * S_ need l (k + 1)) = h * S_ need l (k + 1) := wrap_i64 (by omega) (by omega)
    have w4 : IntKind.i64.wrap (C_ need l s h k + s) = C_ need l s h k + s := wrap_i64 (by omega) (by omega)
    have fin : ∀ X : Int, X = C_ need l s h (k + 1) → ∃ N', N' < l.length - k ∧ ∃ k' : Nat, N' = l.length - k' ∧ k' ≤ l.length ∧ IntKind.i64.wrap X = C_ need l s h k' ∧ S_ need l (k + 1) = S_ need l k' ∧ IntKind.i64.wrap ((k : Int) + 1) = (k' : Int) := fun X hX =>
      ⟨l.length - (k + 1), by omega, k + 1, rfl, by omega, by rw [hX, wrap_i64 (by omega) (by omega)], rfl, wrap_succ (by omega)⟩
    by_cases hz : l[k] = 0
    · simp [e0, e1, e2, e3, e9, e10, e11, hlt, IAx_encI, hz]
      refine pwp_drawT n_ok 11 mixed (by kernel_rfl) ?_
      have w1' : IntKind.i64.wrap (S_ need l k) = S_ need l k := by rw [hz] at w1; simpa using w1
      have w2' : IntKind.i64.wrap (S_ need l k - need[k]) = S_ need l (k + 1) := by rw [hz] at w2; simpa using w2
      simp [e0, e1, e2, e3, e9, e10, e11, hlt, hlt', IAx_encI, hz, w1', w2', w3]
      exact fin _ (by rw [C_succ, nf_get hlt, if_neg (by simp [hz])]; omega)
    · simp [e0, e1, e2, e3, e9, e10, e11, hlt, IAx_encI, hz]
      refine pwp_drawT n_ok 11 mixed (by kernel_rfl) ?_
      simp [e0, e1, e2, e3, e9, e10, e11, hlt, hlt', IAx_encI, w1, w2, w3, w4]
      exact fin _ (by rw [C_succ, nf_get hlt, if_pos hz]; omega)
  · simp [e0, e1, e2, e3, e9, e10, e11, hlt]
    rw [show l.length = k by omega]
end Go.Proofs.Ytnnablbdakomlaa
