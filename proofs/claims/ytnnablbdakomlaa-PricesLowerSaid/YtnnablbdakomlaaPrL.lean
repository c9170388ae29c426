/-
  Sizing: the contract of the law SizingLeast.
-/
import Derived.Test.YtnnablbdakomlaaPrK
set_option linter.unusedSimpArgs false
set_option linter.unusedVariables false
namespace Go.Proofs.Ytnnablbdakomlaa
open Go.Lo

theorem fits_of {need l : List Int} (h : Small need l) : fitsS need l = true := by
  simp only [fitsS, Bool.and_eq_true, List.all_eq_true, decide_eq_true_eq]
  refine ⟨fun x hx => ?_, by have := h.len; omega⟩
  obtain ⟨k, hk, rfl⟩ := List.getElem_of_mem hx
  have := h.lots k
  rw [nf_get hk] at this
  simp only [inL, inS, Bool.and_eq_true, decide_eq_true_eq]; exact this
theorem costR_ok {need l : List Int} {s h : Int} (hv : validS need s h = true) (hS : Small need l) (hc : coversS need l = true) : costR need l s h = .tup [num (C_ need l s h l.length), num 0] := by
  unfold costR; rw [if_pos]; simp [hv, fits_of hS, hc]
theorem coverR_ok {need l : List Int} {s h : Int} (hv : validS need s h = true) (hS : Small need l) : coverR need l = .tup [bo (coversS need l), num 0] := by
  unfold coverR; rw [if_pos]; simp [valid00 hv, fits_of hS]
/-- What Size returns. -/
theorem size_facts {need : List Int} {s h : Int} (hv : validS need s h = true) :
    costR need (lotsL need (bestS need s h)) s h = .tup [num (price (nf need) s h need.length), num 0] ∧ coverR need (lotsL need (bestS need s h)) = .tup [bo true, num 0] := by
  have H := ok_of hv
  obtain ⟨q1, q2, q3⟩ := pos_small H (best_posB H)
  refine ⟨?_, by rw [coverR_ok hv q1, q2]⟩
  rw [costR_ok hv q1 q2, lotsL_length, q3]
  have := best_cost (need := nf need) H.nonneg H.paid.s.1 H.paid.h.1 need.length
  unfold bestS
  rw [this]
/-- Any lots: refused, or they cost at least as much. -/
theorem cost_any (need l : List Int) (s h : Int) : (∃ e, e ≠ 0 ∧ costR need l s h = .tup [num 0, num e]) ∨ ∃ n, costR need l s h = .tup [num n, num 0] ∧ price (nf need) s h need.length ≤ n := by
  unfold costR
  split
  · rename_i hx
    simp only [Bool.and_eq_true] at hx
    have H := ok_of hx.1.1
    have hS := small_of hx.1.1 hx.1.2
    refine .inr ⟨_, rfl, ?_⟩
    have := cost_ge (need := nf need) (lots := nf l) H.nonneg H.paid.s.1 H.paid.h.1 l.length ((coversS_iff need l).1 hx.2)
    rw [hS.len]; exact this
  · exact .inl ⟨220, by decide, rfl⟩
theorem pricesL_get {need : List Int} {s h : Int} {k : Nat} (hk : k < (pricesL need s h).length) : (pricesL need s h)[k] = price (nf need) s h (k + 1) := by simp [pricesL]

end Go.Proofs.Ytnnablbdakomlaa
