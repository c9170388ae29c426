/-
  Spans: what the functions compute, part I: list, the reference's Covers.
-/
import Derived.Test.YtmmgifhnbgehaaaSpH
set_option linter.unusedSimpArgs false
set_option linter.unusedVariables false
namespace Go.Proofs.Ytmmgifhnbgehaaa
open Go.Lo

def flatP : List Sp → List (List PV)
  | [] => []
  | s :: l => [num s.1] :: [num s.2] :: flatP l
theorem flatP_length : ∀ l : List Sp, (flatP l).length = 2 * l.length
  | [] => rfl
  | s :: l => by simp [flatP, flatP_length l]; omega
theorem flatP_get : ∀ (l : List Sp) (k : Nat) (h : k < l.length), (flatP l)[2 * k]? = some [num l[k].1] ∧ (flatP l)[2 * k + 1]? = some [num l[k].2]
  | s :: l, 0, _ => ⟨rfl, rfl⟩
  | s :: l, k + 1, h => by
    have := flatP_get l k (by simpa using h)
    rw [show 2 * (k + 1) = 2 * k + 1 + 1 by omega]
    simpa [flatP] using this

set_option maxHeartbeats 1000000 in
theorem list_ok (x : Bool) (l : List Sp) (hl : l.length ≤ 1000) : PFun P0 27 [.slice x (flatP l)] (encL false l) := by
  refine pcalls_own (k := 2) ?_
  refine pcalls_body Try.func27 rfl rfl rfl (by show 1 ≤ _; decide) (pwp_run n_ok ?_)
  simp
  refine pwp_loop (fun N fr σ => ∃ k v, N = l.length - k ∧ k ≤ l.length ∧ fr 0 = .slice x (flatP l) ∧ fr 2 = v ∧ fr 3 = num (2 * k : Nat) ∧ Own 2 σ v ((l.take k).map encS)) (N := l.length) ⟨0, .lit (.slice none 0 0), by simp, by simp, by simp, by simp, by simp, Own.nil 2 _⟩ ?_
  rintro N fr σ ⟨k, v, rfl, hk, e0, e2, e3, ho⟩
  obtain ⟨v1, v2⟩ := ho.sv
  refine pwp_run n_ok ?_
  have hlen := flatP_length l
  have w1 : IntKind.i64.wrap ((2 * k : Nat) + 1 : Int) = (2 * k : Nat) + 1 := wrap_i64 (by omega) (by omega)
  have w2 : IntKind.i64.wrap ((2 * k : Nat) + 2 : Int) = (2 * k : Nat) + 2 := wrap_i64 (by omega) (by omega)
  by_cases hlt : k < l.length
  · have hc : ((2 * k : Nat) : Int) + 1 < ((flatP l).length : Int) := by omega
    obtain ⟨g1, g2⟩ := flatP_get l k hlt
    generalize flatP l = rows at *
    generalize hj : 2 * k = j at *
    have hj1 : j < rows.length := by omega
    have hj2 : j + 1 < rows.length := by omega
    simp [e0, e2, e3, w1, hc]
    refine pwp_draw (k := 12) n_ok mixed (by kernel_rfl) ?_
    simp [e0, e2, e3, w1, w2, hc, g1, g2, v1, v2]
    refine ⟨hj1, by omega, own_append (rows := (l.take k).map encS) (new := [encS l[k]]) (k := 2) ho elem22 (by decide) rfl (by decide) isl22 (yv_row (by simp [encS])) (by simp [encS]) (by simp; omega) fun V σ' hV _ _ => ?_⟩
    refine ⟨by rw [hV.sv.2]; trivial, l.length - (k + 1), by omega, k + 1, rfl, by omega, by omega, ?_⟩
    have e : List.take (k + 1) (List.map encS l) = List.map encS (List.take k l) ++ [encS l[k]] := by
      rw [← List.map_take, List.take_succ_eq_append_getElem hlt, List.map_append]; rfl
    rw [hV.sv.1, e]
    exact hV
  · have hc : ¬ ((2 * k : Nat) : Int) + 1 < ((flatP l).length : Int) := by omega
    have : k = l.length := by omega
    subst this
    rw [List.take_length] at ho
    generalize flatP l = rows at *
    generalize 2 * l.length = j at *
    simp [e0, e2, e3, w1, hc, v1, v2, ho]

def allS (a : List Sp) (s : Sp) : Bool := (List.range 1024).all fun d => !(decide (s.1 ≤ (d : Int)) && decide ((d : Int) < s.2)) || daysF a d
def rcovS (a : List Sp) (s : Sp) : Bool := decide (s.2 ≤ s.1) || (decide (0 ≤ s.1) && decide (s.2 ≤ 1024) && allS a s)
theorem allS_iff (a : List Sp) (s : Sp) : allS a s = true ↔ ∀ d : Nat, d < 1024 → s.1 ≤ (d : Int) → (d : Int) < s.2 → daysF a d = true := by
  simp only [allS, List.all_eq_true, List.mem_range, Bool.or_eq_true, Bool.not_eq_true', Bool.and_eq_false_iff, decide_eq_false_iff_not]
  constructor
  · intro h d hd h1 h2
    rcases h d hd with (h3 | h3) | h3
    · exact absurd h1 h3
    · exact absurd h2 h3
    · exact h3
  · intro h d hd
    by_cases h1 : s.1 ≤ (d : Int)
    · by_cases h2 : (d : Int) < s.2
      · exact .inr (h d hd h1 h2)
      · exact .inl (.inr h2)
    · exact .inl (.inl h1)

set_option maxHeartbeats 1000000 in
theorem refCovers_ok (x : Bool) (a : List Sp) (ha : a.length ≤ maxLen) (s : Sp) : PFun P0 26 [encL x a, .agg (encS s)] (bo (rcovS a s)) := by
  have hT : (Tab.nil.add 31 fun args _ => ⟨args = [encL x a], .slice false (rowsP (daysF a))⟩).ok P0 := Tab.add_fun n_ok Try.call31 fun args h => by subst h; exact daysR_ok x a ha
  refine pcalls_body Try.func26 rfl rfl rfl (by show 2 ≤ _; decide) (pwp_run hT ?_)
  by_cases h1 : s.2 ≤ s.1
  · simp [encS, h1, rcovS]
  · by_cases h2 : s.1 < 0 ∨ 1024 < s.2
    · simp [encS, h1, rcovS]
      intro id
      exact ⟨fun _ _ _ => by omega, fun _ _ => by omega⟩
    · have h3 : 0 ≤ s.1 := by omega
      have h4 : s.2 ≤ 1024 := by omega
      have h5 : s.1 < s.2 := by omega
      have hr : rcovS a s = allS a s := by simp [rcovS, h1, h3, h4]
      rw [hr]
      simp [encS, h1, h3, h4, h5]
      intro id
      refine ⟨fun h => by omega, ?_⟩
      refine pwp_loop (fun N fr σ => ∃ d : Nat, N = 1024 - d ∧ s.1 ≤ (d : Int) ∧ (d : Int) ≤ s.2 ∧ fr 3 = .ptr id 0 ∧ fr 5 = .slice false (rowsP (daysF a)) ∧ fr 6 = num d ∧ σ id = some (.cells (encS s)) ∧ ∀ j : Nat, s.1 ≤ (j : Int) → j < d → daysF a j = true) (N := 1024 - s.1.toNat)
        ⟨s.1.toNat, rfl, by omega, by omega, by simp, by simp, by simp; omega, by simp [encS, Heap.set_apply], fun j q1 q2 => by omega⟩ ?_
      rintro N fr σ ⟨d, rfl, hd1, hd2, e3, e5, e6, hs, hall⟩
      refine pwp_run hT ?_
      by_cases hlt : (d : Int) < s.2
      · have hd : d < 1024 := by omega
        have hd' : (d : Int) < 1024 := by omega
        cases hf : daysF a d with
        | false =>
          simp [e3, e5, e6, hs, hlt, encS, hd, hd', hf]
          cases hc : allS a s with
          | false => rfl
          | true => have := (allS_iff a s).1 hc d hd hd1 hlt; rw [hf] at this; cases this
        | true =>
          simp [e3, e5, e6, hs, hlt, encS, hd, hd', hf]
          refine ⟨1024 - (d + 1), by omega, d + 1, rfl, by omega, by omega, by rw [wrap_i64 (by omega) (by omega)]; omega, fun j q1 q2 => ?_⟩
          by_cases e : j = d
          · subst e; exact hf
          · exact hall j q1 (by omega)
      · simp [e3, e5, e6, hs, hlt, encS]
        have := (allS_iff a s).2 fun j _ q1 q2 => hall j q1 (by omega)
        rw [this]
end Go.Proofs.Ytmmgifhnbgehaaa
