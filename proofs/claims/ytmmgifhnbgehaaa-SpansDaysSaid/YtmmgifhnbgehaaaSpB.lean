/-
  Spans: what the functions compute, part B: days.
-/
import Derived.Test.YtmmgifhnbgehaaaSpA
set_option linter.unusedSimpArgs false
set_option linter.unusedVariables false
namespace Go.Proofs.Ytmmgifhnbgehaaa
open Go.Lo

def daysF (l : List Sp) (i : Nat) : Bool := l.any fun s => decide (s.1 ≤ (i : Int)) && decide ((i : Int) < s.2)
def bitsP (f : Nat → Bool) : List PV := (List.range 1024).map fun i => bo (f i)
@[simp] theorem bitsP_length (f : Nat → Bool) : (bitsP f).length = 1024 := by simp [bitsP]
theorem bitsP_get (f : Nat → Bool) {i : Nat} (h : i < 1024) : (bitsP f)[i]? = some (bo (f i)) := by simp [bitsP, h]
@[simp] theorem bitsP_getElem (f : Nat → Bool) {i : Nat} (h : i < (bitsP f).length) : (bitsP f)[i] = bo (f i) := by simp [bitsP]
@[simp] theorem bitsP_getD (f : Nat → Bool) (i : Nat) (d : PV) : (bitsP f)[i]?.getD d = if i < 1024 then bo (f i) else d := by
  split
  · rename_i h; rw [bitsP_get f h]; rfl
  · rename_i h; rw [List.getElem?_eq_none (by simpa using h)]; rfl
theorem bitsP_set (f : Nat → Bool) {i : Nat} (b : Bool) (h : i < 1024) : setR (bitsP f) i [bo b] = bitsP fun j => if j = i then b else f j := by
  refine List.ext_getElem? fun j => ?_
  rcases Nat.lt_or_ge j 1024 with hj | hj
  · have h1 := setR_getD (cells := bitsP f) (new := [bo b]) (off := i) (by simp; omega) j
    have hl : (setR (bitsP f) i [bo b]).length = 1024 := by rw [setR_length (by simp; omega)]; simp
    rw [bitsP_get _ hj]
    rw [List.getElem?_eq_getElem (by omega)]
    simp only [List.getD, List.getElem?_eq_getElem (show j < (setR (bitsP f) i [bo b]).length by omega), Option.getD_some, bitsP_get _ hj] at h1
    rw [h1]
    by_cases e : j = i
    · subst e; simp
    · rw [if_neg (by simp; omega)]; simp [e]
  · rw [List.getElem?_eq_none (by rw [setR_length (by simp; omega)]; simpa using hj), List.getElem?_eq_none (by simpa using hj)]
theorem bitsP_congr {f g : Nat → Bool} (h : ∀ i, i < 1024 → f i = g i) : bitsP f = bitsP g := by
  unfold bitsP
  exact List.map_congr_left fun i hi => by rw [h i (List.mem_range.1 hi)]
@[simp] theorem bitsP_zero : replP 1024 [bo false] = bitsP fun _ => false := by kernel_rfl
@[simp] theorem elem45 : elemB P0 45 = some (1, [bo false]) := by kernel_rfl
@[simp] theorem zero53 : zeroP P0 53 = some (bitsP fun _ => false) := by kernel_rfl

theorem daysF_succ {l : List Sp} {k : Nat} (h : k < l.length) (i : Nat) : daysF (l.take (k + 1)) i = (daysF (l.take k) i || (decide (l[k].1 ≤ (i : Int)) && decide ((i : Int) < l[k].2))) := by
  unfold daysF
  rw [List.take_succ_eq_append_getElem h, List.any_append]; simp

set_option maxHeartbeats 400000 in
theorem days_ok (b : Bool) (l : List Sp) (hl : l.length ≤ maxLen) : pcalls P0 31 [encL b l] Heap.empty fun o σ' => ∃ id full, o = .val (.msl id 1 0 1024 full) ∧ σ' id = some (.cells (bitsP (daysF l))) := by
  refine pcalls_body Try.func31 rfl rfl rfl (by show 1 ≤ _; decide) (pwp_run n_ok ?_)
  simp [ev, Fr.init]
  intro id
  refine pwp_loop (fun N fr σ => ∃ k f, N = l.length - k ∧ k ≤ l.length ∧ fr 0 = encL b l ∧ fr 3 = .msl id 1 0 1024 true ∧ fr 4 = num (k : Nat) ∧ σ id = some (.cells (bitsP f)) ∧ ∀ i, i < 1024 → f i = daysF (l.take k) i)
    (N := l.length) ⟨0, fun _ => false, by simp [Fr.init, Heap.set_apply, daysF]⟩ ?_
  rintro N fr σ ⟨k, f, rfl, hk, e0, e3, e4, hs, hf⟩
  refine pwp_run n_ok ?_
  unfold maxLen at hl
  by_cases hlt : k < l.length
  · simp [ev, e0, e3, e4, hlt, encS]
    refine pwp_loop (fun N fr σ => ∃ (d : Nat) (f : Nat → Bool), N = 1024 - d ∧ (l[k].1 ≤ d) ∧ fr 0 = encL b l ∧ fr 3 = .msl id 1 0 1024 true ∧ fr 4 = num (k : Nat) ∧ fr 5 = num d ∧ σ id = some (.cells (bitsP f)) ∧
      ∀ i, i < 1024 → f i = (daysF (l.take k) i || (decide (l[k].1 ≤ (i : Int)) && decide ((i : Int) < l[k].2) && decide (i < d)))) (N := 1024 - (max l[k].1 0).toNat) ⟨(max l[k].1 0).toNat, f, rfl, ?_⟩ ?_
    · simp [e0, e3, e4, hs]
      refine ⟨by omega, fun i hi => ?_⟩
      rw [hf i hi]
      by_cases h1 : l[k].1 ≤ (i : Int)
      · rw [decide_eq_false (show ¬ (i : Int) < max l[k].1 0 by omega)]; simp
      · simp [h1]
    · rintro N fr σ ⟨d, g, rfl, hd1, e0, e3, e4, e5, hs, hg⟩
      refine pwp_run n_ok ?_
      by_cases hlt2 : (d : Int) < min l[k].2 1024
      · have hd : d < 1024 := by omega
        simp [ev, e0, e3, e4, e5, hlt, encS, hlt2, hs, hd]
        refine ⟨by omega, by omega, 1024 - (d + 1), by omega, d + 1, rfl, by omega, by rw [wrap_i64 (by omega) (by omega)]; omega, _, bitsP_set g true hd, fun i hi => ?_⟩
        by_cases e : i = d
        · subst e; simp [hd1, show (i : Int) < l[k].2 by omega]
        · rw [if_neg e, hg i hi, show decide (i < d + 1) = decide (i < d) by simp only [decide_eq_decide]; omega]
      · simp [ev, e0, e3, e4, e5, hlt, encS, hlt2]
        refine ⟨l.length - (k + 1), by omega, k + 1, rfl, by omega, by rw [wrap_i64 (by omega) (by omega)]; omega, g, hs, fun i hi => ?_⟩
        rw [hg i hi, daysF_succ hlt]
        by_cases h2 : (i : Int) < l[k].2
        · rw [decide_eq_true (show i < d by omega)]; simp
        · simp [h2]
  · simp [ev, e0, e3, e4, hlt]
    rw [hs]
    rw [List.take_of_length_le (by omega)] at hf
    rw [bitsP_congr hf]

set_option maxHeartbeats 400000 in
theorem of_ok (b : Bool) (l : List Sp) (hl : l.length ≤ maxLen) : pcalls P0 38 [encL b l] Heap.empty fun o σ' => ∃ id, o = .val (.ptr id 0) ∧ σ' id = some (.cells (bitsP (daysF l))) := by
  refine pcalls_body Try.func38 rfl rfl rfl (by show 1 ≤ _; decide) (pwp_run n_ok ?_)
  simp [ev, Fr.init]
  intro id
  refine pwp_loop (fun N fr σ => ∃ k f, N = l.length - k ∧ k ≤ l.length ∧ fr 3 = .ptr id 0 ∧ fr 7 = encL b l ∧ fr 8 = num l.length ∧ fr 9 = num (k : Nat) ∧ σ id = some (.cells (bitsP f)) ∧ ∀ i, i < 1024 → f i = daysF (l.take k) i)
    (N := l.length) ⟨0, fun _ => false, by simp [Fr.init, Heap.set_apply, daysF]⟩ ?_
  rintro N fr σ ⟨k, f, rfl, hk, e3, e7, e8, e9, hs, hf⟩
  refine pwp_run n_ok ?_
  unfold maxLen at hl
  by_cases hlt : k < l.length
  · simp [ev, e3, e7, e8, e9, hlt, encS]
    intro id2 hid2
    have hne : id ≠ id2 := by rintro rfl; rw [hs] at hid2; cases hid2
    refine pwp_loop (fun N fr σ => ∃ (d : Nat) (f : Nat → Bool), N = 1024 - d ∧ (l[k].1 ≤ d) ∧ fr 3 = .ptr id 0 ∧ fr 7 = encL b l ∧ fr 8 = num l.length ∧ fr 9 = num (k : Nat) ∧ fr 5 = .ptr id2 0 ∧ fr 6 = num d ∧ σ id = some (.cells (bitsP f)) ∧ σ id2 = some (.cells (encS l[k])) ∧
      ∀ i, i < 1024 → f i = (daysF (l.take k) i || (decide (l[k].1 ≤ (i : Int)) && decide ((i : Int) < l[k].2) && decide (i < d)))) (N := 1024 - (max l[k].1 0).toNat) ⟨(max l[k].1 0).toNat, f, rfl, ?_⟩ ?_
    · simp [e3, e7, e8, e9, hs, Heap.set_apply, hne, encS]
      refine ⟨by omega, fun i hi => ?_⟩
      rw [hf i hi]
      by_cases h1 : l[k].1 ≤ (i : Int)
      · rw [decide_eq_false (show ¬ (i : Int) < max l[k].1 0 by omega)]; simp
      · simp [h1]
    · rintro N fr σ ⟨d, g, rfl, hd1, e3, e7, e8, e9, e5, e6, hs, hs2, hg⟩
      refine pwp_run n_ok ?_
      by_cases hlt2 : (d : Int) < min l[k].2 1024
      · have hd : d < 1024 := by omega
        simp [ev, e3, e7, e8, e9, e5, e6, hlt, encS, hlt2, hs, hs2, hd, hne, Ne.symm hne]
        refine ⟨by omega, by omega, 1024 - (d + 1), by omega, d + 1, rfl, by omega, by rw [wrap_i64 (by omega) (by omega)]; omega, _, bitsP_set g true hd, fun i hi => ?_⟩
        by_cases e : i = d
        · subst e; simp [hd1, show (i : Int) < l[k].2 by omega]
        · rw [if_neg e, hg i hi, show decide (i < d + 1) = decide (i < d) by simp only [decide_eq_decide]; omega]
      · simp [ev, e3, e7, e8, e9, e5, e6, hlt, encS, hlt2, hs, hs2, hne]
        refine ⟨l.length - (k + 1), by omega, k + 1, rfl, by omega, by rw [wrap_i64 (by omega) (by omega)]; omega, g, rfl, fun i hi => ?_⟩
        rw [hg i hi, daysF_succ hlt]
        by_cases h2 : (i : Int) < l[k].2
        · rw [decide_eq_true (show i < d by omega)]; simp
        · simp [h2]
  · simp [ev, e3, e7, e8, e9, hlt]
    rw [hs]
    rw [List.take_of_length_le (by omega)] at hf
    rw [bitsP_congr hf]
end Go.Proofs.Ytmmgifhnbgehaaa
