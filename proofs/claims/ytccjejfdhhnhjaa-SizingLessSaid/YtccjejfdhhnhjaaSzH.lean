/-
  Sizing: what the functions compute, part H: the lots of a set of days; sets as numbers.
-/
import Derived.Test.YtccjejfdhhnhjaaSzG
set_option linter.unusedSimpArgs false
set_option linter.unusedVariables false
namespace Go.Proofs.Ytccjejfdhhnhjaa
open Go.Lo

/-! ### Sets as numbers -/
def setN (f : Nat → Bool) : Nat → Nat
  | 0 => 0
  | k + 1 => setN f k + if f k then 2 ^ k else 0
theorem setN_lt (f : Nat → Bool) (k : Nat) : setN f k < 2 ^ k := by
  induction k with
  | zero => simp [setN]
  | succ k ih => simp only [setN]; rw [Nat.pow_succ]; split <;> omega
theorem setN_bit (f : Nat → Bool) (k d : Nat) : (setN f k).testBit d = (decide (d < k) && f d) := by
  induction k with
  | zero => simp [setN]
  | succ k ih =>
    simp only [setN]
    have hl := setN_lt f k
    rcases Nat.lt_trichotomy d k with h | h | h
    · rw [decide_eq_true (show d < k + 1 by omega)]
      rw [decide_eq_true h] at ih
      split
      · rw [Nat.add_comm, Nat.testBit_two_pow_add_gt h, ih]
      · rw [Nat.add_zero, ih]
    · subst h
      rw [decide_eq_true (show d < d + 1 by omega), Bool.true_and]
      have h0 : (setN f d).testBit d = false := Nat.testBit_lt_two_pow hl
      split
      · rename_i hf; rw [Nat.add_comm, Nat.testBit_two_pow_add_eq, h0, hf]; rfl
      · rename_i hf; rw [Nat.add_zero, h0]; simpa using hf
    · rw [decide_eq_false (show ¬ d < k + 1 by omega), Bool.false_and]
      refine Nat.testBit_lt_two_pow (Nat.lt_of_lt_of_le (setN_lt f (k + 1)) (Nat.pow_le_pow_right (by omega) (by omega)))
theorem bits_eq {m g n : Nat} (hm : m < 2 ^ n) (hg : g < 2 ^ n) (h : ∀ d, d < n → m.testBit d = g.testBit d) : m = g := by
  refine Nat.eq_of_testBit_eq fun d => ?_
  rcases Nat.lt_or_ge d n with hd | hd
  · exact h d hd
  · rw [Nat.testBit_lt_two_pow (Nat.lt_of_lt_of_le hm (Nat.pow_le_pow_right (by omega) hd)), Nat.testBit_lt_two_pow (Nat.lt_of_lt_of_le hg (Nat.pow_le_pow_right (by omega) hd))]

/-! ### Of -/
def posB (need : List Int) (S : Nat → Bool) : Bool :=
  ((List.range need.length).all fun t => decide (nf need t = 0) || (lastTo S (t + 1)).isSome) && (List.range need.length).all fun t => !(S t && decide (lotsTo (nf need) S need.length t = 0))
theorem posB_iff (need : List Int) (S : Nat → Bool) : posB need S = true ↔ Pos (nf need) S need.length := by
  unfold posB Pos
  rw [Bool.and_eq_true, List.all_eq_true, List.all_eq_true]
  refine and_congr ?_ ?_
  · refine forall_congr' fun t => ?_
    rw [List.mem_range]
    refine imp_congr_right fun _ => ?_
    rw [Bool.or_eq_true, decide_eq_true_eq]
    constructor
    · rintro (h | h) hne
      · exact absurd h hne
      · intro e; rw [e] at h; cases h
    · intro h
      by_cases e : nf need t = 0
      · exact .inl e
      · exact .inr (Option.isSome_iff_ne_none.2 (h e))
  · refine forall_congr' fun t => ?_
    rw [List.mem_range]
    refine imp_congr_right fun _ => ?_
    cases S t <;> simp
def lotsL (need : List Int) (S : Nat → Bool) : List Int := (List.range need.length).map fun d => lotsTo (nf need) S need.length d
theorem lotsL_length (need : List Int) (S : Nat → Bool) : (lotsL need S).length = need.length := by simp [lotsL]
theorem nf_lotsL (need : List Int) (S : Nat → Bool) (d : Nat) : nf (lotsL need S) d = lotsTo (nf need) S need.length d := by
  show (lotsL need S).getD d 0 = _
  unfold lotsL
  rcases Nat.lt_or_ge d need.length with h | h
  · simp [h]
  · rw [List.getD_eq_getElem?_getD, List.getElem?_eq_none (by simpa using h)]
    exact (lotsTo_out (.inl h)).symm
def ofR (need : List Int) (m : Nat) : PV := if posB need m.testBit then .tup [encI true (lotsL need m.testBit), bo true] else .tup [.lit (.slice none 0 0), bo false]
theorem Ok.lots {need : List Int} {s h : Int} (H : Ok need s h) (S : Nat → Bool) (d : Nat) : ∀ t, 0 ≤ lotsTo (nf need) S t d ∧ lotsTo (nf need) S t d ≤ t * 1048576 := by
  intro t
  induction t with
  | zero => simp [lotsTo]
  | succ t ih =>
    simp only [lotsTo]
    have := H.need t
    split <;> omega
def lastI (S : Nat → Bool) (t : Nat) : Int := match lastTo S t with | some s => (s : Int) | none => -1
theorem lastI_succ (S : Nat → Bool) (t : Nat) : lastI S (t + 1) = if S t then (t : Int) else lastI S t := by
  unfold lastI; simp only [lastTo]; cases S t <;> simp

theorem of20_ok (need : List Int) (s h : Int) (H : Ok need s h) (m : Nat) (hm : m < 65536) : PFun P0 20 [encI false need, num m] (ofR need m) := by
  have hf := H.few
  refine pcalls_frz ?_
  refine pcalls_body Try.func20 rfl rfl rfl (by show 2 ≤ _; decide) (pwp_go n_ok ?_)
  simp
  refine ⟨by omega, fun id => ?_⟩
  rw [rowP_repl]
  generalize hS : m.testBit = S
  have hbit : ∀ d : Nat, d < 63 → andI .i64 (shrI .i64 (m : Int) (d : Int)) 1 = if S d then 1 else 0 := fun d hd => by rw [← hS]; exact bit_i64 (by omega) hd
  refine pwp_loop (fun N fr σ => ∃ t : Nat, N = need.length - t ∧ t ≤ need.length ∧ fr 0 = encI false need ∧ fr 1 = num m ∧ fr 6 = .msl id 1 0 need.length true ∧ fr 7 = num (lastI S t) ∧ fr 8 = num t ∧
      σ id = some (.cells (rowP need.length fun d => num (lotsTo (nf need) S t d))) ∧ ∀ u, u < t → nf need u ≠ 0 → lastTo S (u + 1) ≠ none)
    (N := need.length) ⟨0, by simp [lastI, lastTo, lotsTo]⟩ ?_
  rintro N fr σ ⟨t, rfl, ht, e0, e1, e6, e7, e8, hs, hp⟩
  refine pwp_go n_ok ?_
  by_cases hlt : t < need.length
  · have hb := hbit t (by omega)
    have hn := H.need t
    have w5 := wrap_succ (k := t) (by omega)
    have fin : ∀ (X : PV), X = .lit (.int .i64 (lastI S (t + 1))) → ∀ (cs : List PV), (∀ d, d < need.length → cs[d]? = some (num (lotsTo (nf need) S (t + 1) d))) → cs.length = need.length → (nf need t ≠ 0 → lastTo S (t + 1) ≠ none) →
        ∃ N', N' < need.length - t ∧ ∃ t' : Nat, N' = need.length - t' ∧ t' ≤ need.length ∧ X = num (lastI S t') ∧ ((t : Int) + 1) = t' ∧ cs = (rowP need.length fun d => num (lotsTo (nf need) S t' d)) ∧ ∀ u, u < t' → nf need u ≠ 0 → lastTo S (u + 1) ≠ none := by
      intro X hX cs hcs hl hne
      refine ⟨need.length - (t + 1), by omega, t + 1, rfl, by omega, hX, by omega, ?_, fun u hu h => ?_⟩
      · refine List.ext_getElem? fun d => ?_
        rcases Nat.lt_or_ge d need.length with h | h
        · rw [hcs d h, rowP_get? _ h]
        · rw [List.getElem?_eq_none (by omega), List.getElem?_eq_none (by simpa using h)]
      · rcases Nat.lt_or_ge u t with h' | h'
        · exact hp u h' h
        · rw [show u = t by omega] at h ⊢; exact hne h
    have fin0 : nf need t = 0 → ∀ (X : PV), X = .lit (.int .i64 (lastI S (t + 1))) → ∃ N', N' < need.length - t ∧ ∃ t' : Nat, N' = need.length - t' ∧ t' ≤ need.length ∧ X = num (lastI S t') ∧ ((t : Int) + 1) = t' ∧ (rowP need.length fun d => num (lotsTo (nf need) S t d)) = (rowP need.length fun d => num (lotsTo (nf need) S t' d)) ∧ ∀ u, u < t' → nf need u ≠ 0 → lastTo S (u + 1) ≠ none := fun hz X hX => by
      refine fin X hX _ (fun d hd => ?_) (by simp) (fun h => absurd hz h)
      rw [rowP_get? _ hd]; simp only [lotsTo]; rw [hz]; simp
    have fin1 : ∀ (r : Nat), lastTo S (t + 1) = some r → ∀ (X : PV), X = .lit (.int .i64 (lastI S (t + 1))) → ∀ v : Int, v = lotsTo (nf need) S t r + nf need t →
        ∃ N', N' < need.length - t ∧ ∃ t' : Nat, N' = need.length - t' ∧ t' ≤ need.length ∧ X = num (lastI S t') ∧ ((t : Int) + 1) = t' ∧ (rowP need.length fun j => if j = r then num v else num (lotsTo (nf need) S t j)) = (rowP need.length fun d => num (lotsTo (nf need) S t' d)) ∧ ∀ u, u < t' → nf need u ≠ 0 → lastTo S (u + 1) ≠ none := fun r hr X hX v hv => by
      refine fin X hX _ (fun d hd => ?_) (by simp) (fun h => by rw [hr]; simp)
      rw [rowP_get? _ hd]; simp only [lotsTo]; rw [hr]
      by_cases e : d = r
      · subst e; simp [hv]
      · rw [if_neg e, if_neg (fun h => e (by cases h; rfl))]; simp
    have upd : ∀ r, r < need.length → IntKind.i64.wrap (lotsTo (nf need) S t r + nf need t) = lotsTo (nf need) S t r + nf need t := fun r hr => by
      have := H.lots S r t
      exact wrap_i64 (by omega) (by omega)
    rw [nf_get hlt] at fin0 fin1 upd
    rw [lastI_succ] at fin0 fin1
    clear fin
    cases hSt : S t with
    | true =>
      rw [hSt] at hb fin0 fin1
      have hl1 : lastTo S (t + 1) = some t := by simp [lastTo, hSt]
      by_cases hz : need[t] = 0
      · simp [e0, e1, e6, e7, e8, hlt, IAx_encI, hb, hz, hs, w5]
        have := fin0 hz (num (t : Int)) rfl
        simpa using this
      · simp [e0, e1, e6, e7, e8, hlt, IAx_encI, hb, hz, hs, w5]
        refine ⟨by omega, ?_⟩
        refine pwp_drawT n_ok 12 mixed (by kernel_rfl) ?_
        simp [e0, e1, e6, e7, e8, hlt, IAx_encI, hb, hz, hs, w5, rowP_get?, upd t hlt, rowP_set]
        have := fin1 t hl1 (num (t : Int)) rfl _ rfl
        exact ⟨by omega, by simpa using this⟩
    | false =>
      rw [hSt] at hb fin0 fin1
      by_cases hz : need[t] = 0
      · simp [e0, e1, e6, e7, e8, hlt, IAx_encI, hb, hz, hs, w5]
        have := fin0 hz (num (lastI S t)) rfl
        simpa using this
      · cases hl : lastTo S t with
        | none =>
          have hl1 : lastTo S (t + 1) = none := by simp [lastTo, hSt, hl]
          have e7' : fr 7 = num (-1) := by rw [e7]; simp [lastI, hl]
          simp [e0, e1, e6, e7', e8, hlt, IAx_encI, hb, hz, hs, w5]
          refine ⟨0, Heap.empty, Frz.none, ?_⟩
          have hpb : posB need S = false := by
            cases e : posB need S with
            | false => rfl
            | true => exact absurd hl1 (((posB_iff need S).1 e).1 t hlt (by rw [nf_get hlt]; exact hz))
          unfold ofR
          rw [hS, hpb]; rfl
        | some r =>
          have hl1 : lastTo S (t + 1) = some r := by simp [lastTo, hSt, hl]
          have hr := (lastTo_some hl).1
          have e7' : fr 7 = num (r : Int) := by rw [e7]; simp [lastI, hl]
          have hrn : r < need.length := by omega
          have hI : lastI S t = (r : Int) := by simp [lastI, hl]
          simp [e0, e1, e6, e7', e8, hlt, IAx_encI, hb, hz, hs, w5]
          refine ⟨by omega, ?_⟩
          refine pwp_drawT n_ok 12 mixed (by kernel_rfl) ?_
          simp [e0, e1, e6, e7', e8, hlt, hrn, IAx_encI, hb, hz, hs, w5, rowP_get?, upd r hrn, rowP_set]
          have := fin1 r hl1 (num (lastI S t)) rfl _ rfl
          exact ⟨by omega, by simpa [hI] using this⟩
  · have htn : t = need.length := by omega
    subst htn
    simp [e0, e1, e6, e7, e8]
    refine pwp_loop (fun N fr σ => ∃ u : Nat, N = need.length - u ∧ u ≤ need.length ∧ fr 0 = encI false need ∧ fr 1 = num m ∧ fr 6 = .msl id 1 0 need.length true ∧ fr 9 = num u ∧
      σ id = some (.cells (rowP need.length fun d => num (lotsTo (nf need) S need.length d))) ∧ ∀ v, v < u → S v = true → lotsTo (nf need) S need.length v ≠ 0)
      (N := need.length) ⟨0, by simp [e0, e1, e6, hs]⟩ ?_
    clear e0 e1 e6 e7 e8 hs
    rintro N fr σ ⟨u, rfl, hu, e0, e1, e6, e9, hs, hq⟩
    refine pwp_go n_ok ?_
    by_cases hlt : u < need.length
    · have hb := hbit u (by omega)
      have w5 := wrap_succ (k := u) (by omega)
      have fin : (S u = true → lotsTo (nf need) S need.length u ≠ 0) → ∃ N', N' < need.length - u ∧ ∃ u' : Nat, N' = need.length - u' ∧ u' ≤ need.length ∧ ((u : Int) + 1) = u' ∧ ∀ v, v < u' → S v = true → lotsTo (nf need) S need.length v ≠ 0 := fun h =>
        ⟨need.length - (u + 1), by omega, u + 1, rfl, by omega, by omega, fun v hv hSv => by
          rcases Nat.lt_or_ge v u with h' | h'
          · exact hq v h' hSv
          · rw [show v = u by omega] at hSv ⊢; exact h hSv⟩
      cases hSu : S u with
      | true =>
        rw [hSu] at hb
        by_cases hz : lotsTo (nf need) S need.length u = 0
        · simp [e0, e1, e6, e9, hlt, hb, hs, hz, rowP_get?, w5]
          refine ⟨0, Heap.empty, Frz.none, ?_⟩
          have hpb : posB need S = false := by
            cases e : posB need S with
            | false => rfl
            | true => exact absurd hz (((posB_iff need S).1 e).2 u hlt hSu)
          unfold ofR
          rw [hS, hpb]; rfl
        · simp [e0, e1, e6, e9, hlt, hb, hs, hz, rowP_get?, w5]
          have := fin fun _ => hz
          simpa using this
      | false =>
        rw [hSu] at hb
        simp [e0, e1, e6, e9, hlt, hb, hs, w5]
        have := fin fun h => by rw [hSu] at h; cases h
        simpa using this
    · have hun : u = need.length := by omega
      subst hun
      simp [e0, e1, e6, e9]
      refine ⟨2, Heap.empty.set id (.cells (rowP need.length fun d => num (lotsTo (nf need) S need.length d))), Frz.set Frz.none hs, ?_⟩
      have hpb : posB need S = true := (posB_iff need S).2 ⟨hp, hq⟩
      unfold ofR
      rw [hS, hpb]
      have : (rowP need.length fun d => num (lotsTo (nf need) S need.length d)).map (frzN 0 (Heap.empty.set id (.cells (rowP need.length fun d => num (lotsTo (nf need) S need.length d))))) = rowP need.length fun d => num (lotsTo (nf need) S need.length d) := by
        rw [rowP_map]; rfl
      simp [frzO, frzN, this, chunks_row, encI, lotsL]
end Go.Proofs.Ytccjejfdhhnhjaa
