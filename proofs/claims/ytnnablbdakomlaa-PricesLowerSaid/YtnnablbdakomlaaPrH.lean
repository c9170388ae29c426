/-
  Sizing: what the functions compute, part H: lots of sets of days; prices; the reference's cost of one lot.
-/
import Derived.Test.YtnnablbdakomlaaPrG
set_option linter.unusedSimpArgs false
set_option linter.unusedVariables false
namespace Go.Proofs.Ytnnablbdakomlaa
open Go.Lo

/-! ### Sets as numbers -/
def setN (f : Nat → Bool) : Nat → Nat
  | 0 => 0
  | k + 1 => setN f k + if f k then 2 ^ k else 0
theorem setN_lt (f : Nat → Bool) (k : Nat) : setN f k < 2 ^ k := by
  induction k with
  | zero => simp [setN]
  | succ k ih => simp only [setN]; rw [Nat.pow_succ]; split <;> omega
theorem setN_bit (f : Nat → Bool) (k d : Nat) : (setN f k).testBit d = (decide (d < k) && f d) := by
  induction k with
  | zero => simp [setN]
  | succ k ih =>
    simp only [setN]
    have hl := setN_lt f k
    rcases Nat.lt_trichotomy d k with h | h | h
    · rw [decide_eq_true (show d < k + 1 by omega)]
      rw [decide_eq_true h] at ih
      split
      · rw [Nat.add_comm, Nat.testBit_two_pow_add_gt h, ih]
      · rw [Nat.add_zero, ih]
    · subst h
      rw [decide_eq_true (show d < d + 1 by omega), Bool.true_and]
      have h0 : (setN f d).testBit d = false := Nat.testBit_lt_two_pow hl
      split
      · rename_i hf; rw [Nat.add_comm, Nat.testBit_two_pow_add_eq, h0, hf]; rfl
      · rename_i hf; rw [Nat.add_zero, h0]; simpa using hf
    · rw [decide_eq_false (show ¬ d < k + 1 by omega), Bool.false_and]
      refine Nat.testBit_lt_two_pow (Nat.lt_of_lt_of_le (setN_lt f (k + 1)) (Nat.pow_le_pow_right (by omega) (by omega)))
theorem bits_eq {m g n : Nat} (hm : m < 2 ^ n) (hg : g < 2 ^ n) (h : ∀ d, d < n → m.testBit d = g.testBit d) : m = g := by
  refine Nat.eq_of_testBit_eq fun d => ?_
  rcases Nat.lt_or_ge d n with hd | hd
  · exact h d hd
  · rw [Nat.testBit_lt_two_pow (Nat.lt_of_lt_of_le hm (Nat.pow_le_pow_right (by omega) hd)), Nat.testBit_lt_two_pow (Nat.lt_of_lt_of_le hg (Nat.pow_le_pow_right (by omega) hd))]

/-! ### Of -/
def posB (need : List Int) (S : Nat → Bool) : Bool :=
  ((List.range need.length).all fun t => decide (nf need t = 0) || (lastTo S (t + 1)).isSome) && (List.range need.length).all fun t => !(S t && decide (lotsTo (nf need) S need.length t = 0))
theorem posB_iff (need : List Int) (S : Nat → Bool) : posB need S = true ↔ Pos (nf need) S need.length := by
  unfold posB Pos
  rw [Bool.and_eq_true, List.all_eq_true, List.all_eq_true]
  refine and_congr ?_ ?_
  · refine forall_congr' fun t => ?_
    rw [List.mem_range]
    refine imp_congr_right fun _ => ?_
    rw [Bool.or_eq_true, decide_eq_true_eq]
    constructor
    · rintro (h | h) hne
      · exact absurd h hne
      · intro e; rw [e] at h; cases h
    · intro h
      by_cases e : nf need t = 0
      · exact .inl e
      · exact .inr (Option.isSome_iff_ne_none.2 (h e))
  · refine forall_congr' fun t => ?_
    rw [List.mem_range]
    refine imp_congr_right fun _ => ?_
    cases S t <;> simp
def lotsL (need : List Int) (S : Nat → Bool) : List Int := (List.range need.length).map fun d => lotsTo (nf need) S need.length d
theorem lotsL_length (need : List Int) (S : Nat → Bool) : (lotsL need S).length = need.length := by simp [lotsL]
theorem nf_lotsL (need : List Int) (S : Nat → Bool) (d : Nat) : nf (lotsL need S) d = lotsTo (nf need) S need.length d := by
  show (lotsL need S).getD d 0 = _
  unfold lotsL
  rcases Nat.lt_or_ge d need.length with h | h
  · simp [h]
  · rw [List.getD_eq_getElem?_getD, List.getElem?_eq_none (by simpa using h)]
    exact (lotsTo_out (.inl h)).symm
theorem Ok.lots {need : List Int} {s h : Int} (H : Ok need s h) (S : Nat → Bool) (d : Nat) : ∀ t, 0 ≤ lotsTo (nf need) S t d ∧ lotsTo (nf need) S t d ≤ t * 1048576 := by
  intro t
  induction t with
  | zero => simp [lotsTo]
  | succ t ih =>
    simp only [lotsTo]
    have := H.need t
    split <;> omega
def lastI (S : Nat → Bool) (t : Nat) : Int := match lastTo S t with | some s => (s : Int) | none => -1
theorem lastI_succ (S : Nat → Bool) (t : Nat) : lastI S (t + 1) = if S t then (t : Int) else lastI S t := by
  unfold lastI; simp only [lastTo]; cases S t <;> simp


def rowI (l : List Int) : List (List PV) := l.map fun x => [num x]
theorem rowI_one (l : List Int) : ∀ r ∈ rowI l, r.length = 1 := fun r hr => by
  obtain ⟨x, _, rfl⟩ := List.mem_map.1 hr; rfl
theorem rowI_flat (l : List Int) : (rowI l).flatten = l.map num := by
  unfold rowI
  induction l with
  | nil => rfl
  | cons x l ih => simp [ih]
/-- Reading a list that grows. -/
theorem own_read {σ : Heap} {v : PV} {l : List Int} (h : Own 1 σ v (rowI l)) : ∃ pp : Nat → PV, ∀ i (hi : i < l.length), IAx (some (none, 1, false)) v (num (i : Int)) = ⟨True, pp i⟩ ∧ avt (pp i) = True ∧ sv (pp i) = pp i ∧ Lx (some (1, false)) σ (pp i) = ⟨True, num l[i]⟩ := by
  obtain ⟨_, h | ⟨id, fl, h1, h2⟩ | h⟩ := h
  · refine ⟨fun _ => .any, fun i hi => ?_⟩
    have : l = [] := by simpa [rowI] using h.2
    subst this; simp at hi
  · refine ⟨fun i => .ptr id i, fun i hi => ?_⟩
    subst h1
    rw [rowI_flat] at h2
    have hl : (rowI l).length = l.length := by simp [rowI]
    refine ⟨?_, rfl, rfl, ?_⟩
    · simp [hl, hi]
    · simp [h2, hi]
  · refine ⟨fun i => .ref [num (l.getD i 0)], fun i hi => ?_⟩
    subst h
    refine ⟨?_, rfl, rfl, ?_⟩
    · simp [rowI, hi]
    · simp [hi]

/-! ### Prices -/
theorem Ok.price {need : List Int} {s h : Int} (H : Ok need s h) : ∀ t, t ≤ 16 → 0 ≤ price (nf need) s h t ∧ price (nf need) s h t ≤ 281474977759232 := by
  intro t ht
  refine ⟨price_nonneg H.nonneg H.paid.s.1 H.paid.h.1 t, ?_⟩
  rcases Nat.eq_zero_or_pos t with rfl | h0
  · rw [price_zero]; omega
  · have h1 := price_le (nf need) s h h0
    have h2 := H.lot 0 t ht
    rw [price_zero] at h1; omega
def pricesL (need : List Int) (s h : Int) : List Int := (List.range need.length).map fun t => price (nf need) s h (t + 1)
theorem pricesL_length (need : List Int) (s h : Int) : (pricesL need s h).length = need.length := by simp [pricesL]
theorem prL_eq (need : Nat → Int) (s h : Int) (t : Nat) : prL need s h t = (List.range (t + 1)).map (price need s h) := by
  refine List.ext_getElem? fun i => ?_
  rcases Nat.lt_or_ge i (t + 1) with hi | hi
  · have h1 := prL_get need s h t i (by omega)
    rw [List.getD_eq_getElem?_getD, List.getElem?_eq_getElem (by rw [prL_length]; exact hi)] at h1
    rw [List.getElem?_eq_getElem (by rw [prL_length]; exact hi)]
    simp [hi]
    simpa using h1
  · rw [List.getElem?_eq_none (by rw [prL_length]; exact hi), List.getElem?_eq_none (by simpa using hi)]

def btE : List PV → EV
  | [a, .lit (.int .i64 s), .lit (.int .i64 h), .lit (.int .i64 x), .lit (.int .i64 y)] => ⟨isI a ∧ Ok (decI a) s h ∧ 0 ≤ x ∧ x ≤ y ∧ y < (decI a).length, num (lotC (nf (decI a)) s h x.toNat (y.toNat + 1))⟩
  | _ => .no
@[simp] theorem btE_mk (a : PV) (s h x y : Int) : btE [a, num s, num h, num x, num y] = ⟨isI a ∧ Ok (decI a) s h ∧ 0 ≤ x ∧ x ≤ y ∧ y < (decI a).length, num (lotC (nf (decI a)) s h x.toNat (y.toNat + 1))⟩ := rfl
theorem btE_fun (args : List PV) (hd : (btE args).D) : PFun P0 32 args (btE args).V := by
  unfold btE at hd ⊢
  split at hd
  · rename_i a s h x y
    obtain ⟨h0, h1, h2, h3, h4⟩ := hd
    obtain ⟨k1, k2⟩ := isI_le h0
    have := between35_ok (decI a) s h h1 x.toNat y.toNat (by omega) (by omega)
    rw [show ((x.toNat : Nat) : Int) = x by omega, show ((y.toNat : Nat) : Int) = y by omega] at this
    exact pcalls.args this (.cons k1 (.cons (.refl _) (.cons (.refl _) (.cons (.refl _) (.cons (.refl _) .nil)))))
  · exact hd.elim
def TP : Tab := Tab.nil.add 32 fun a _ => btE a
theorem TP_ok : TP.ok P0 := Tab.add_fun n_ok Try.call32 btE_fun
@[simp] theorem TP_dom32 : TP.dom 32 = true := rfl
@[simp] theorem TP_ev32 (a : List PV) (σ : Heap) : TP.ev 32 a σ = btE a := rfl


/-- The best set. -/
def bestS (need : List Int) (s h : Int) : Nat → Bool := best (nf need) s h need.length
def bestN (need : List Int) (s h : Int) : Nat := setN (bestS need s h) need.length
def nilS : PV := .lit (.slice none 0 0)
def sizeR (need : List Int) (s h : Int) : PV := if validS need s h then .tup [.agg [encI true (lotsL need (bestS need s h)), num (price (nf need) s h need.length), encI false (pricesL need s h)], num 0] else .tup [.agg [nilS, num 0, nilS], num 220]

/-- The lots of a possible set, in the words of the functions. -/
theorem pos_small {need : List Int} {s h : Int} (H : Ok need s h) {S : Nat → Bool} (hp : posB need S = true) : Small need (lotsL need S) ∧ coversS need (lotsL need S) = true ∧ C_ need (lotsL need S) s h need.length = costF (nf need) (lotsTo (nf need) S need.length) s h need.length := by
  have hP := (posB_iff need S).1 hp
  have hf := H.few
  refine ⟨⟨(lotsL_length need S).symm, by rw [lotsL_length]; exact hf, H.need, fun d => ?_⟩, ?_, ?_⟩
  · rw [nf_lotsL]
    have := H.lots S d need.length
    omega
  · rw [coversS_iff]
    intro d hd
    rw [lotsL_length] at hd
    rw [heldF_congr (m := lotsTo (nf need) S need.length) fun i _ => nf_lotsL need S i]
    exact (hP.held H.nonneg need.length).1 d hd
  · exact costF_congr fun i _ => nf_lotsL need S i
theorem best_posB {need : List Int} {s h : Int} (H : Ok need s h) : posB need (bestS need s h) = true := (posB_iff _ _).2 (best_pos H.nonneg need.length)
theorem bestN_bit {need : List Int} {s h : Int} (d : Nat) : (bestN need s h).testBit d = bestS need s h d := by
  unfold bestN
  rw [setN_bit]
  by_cases hd : d < need.length
  · simp [hd]
  · rw [decide_eq_false hd, Bool.false_and]
    cases e : bestS need s h d with
    | false => rfl
    | true => exact absurd (best_lt _ _ e) hd
theorem bestN_fun (need : List Int) (s h : Int) : (bestN need s h).testBit = bestS need s h := funext fun d => bestN_bit d

end Go.Proofs.Ytnnablbdakomlaa
