/-
  Sizing: what the functions compute, part G: the cost of one lot, sets of days, going backwards.
-/
import Derived.Test.YtnnablbdakomlaaPrF
set_option linter.unusedSimpArgs false
set_option linter.unusedVariables false
namespace Go.Proofs.Ytnnablbdakomlaa
open Go.Lo

/-- Valid requirements and costs. -/
structure Ok (need : List Int) (s h : Int) : Prop where
  few : need.length ≤ 16
  need : ∀ d, 0 ≤ nf need d ∧ nf need d ≤ 1048576
  paid : Paid s h
theorem ok_of {need : List Int} {s h : Int} (h1 : validS need s h = true) : Ok need s h := by
  have hp := paid_of h1
  simp only [validS, Bool.and_eq_true, decide_eq_true_eq] at h1
  refine ⟨by omega, fun d => ?_, hp⟩
  have := nf_all h1.1 rfl d; simp only [inV, inS, Bool.and_eq_true, decide_eq_true_eq] at this; exact this
theorem Ok.term {need : List Int} {s h : Int} (H : Ok need s h) (d i : Nat) (hi : i ≤ 16) : (0 ≤ h * i ∧ h * i ≤ 16777216) ∧ 0 ≤ h * i * nf need d ∧ h * i * nf need d ≤ 17592186044416 := by
  have h1 := mul_bound H.paid.h (b := (i : Int)) (B := 16) ⟨by omega, by omega⟩
  exact ⟨h1, mul_bound h1 (H.need d)⟩
theorem Ok.hold {need : List Int} {s h : Int} (H : Ok need s h) (from_ : Nat) {k : Nat} (hk : k ≤ 16) : 0 ≤ holdC (nf need) h from_ k ∧ holdC (nf need) h from_ k ≤ 281474976710656 := by
  refine ⟨sumTo_nonneg fun i hi => (H.term _ i (by omega)).2.1, ?_⟩
  have : holdC (nf need) h from_ k ≤ k * 17592186044416 := sumTo_bound fun i hi => (H.term _ i (by omega)).2.2
  omega
theorem Ok.lot {need : List Int} {s h : Int} (H : Ok need s h) (from_ to : Nat) (ht : to ≤ 16) : 0 ≤ lotC (nf need) s h from_ to ∧ lotC (nf need) s h from_ to ≤ 281474977759232 := by
  have h1 := H.hold from_ (show to - from_ ≤ 16 by omega)
  have := H.paid.s
  unfold lotC
  split <;> omega
theorem Ok.nonneg {need : List Int} {s h : Int} (H : Ok need s h) : ∀ d, 0 ≤ nf need d := fun d => (H.need d).1

def lotR (need : List Int) (s h : Int) (a b : Nat) : PV := .tup [num (lotC (nf need) s h a b), bo (some_ (nf need) a (b - a))]
theorem lot24_ok (need : List Int) (s h : Int) (H : Ok need s h) (a b : Nat) (hab : a ≤ b) (hb : b ≤ need.length) : PFun P0 41 [num a, num b, .ref [encI false need], .ref [num h], .ref [num s]] (lotR need s h a b) := by
  refine pcalls_body Try.func41 rfl rfl rfl (by show 5 ≤ _; decide) (pwp_go n_ok ?_)
  simp
  have hf := H.few
  refine pwp_loop (fun N fr σ => ∃ c : Nat, N = b - c ∧ a ≤ c ∧ c ≤ b ∧ fr 0 = num a ∧ fr 1 = num b ∧ fr 2 = .ref [encI false need] ∧ fr 3 = .ref [num h] ∧ fr 4 = .ref [num s] ∧ fr 7 = num (holdC (nf need) h a (c - a)) ∧ fr 8 = bo (some_ (nf need) a (c - a)) ∧ fr 9 = num c)
    (N := b - a) ⟨a, by simp [holdC, sumTo, some_zero, hab]⟩ ?_
  rintro N fr σ ⟨c, rfl, hac, hcb, e0, e1, e2, e3, e4, e7, e8, e9⟩
  refine pwp_go n_ok ?_
  have c1 := H.hold a (show c - a ≤ 16 by omega)
  by_cases hlt : c < b
  · have hkn : c < need.length := by omega
    have hn := H.need c
    have ht := H.term c (c - a) (by omega)
    have hc1 : c + 1 - a = c - a + 1 := by omega
    have hsh : holdC (nf need) h a (c + 1 - a) = holdC (nf need) h a (c - a) + h * ((c - a : Nat) : Int) * nf need c := by
      rw [hc1]; show _ + h * ((c - a : Nat) : Int) * nf need (a + (c - a)) = _; rw [show a + (c - a) = c by omega]; rfl
    have hss : some_ (nf need) a (c + 1 - a) = (some_ (nf need) a (c - a) || decide (0 < nf need c)) := by
      rw [hc1, some_succ, show a + (c - a) = c by omega]
    rw [nf_get hkn] at hn ht hsh hss
    have w1 : IntKind.i64.wrap ((c : Int) - (a : Int)) = ((c - a : Nat) : Int) := by rw [wrap_i64 (by omega) (by omega)]; omega
    have w2 : IntKind.i64.wrap (h * ((c - a : Nat) : Int)) = h * ((c - a : Nat) : Int) := wrap_i64 (by omega) (by omega)
    have w3 : IntKind.i64.wrap (h * ((c - a : Nat) : Int) * need[c]) = h * ((c - a : Nat) : Int) * need[c] := wrap_i64 (by omega) (by omega)
    have w4 : IntKind.i64.wrap (holdC (nf need) h a (c - a) + h * ((c - a : Nat) : Int) * need[c]) = holdC (nf need) h a (c + 1 - a) := by
      rw [wrap_i64 (by omega) (by omega), hsh]
    have w5 := wrap_succ (k := c) (by omega)
    have fin : ∃ N', N' < b - c ∧ ∃ c' : Nat, N' = b - c' ∧ a ≤ c' ∧ c' ≤ b ∧ holdC (nf need) h a (c + 1 - a) = holdC (nf need) h a (c' - a) ∧ some_ (nf need) a (c + 1 - a) = some_ (nf need) a (c' - a) ∧ ((c + 1 : Nat) : Int) = (c' : Int) :=
      ⟨b - (c + 1), by omega, c + 1, rfl, by omega, by omega, rfl, rfl, rfl⟩
    generalize holdC (nf need) h a (c + 1 - a) = X at *
    generalize some_ (nf need) a (c + 1 - a) = Y at *
    by_cases hz : (0 : Int) < need[c]
    · have hs : Y = true := by rw [hss]; simp [hz]
      subst hs
      simp [e0, e1, e2, e3, e4, e7, e8, e9, hlt, hkn, IAx_encI, hz]
      refine pwp_drawT n_ok 12 mixed (by kernel_rfl) ?_
      simp [e0, e1, e2, e3, e4, e7, e8, e9, hlt, hkn, IAx_encI, hz, w1, w2, w3, w4, w5]
      simpa using fin
    · have hs : Y = some_ (nf need) a (c - a) := by rw [hss]; simp [hz]
      have hx : X = holdC (nf need) h a (c - a) := by rw [hsh, show need[c] = 0 by omega]; simp
      subst hs hx
      simp [e0, e1, e2, e3, e4, e7, e8, e9, hlt, hkn, IAx_encI, hz, w5]
      simpa using fin
  · have hcb' : c = b := by omega
    subst hcb'
    have q := H.paid.s
    have w6 : IntKind.i64.wrap (holdC (nf need) h a (c - a) + s) = holdC (nf need) h a (c - a) + s := wrap_i64 (by omega) (by omega)
    unfold lotR lotC
    cases hs : some_ (nf need) a (c - a) <;> rw [hs] at e8
    · have hz : holdC (nf need) h a (c - a) = 0 := sumTo_zero fun i hi => by rw [none_need H.nonneg hs i hi]; simp
      rw [hz] at e7
      simp [e0, e1, e2, e3, e4, e7, e8, e9]
    · simp [e0, e1, e2, e3, e4, e7, e8, e9, w6]

/-- The reference's cost of one lot, day b included. -/
theorem between35_ok (need : List Int) (s h : Int) (H : Ok need s h) (a b : Nat) (hab : a ≤ b) (hb : b < need.length) : PFun P0 32 [encI false need, num s, num h, num a, num b] (num (lotC (nf need) s h a (b + 1))) := by
  refine pcalls_body Try.func32 rfl rfl rfl (by show 5 ≤ _; decide) (pwp_go n_ok ?_)
  simp
  have hf := H.few
  refine pwp_loop (fun N fr σ => ∃ c : Nat, N = b + 1 - c ∧ a ≤ c ∧ c ≤ b + 1 ∧ fr 0 = encI false need ∧ fr 1 = num s ∧ fr 2 = num h ∧ fr 3 = num a ∧ fr 4 = num b ∧ fr 11 = num (holdC (nf need) h a (c - a)) ∧ fr 12 = bo (some_ (nf need) a (c - a)) ∧ fr 13 = num c)
    (N := b + 1 - a) ⟨a, by simp [holdC, sumTo, some_zero]; omega⟩ ?_
  rintro N fr σ ⟨c, rfl, hac, hcb, e0, e1, e2, e3, e4, e11, e12, e13⟩
  refine pwp_go n_ok ?_
  have c1 := H.hold a (show c - a ≤ 16 by omega)
  by_cases hlt : c ≤ b
  · have hkn : c < need.length := by omega
    have hn := H.need c
    have ht := H.term c (c - a) (by omega)
    have hc1 : c + 1 - a = c - a + 1 := by omega
    have hsh : holdC (nf need) h a (c + 1 - a) = holdC (nf need) h a (c - a) + h * ((c - a : Nat) : Int) * nf need c := by
      rw [hc1]; show _ + h * ((c - a : Nat) : Int) * nf need (a + (c - a)) = _; rw [show a + (c - a) = c by omega]; rfl
    have hss : some_ (nf need) a (c + 1 - a) = (some_ (nf need) a (c - a) || decide (0 < nf need c)) := by
      rw [hc1, some_succ, show a + (c - a) = c by omega]
    rw [nf_get hkn] at hn ht hsh hss
    have w1 : IntKind.i64.wrap ((c : Int) - (a : Int)) = ((c - a : Nat) : Int) := by rw [wrap_i64 (by omega) (by omega)]; omega
    have w2 : IntKind.i64.wrap (h * ((c - a : Nat) : Int)) = h * ((c - a : Nat) : Int) := wrap_i64 (by omega) (by omega)
    have w3 : IntKind.i64.wrap (h * ((c - a : Nat) : Int) * need[c]) = h * ((c - a : Nat) : Int) * need[c] := wrap_i64 (by omega) (by omega)
    have w4 : IntKind.i64.wrap (holdC (nf need) h a (c - a) + h * ((c - a : Nat) : Int) * need[c]) = holdC (nf need) h a (c + 1 - a) := by
      rw [wrap_i64 (by omega) (by omega), hsh]
    have w5 := wrap_succ (k := c) (by omega)
    have fin : ∃ N', N' < b + 1 - c ∧ ∃ c' : Nat, N' = b + 1 - c' ∧ a ≤ c' ∧ c' ≤ b + 1 ∧ holdC (nf need) h a (c + 1 - a) = holdC (nf need) h a (c' - a) ∧ some_ (nf need) a (c + 1 - a) = some_ (nf need) a (c' - a) ∧ ((c + 1 : Nat) : Int) = (c' : Int) :=
      ⟨b + 1 - (c + 1), by omega, c + 1, rfl, by omega, by omega, rfl, rfl, rfl⟩
    generalize holdC (nf need) h a (c + 1 - a) = X at *
    generalize some_ (nf need) a (c + 1 - a) = Y at *
    cases hs : some_ (nf need) a (c - a) <;> rw [hs] at e12 hss
    · by_cases hz : need[c] = 0
      · have hY : Y = false := by rw [hss, hz]; rfl
        subst hY
        have w4' : IntKind.i64.wrap (holdC (nf need) h a (c - a)) = X := by rw [← w4, hz]; simp
        simp [e0, e1, e2, e3, e4, e11, e12, e13, hlt, hkn, IAx_encI, hz, w1, w2, w4', w5, show IntKind.i64.wrap 0 = 0 by decide]
        simpa using fin
      · have hY : Y = true := by rw [hss]; simp; omega
        subst hY
        have hne : (need[c] != 0) = true := by simp [hz]
        simp [e0, e1, e2, e3, e4, e11, e12, e13, hlt, hkn, IAx_encI, hne, w1, w2, w3, w4, w5]
        simpa using fin
    · have hY : Y = true := by rw [hss]; simp
      subst hY
      simp [e0, e1, e2, e3, e4, e11, e12, e13, hlt, hkn, IAx_encI, w1, w2, w3, w4, w5]
      simpa using fin
  · have hcb' : c = b + 1 := by omega
    subst hcb'
    have q := H.paid.s
    have w6 : IntKind.i64.wrap (holdC (nf need) h a (b + 1 - a) + s) = holdC (nf need) h a (b + 1 - a) + s := wrap_i64 (by omega) (by omega)
    have hn1 : ¬ ((b : Int) + 1 ≤ b) := by omega
    unfold lotC
    cases hs : some_ (nf need) a (b + 1 - a) <;> rw [hs] at e12
    · simp [e0, e1, e2, e3, e4, e11, e12, e13, hn1]
    · simp [e0, e1, e2, e3, e4, e11, e12, e13, w6, hn1]

/-! ### Backwards -/
@[simp] theorem inf70 : inf P0 70 = some (1, false) := by kernel_rfl
def bIt (d : Int) : PV := .fn (.func 56) [] [.ref [num d]]
theorem back25_ok (d : Int) : PFun P0 42 [num d] (bIt d) := by
  refine pcalls_frz ?_
  refine pcalls_body Try.func42 rfl rfl rfl (by show 1 ≤ _; decide) (pwp_go n_ok ?_)
  simp
  intro id1
  refine ⟨2, Heap.empty.set id1 (.cells [num d]), Frz.set Frz.none (by simp), ?_⟩
  simp [frzO, frzN, bIt]
def bVs (t : Nat) : List (List PV) := (List.range t).map fun (k : Nat) => [num ((t - 1 - k : Nat) : Int)]
theorem bVs_get {t k : Nat} (h : k < (bVs t).length) : (bVs t)[k] = [num ((t - 1 - k : Nat) : Int)] := by simp [bVs]
theorem bVs_length (t : Nat) : (bVs t).length = t := by simp [bVs]
theorem backIt {t : Nat} (ht : t ≤ 16) : IterC P0 56 [] [.ref [num t]] (bVs t) := by
  intro L I R hI σ h0
  rw [bVs_length] at *
  refine pcalls_body Try.func56 rfl rfl rfl (by show 2 ≤ _; decide) (pwp_go n_ok ?_)
  have w0 : IntKind.i64.wrap ((t : Int) - 1) = (t : Int) - 1 := wrap_i64 (by omega) (by omega)
  simp [w0]
  refine pwp_loop (fun N fr σ => ∃ k : Nat, N = t - k ∧ k ≤ t ∧ fr 0 = .yld L ∧ fr 1 = .ref [num t] ∧ fr 3 = num ((t : Int) - 1 - k) ∧ I k σ)
    (N := t) ⟨0, by simp [h0]⟩ ?_
  rintro N fr σ ⟨k, rfl, hk, e0, e1, e3, hI0⟩
  refine pwp_go n_ok ?_
  by_cases hlt : k < t
  · have hlt' : 0 ≤ (t : Int) - 1 - k := by omega
    have e : (t : Int) - 1 - k = ((t - 1 - k : Nat) : Int) := by omega
    rw [e] at e3
    have w5 : IntKind.i64.wrap (((t - 1 - k : Nat) : Int) - 1) = (t : Int) - 1 - (k + 1 : Nat) := by rw [wrap_i64 (by omega) (by omega)]; omega
    simp [e0, e1, e3]
    refine popsT_yield n_ok (hI k σ (by rw [bVs_length]; exact hlt) hI0) (by simp [e0]) (by simp) (by simp [e0]) (by simp [bVs_get]) ?_
    rintro o' σ' (⟨rfl, h1⟩ | ⟨rfl, h1⟩)
    · simp [e0, e1, e3, w5]
      exact ⟨t - (k + 1), by omega, k + 1, rfl, by omega, by omega, h1⟩
    · simp [h1]
  · have hlt' : ¬ (k : Int) ≤ (t : Int) - 1 := by omega
    simp [e0, e1, e3, hlt']
    rw [show t = k by omega]
    exact .inl hI0
end Go.Proofs.Ytnnablbdakomlaa
