/-
  Sizing: what the functions compute, part J: the reference's Size.
-/
import Derived.Test.YtccjejfdhhnhjaaSzI
set_option linter.unusedSimpArgs false
set_option linter.unusedVariables false
namespace Go.Proofs.Ytccjejfdhhnhjaa
open Go.Lo

def ofE : List PV → EV
  | [a, .lit (.int .i64 m)] => ⟨isI a ∧ (∃ s h, Ok (decI a) s h) ∧ 0 ≤ m ∧ m < 65536, ofR (decI a) m.toNat⟩
  | _ => .no
@[simp] theorem ofE_mk (a : PV) (m : Int) : ofE [a, num m] = ⟨isI a ∧ (∃ s h, Ok (decI a) s h) ∧ 0 ≤ m ∧ m < 65536, ofR (decI a) m.toNat⟩ := rfl
theorem ofE_fun (args : List PV) (hd : (ofE args).D) : PFun P0 20 args (ofE args).V := by
  unfold ofE at hd ⊢
  split at hd
  · rename_i a m
    obtain ⟨h0, ⟨s, h, H⟩, h1, h2⟩ := hd
    obtain ⟨k1, k2⟩ := isI_le h0
    have := of20_ok (decI a) s h H m.toNat (by omega)
    rw [show ((m.toNat : Nat) : Int) = m by omega] at this
    exact pcalls.args this (.cons k1 (.cons (.refl _) .nil))
  · exact hd.elim
def TQ : Tab := (TB.add 20 fun a _ => ofE a).add 27 fun a _ => e3 (fun l s h => ⟨Ok l s h, encI false (pricesL l s h)⟩) a
theorem TQ_ok : TQ.ok P0 := Tab.add_fun (Tab.add_fun TB_ok Try.call20 ofE_fun) Try.call27 (e3_fun fun l s h hl H => prices27_ok l s h H hl)
@[simp] theorem TQ_dom20 : TQ.dom 20 = true := rfl
@[simp] theorem TQ_dom27 : TQ.dom 27 = true := rfl
@[simp] theorem TQ_dom19 : TQ.dom 19 = true := rfl
@[simp] theorem TQ_dom26 : TQ.dom 26 = true := rfl
@[simp] theorem TQ_ev20 (a : List PV) (σ : Heap) : TQ.ev 20 a σ = ofE a := rfl
@[simp] theorem TQ_ev27 (a : List PV) (σ : Heap) : TQ.ev 27 a σ = e3 (fun l s h => ⟨Ok l s h, encI false (pricesL l s h)⟩) a := rfl
@[simp] theorem TQ_ev19 (a : List PV) (σ : Heap) : TQ.ev 19 a σ = e3 (fun l s h => ⟨True, bo (validS l s h)⟩) a := rfl
@[simp] theorem TQ_ev26 (a : List PV) (σ : Heap) : TQ.ev 26 a σ = e4 (fun l m s h => ⟨Small l m ∧ Paid s h ∧ coversS l m = true, num (C_ l m s h m.length)⟩) a := rfl

/-- The best set. -/
def bestS (need : List Int) (s h : Int) : Nat → Bool := best (nf need) s h need.length
def bestN (need : List Int) (s h : Int) : Nat := setN (bestS need s h) need.length
def nilS : PV := .lit (.slice none 0 0)
def sizeR (need : List Int) (s h : Int) : PV := if validS need s h then .tup [.agg [encI true (lotsL need (bestS need s h)), num (price (nf need) s h need.length), encI false (pricesL need s h)], num 0] else .tup [.agg [nilS, num 0, nilS], num 220]

theorem shl_one {n M : Nat} (hn : n ≤ 16) (hM : M = 2 ^ n) : shlI .i64 1 (n : Int) = (M : Int) ∧ M ≤ 65536 := by
  have h1 : M ≤ 65536 := by rw [hM]; exact Nat.pow_le_pow_right (n := 2) (by omega) hn
  refine ⟨?_, h1⟩
  unfold shlI
  rw [show IntKind.i64.bits = 64 from rfl, Int.toNat_natCast, Nat.min_eq_left (by omega)]
  rw [show (1 : Int) * 2 ^ n = (M : Int) by rw [Int.one_mul, hM]; norm_cast]
  exact wrap_i64 (by omega) (by omega)
theorem lt_of_bits {x y d : Nat} (hx : x.testBit d = false) (hy : y.testBit d = true) (h : ∀ j, d < j → x.testBit j = y.testBit j) : x < y := by
  have e : x / 2 ^ (d + 1) = y / 2 ^ (d + 1) := Nat.eq_of_testBit_eq fun i => by
    rw [Nat.testBit_div_two_pow, Nat.testBit_div_two_pow]; exact h _ (by omega)
  have h1 := Nat.div_add_mod x (2 ^ (d + 1))
  have h2 := Nat.div_add_mod y (2 ^ (d + 1))
  rw [e] at h1
  have h3 : x % 2 ^ (d + 1) = x % 2 ^ d + 2 ^ d * (x / 2 ^ d % 2) := Nat.mod_pow_succ
  have h4 : y % 2 ^ (d + 1) = y % 2 ^ d + 2 ^ d * (y / 2 ^ d % 2) := Nat.mod_pow_succ
  rw [Nat.testBit_eq_decide_div_mod_eq] at hx hy
  have hx : x / 2 ^ d % 2 = 0 := by have := Nat.mod_lt (x / 2 ^ d) (show 2 > 0 by omega); simp at hx; omega
  have hy : y / 2 ^ d % 2 = 1 := by simpa using hy
  rw [hx, Nat.mul_zero] at h3; rw [hy, Nat.mul_one] at h4
  have h5 : x % 2 ^ d < 2 ^ d := Nat.mod_lt _ (Nat.two_pow_pos d)
  omega

/-- The lots of a possible set, in the words of the functions. -/
theorem pos_small {need : List Int} {s h : Int} (H : Ok need s h) {S : Nat → Bool} (hp : posB need S = true) : Small need (lotsL need S) ∧ coversS need (lotsL need S) = true ∧ C_ need (lotsL need S) s h need.length = costF (nf need) (lotsTo (nf need) S need.length) s h need.length := by
  have hP := (posB_iff need S).1 hp
  have hf := H.few
  refine ⟨⟨(lotsL_length need S).symm, by rw [lotsL_length]; exact hf, H.need, fun d => ?_⟩, ?_, ?_⟩
  · rw [nf_lotsL]
    have := H.lots S d need.length
    omega
  · rw [coversS_iff]
    intro d hd
    rw [lotsL_length] at hd
    rw [heldF_congr (m := lotsTo (nf need) S need.length) fun i _ => nf_lotsL need S i]
    exact (hP.held H.nonneg need.length).1 d hd
  · exact costF_congr fun i _ => nf_lotsL need S i
theorem best_posB {need : List Int} {s h : Int} (H : Ok need s h) : posB need (bestS need s h) = true := (posB_iff _ _).2 (best_pos H.nonneg need.length)
theorem bestN_bit {need : List Int} {s h : Int} (d : Nat) : (bestN need s h).testBit d = bestS need s h d := by
  unfold bestN
  rw [setN_bit]
  by_cases hd : d < need.length
  · simp [hd]
  · rw [decide_eq_false hd, Bool.false_and]
    cases e : bestS need s h d with
    | false => rfl
    | true => exact absurd (best_lt _ _ e) hd
theorem bestN_fun (need : List Int) (s h : Int) : (bestN need s h).testBit = bestS need s h := funext fun d => bestN_bit d
/-- A set that costs as little is no greater number. -/
theorem tie_le {need : List Int} {s h : Int} (H : Ok need s h) {m : Nat} (hm : m < 2 ^ need.length) (hp : posB need m.testBit = true)
    (hc : costF (nf need) (lotsTo (nf need) m.testBit need.length) s h need.length = price (nf need) s h need.length) : m ≤ bestN need s h := by
  have hg : bestN need s h < 2 ^ need.length := setN_lt _ _
  rcases best_tie H.nonneg H.paid.s.1 H.paid.h.1 need.length ((posB_iff _ _).1 hp) hc with h1 | ⟨d, d1, d2, d3, d4⟩
  · exact Nat.le_of_eq (bits_eq hm hg fun d hd => by rw [bestN_bit]; exact h1 d hd)
  · refine Nat.le_of_lt (lt_of_bits d2 (by rw [bestN_bit]; exact d3) fun j hj => ?_)
    rw [bestN_bit]
    rcases Nat.lt_or_ge j need.length with h5 | h5
    · exact d4 j hj h5
    · rw [Nat.testBit_lt_two_pow (Nat.lt_of_lt_of_le hm (Nat.pow_le_pow_right (by omega) h5))]
      cases e : bestS need s h j with
      | false => rfl
      | true => exact absurd (best_lt _ _ e) (by omega)

/-- What is best of the sets from c on. -/
def Bst (need : List Int) (s h : Int) (c : Nat) (v : PV) (x : Int) : Prop :=
  (bestN need s h < c → x = -1 ∨ price (nf need) s h need.length < x) ∧ (c ≤ bestN need s h → v = encI true (lotsL need (bestS need s h)) ∧ x = price (nf need) s h need.length)

theorem size13_ok (need : List Int) (s h : Int) (hl : need.length ≤ maxLen) : PFun P0 13 [encI false need, num s, num h] (sizeR need s h) := by
  refine pcalls_body Try.func13 rfl rfl rfl (by show 3 ≤ _; decide) (pwp_go TQ_ok ?_)
  unfold sizeR
  by_cases hv : validS need s h = true
  · have H := ok_of hv
    have hf := H.few
    obtain ⟨M, hM⟩ : ∃ M, M = 2 ^ need.length := ⟨_, rfl⟩
    obtain ⟨hsh, hM2⟩ := shl_one hf hM
    have w0 : IntKind.i64.wrap ((M : Int) - 1) = (M : Int) - 1 := wrap_i64 (by omega) (by omega)
    have hg : bestN need s h < M := by rw [hM]; exact setN_lt _ _
    simp (config := { contextual := true }) [hl, hv, hsh, w0]
    intro id6 id8 a1
    refine pwp_loop (fun N fr σ => ∃ (c : Nat) (v : PV) (x : Int), N = c ∧ c ≤ M ∧ fr 0 = encI false need ∧ fr 1 = num s ∧ fr 2 = num h ∧ fr 6 = .ptr id6 0 ∧ fr 8 = .ptr id8 0 ∧ fr 9 = num ((c : Int) - 1) ∧
      (∃ y, σ id6 = some (.cells y) ∧ y.length = 3) ∧ σ id8 = some (.cells [v, num x, nilS]) ∧ isCell1 v = true ∧ Bst need s h c v x)
      (N := M) ?_ ?_
    · refine ⟨M, nilS, -1, rfl, Nat.le_refl _, ?_⟩
      simp [a1, nilS, Bst]
      intro hh; omega
    · rintro c fr σ ⟨_, v, x, rfl, hc, e0, e1, e2, e6, e8, e9, ⟨y, s6, hy⟩, s8, hv1, hB⟩
      refine pwp_go TQ_ok ?_
      rcases Nat.eq_zero_or_pos c with h0 | h0
      · subst h0
        obtain ⟨b1, b2⟩ := hB.2 (Nat.zero_le _)
        subst b1 b2
        obtain ⟨y0, y1, y2, rfl⟩ : ∃ y0 y1 y2, y = [y0, y1, y2] := by
          match y, hy with
          | [y0, y1, y2], _ => exact ⟨_, _, _, rfl⟩
        simp [e0, e1, e2, e6, e8, e9, s6, s8, a1, hl, H, nilS]
        exact hv
      · obtain ⟨m, rfl⟩ : ∃ m, c = m + 1 := ⟨c - 1, by omega⟩
        have e9' : fr 9 = num (m : Int) := by rw [e9]; congr 2; omega
        have hm : m < 2 ^ need.length := by omega
        have w1 : IntKind.i64.wrap ((m : Int) - 1) = (m : Int) - 1 := wrap_i64 (by omega) (by omega)
        cases hp : posB need m.testBit with
        | false =>
          have hof : ofR need m = .tup [nilS, bo false] := by unfold ofR; rw [hp]; rfl
          simp [e0, e1, e2, e6, e8, e9', s6, s8, a1, hl, H, nilS, hof, w1]
          have hmg : m ≠ bestN need s h := fun e => by rw [e, bestN_fun, best_posB H] at hp; cases hp
          refine ⟨⟨⟨s, h, H⟩, by omega⟩, m, by omega, by omega, rfl, hy, v, x, ⟨rfl, rfl⟩, hv1, fun h1 => hB.1 (by omega), fun h1 => hB.2 (by omega)⟩
        | true =>
          have hof : ofR need m = .tup [encI true (lotsL need m.testBit), bo true] := by unfold ofR; rw [hp]; rfl
          obtain ⟨q1, q2, q3⟩ := pos_small H hp
          simp [e0, e1, e2, e6, e8, e9', s6, s8, a1, hl, H, nilS, hof, w1]
          have hP := (posB_iff _ _).1 hp
          have hge := hP.ge (setup := s) (hold := h) H.nonneg H.paid.s.1 H.paid.h.1
          have hpr := (H.price need.length (by omega)).1
          have heq : m = bestN need s h → costF (nf need) (lotsTo (nf need) m.testBit need.length) s h need.length = price (nf need) s h need.length := fun e => by
            rw [e, bestN_fun]; exact best_cost H.nonneg H.paid.s.1 H.paid.h.1 need.length
          have htie : bestN need s h < m → costF (nf need) (lotsTo (nf need) m.testBit need.length) s h need.length ≠ price (nf need) s h need.length := fun h1 h2 => by
            have := tie_le H hm hp h2; omega
          rw [lotsL_length, q3]
          generalize costF (nf need) (lotsTo (nf need) m.testBit need.length) s h need.length = X at *
          refine ⟨⟨⟨s, h, H⟩, by omega⟩, ⟨hl, q1, H.paid, q2⟩, fun hlt => ?_, fun h1 h2 => ?_⟩
          · refine ⟨m, by omega, by omega, rfl, hy, _, _, ⟨rfl, rfl⟩, rfl, fun h1 => ?_, fun h1 => ?_⟩
            · have := htie h1; right; omega
            · rcases Nat.lt_or_ge m (bestN need s h) with h2 | h2
              · have := (hB.2 h2).2; omega
              · have e : m = bestN need s h := by omega
                exact ⟨by rw [e, bestN_fun], heq e⟩
          · refine ⟨m, by omega, by omega, rfl, hy, _, _, ⟨rfl, rfl⟩, hv1, fun h3 => hB.1 (by omega), fun h3 => ?_⟩
            rcases Nat.lt_or_ge m (bestN need s h) with h4 | h4
            · exact hB.2 h4
            · have e : m = bestN need s h := by omega
              have := heq e
              have := hB.1 (by omega)
              omega
  · simp (config := { contextual := true }) [hl, hv, nilS]
end Go.Proofs.Ytccjejfdhhnhjaa
