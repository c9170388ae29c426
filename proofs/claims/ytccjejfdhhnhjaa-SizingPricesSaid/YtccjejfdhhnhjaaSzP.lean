/-
  Sizing: the contract of the law SizingPrices.
-/
import Derived.Test.YtccjejfdhhnhjaaSzO
set_option linter.unusedSimpArgs false
set_option linter.unusedVariables false
namespace Go.Proofs.Ytccjejfdhhnhjaa
open Go.Lo

theorem lotC_congr {n m : Nat → Int} {s h : Int} {a t : Nat} (e : ∀ d, d < t → n d = m d) : lotC n s h a t = lotC m s h a t := by
  have h1 : some_ n a (t - a) = some_ m a (t - a) := by
    rw [Bool.eq_iff_iff, some_iff, some_iff]
    constructor
    · rintro ⟨i, h1, h2⟩; exact ⟨i, h1, by rw [← e _ (by omega)]; exact h2⟩
    · rintro ⟨i, h1, h2⟩; exact ⟨i, h1, by rw [e _ (by omega)]; exact h2⟩
  have h2 : holdC n h a (t - a) = holdC m h a (t - a) := sumTo_congr fun i hi => by rw [e _ (by omega)]
  unfold lotC; rw [h1, h2]
theorem price_congr {n m : Nat → Int} {s h : Int} : ∀ t, (∀ d, d < t → n d = m d) → price n s h t = price m s h t := by
  intro t
  induction t using Nat.strongRecOn with
  | _ t ih =>
    intro e
    cases t with
    | zero => rfl
    | succ t =>
      rw [price_succ, price_succ]
      exact minF_congr fun i hi => by rw [ih i (by omega) fun d hd => e d (by omega), lotC_congr e]

/-- The price as the law reads it. -/
def prAt (p : List Int) (t : Int) : Int := if t = 0 then 0 else p.getD (t.toNat - 1) 0
def prE : List PV → EV
  | [.lit (.int .i64 t), .ref [_, _, p]] => ⟨isI p ∧ 0 ≤ t ∧ t ≤ (decI p).length, num (prAt (decI p) t)⟩
  | _ => .no
@[simp] theorem prE_mk (t : Int) (L c p : PV) : prE [num t, .ref [L, c, p]] = ⟨isI p ∧ 0 ≤ t ∧ t ≤ (decI p).length, num (prAt (decI p) t)⟩ := rfl
theorem price22_ok (t : Int) (L c : PV) (p : List Int) (h0 : 0 ≤ t) (h1 : t ≤ p.length) (hp : p.length ≤ maxLen) : PFun P0 22 [num t, .ref [L, c, encI false p]] (num (prAt p t)) := by
  refine pcalls_body Try.func22 rfl rfl rfl (by show 2 ≤ _; decide) (pwp_go n_ok ?_)
  unfold maxLen at hp
  unfold prAt
  by_cases ht : t = 0
  · simp [ht]
  · have hk : t.toNat - 1 < p.length := by omega
    have w1 : IntKind.i64.wrap (t - 1) = ((t.toNat - 1 : Nat) : Int) := by rw [wrap_i64 (by omega) (by omega)]; omega
    simp [ht, w1, IAx_encI, hk]
theorem prE_fun (args : List PV) (hd : (prE args).D) : PFun P0 22 args (prE args).V := by
  unfold prE at hd ⊢
  split at hd
  · rename_i t L c p
    obtain ⟨h0, h1, h2⟩ := hd
    obtain ⟨k1, k2⟩ := isI_le h0
    exact pcalls.args (price22_ok t L c (decI p) h1 h2 k2) (.cons (.refl _) (.cons (.ref (.cons (.refl _) (.cons (.refl _) (.cons k1 .nil)))) .nil))
  · exact hd.elim
def TW : Tab := TU.add 22 fun a _ => prE a
theorem TW_ok : TW.ok P0 := Tab.add_fun TU_ok Try.call22 prE_fun
@[simp] theorem TW_dom10 : TW.dom 10 = true := rfl
@[simp] theorem TW_dom12 : TW.dom 12 = true := rfl
@[simp] theorem TW_dom21 : TW.dom 21 = true := rfl
@[simp] theorem TW_dom22 : TW.dom 22 = true := rfl
@[simp] theorem TW_ev10 (σ : Heap) : TW.ev 10 [] σ = ⟨True, bo true⟩ := TU_ev10 σ
@[simp] theorem TW_ev12 (a : List PV) (σ : Heap) : TW.ev 12 a σ = e3 (fun l s h => ⟨True, sizeR l s h⟩) a := rfl
@[simp] theorem TW_ev21 (a : List PV) (σ : Heap) : TW.ev 21 a σ = e2 (fun l m => ⟨True, bo (decide (l = m))⟩) a := rfl
@[simp] theorem TW_ev22 (a : List PV) (σ : Heap) : TW.ev 22 a σ = prE a := rfl

/-- The price of the first t days, as the law reads it. -/
theorem price_at {need : List Int} {s h : Int} {t : Nat} (ht : t ≤ need.length) : prAt (pricesL need s h) (t : Int) = price (nf need) s h t := by
  unfold prAt
  cases t with
  | zero => rfl
  | succ t =>
    rw [if_neg (by omega), show (((t + 1 : Nat) : Int).toNat - 1) = t by omega, List.getD_eq_getElem?_getD]
    simp [pricesL, show t < need.length by omega]

theorem valid_take {need : List Int} {s h : Int} (hv : validS need s h = true) (k : Nat) : validS (need.take k) s h = true := by
  simp only [validS, Bool.and_eq_true, decide_eq_true_eq, List.length_take, List.all_eq_true] at hv ⊢
  exact ⟨fun x hx => hv.1 x (List.mem_of_mem_take hx), ⟨Int.le_trans (Int.ofNat_le.2 (Nat.min_le_right _ _)) hv.2.1.1, hv.2.1.2⟩, hv.2.2⟩
theorem nf_take {need : List Int} {k d : Nat} (h : d < k) : nf (need.take k) d = nf need d := by
  unfold nf
  rw [List.getD_eq_getElem?_getD, List.getD_eq_getElem?_getD, List.getElem?_take_of_lt h]
theorem pricesL_take {need : List Int} {s h : Int} {k : Nat} (hk : k ≤ need.length) : pricesL (need.take k) s h = (pricesL need s h).take k := by
  unfold pricesL
  rw [List.length_take, Nat.min_eq_left hk, ← List.map_take, List.take_range, Nat.min_eq_left hk]
  refine List.map_congr_left fun t ht => ?_
  rw [List.mem_range] at ht
  exact price_congr _ fun d hd => nf_take (by omega)
set_option maxRecDepth 8000 in
theorem prices_law (need : List Int) (s h x : Int) (hn : need.length ≤ maxLen) (hx : 0 ≤ x ∧ x < 256) : PFun P0 7 [encI false need, num s, num h, .lit (.int .u8 x)] (bo true) := by
  refine pcalls_body Try.func7 rfl rfl rfl (by show 4 ≤ _; decide) (pwp_go TW_ok ?_)
  by_cases hv : validS need s h = true
  · have H := ok_of hv
    have hf := H.few
    have hnl : (need.length : Int) ≤ 16 := by omega
    simp (config := { contextual := true }) [hn, hv, sizeR_ok hv, hnl, pricesL_length]
    intro id9
    obtain ⟨CL, hCL⟩ : ∃ CL : PV, CL = .fn (.func 22) [] [.ref [encI true (lotsL need (bestS need s h)), num (price (nf need) s h need.length), encI false (pricesL need s h)]] := ⟨_, rfl⟩
    refine pwpT_go (pwp_frz 2 (Heap.empty.set id9 (.cells [encI true (lotsL need (bestS need s h)), num (price (nf need) s h need.length), encI false (pricesL need s h)])) (Frz.set Frz.none (by simp)) ?_)
    refine pwp_loop (fun N fr σ => ∃ t : Nat, N = need.length - t ∧ t ≤ need.length ∧ fr 0 = encI false need ∧ fr 1 = num s ∧ fr 2 = num h ∧ fr 3 = .lit (.int .u8 x) ∧ fr 9 = .ref [encI true (lotsL need (bestS need s h)), num (price (nf need) s h need.length), encI false (pricesL need s h)] ∧ fr 11 = CL ∧ fr 43 = num need.length ∧ fr 44 = num t)
      (N := need.length) ?_ ?_
    · refine ⟨0, ?_⟩
      simp [hCL]
    rintro N fr σ ⟨t, rfl, ht, e0, e1, e2, e3, e9, e11, e43, e44⟩
    refine pwp_go TW_ok ?_
    by_cases htn : t < need.length
    · have wt := wrap_succ (k := t) (by omega)
      simp [e0, e1, e2, e3, e9, e11, e43, e44, htn]
      refine pwp_loop (fun N fr σ => ∃ c : Nat, N = t + 1 - c ∧ c ≤ t + 1 ∧ fr 0 = encI false need ∧ fr 1 = num s ∧ fr 2 = num h ∧ fr 3 = .lit (.int .u8 x) ∧ fr 9 = .ref [encI true (lotsL need (bestS need s h)), num (price (nf need) s h need.length), encI false (pricesL need s h)] ∧ fr 11 = CL ∧ fr 43 = num need.length ∧ fr 44 = num t ∧
        fr 12 = num t ∧ fr 14 = num c ∧ fr 13 = bo ((List.range c).any fun r => decide (price (nf need) s h r + lotC (nf need) s h r (t + 1) = price (nf need) s h (t + 1)))) (N := t + 1) ?_ ?_
      · refine ⟨0, ?_⟩
        simp [e0, e1, e2, e3, e9, e11, e43, e44]
      clear e0 e1 e2 e3 e9 e11 e43 e44
      rintro N fr σ ⟨c, rfl, hc, e0, e1, e2, e3, e9, e11, e43, e44, e12, e14, e13⟩
      refine pwp_go TW_ok ?_
      by_cases hct : c ≤ t
      · simp [e0, e1, e2, e3, e9, e11, e43, e44, e12, e14, e13, hct]
        refine pwp_loop (fun N fr σ => ∃ u : Nat, N = t + 1 - u ∧ c ≤ u ∧ u ≤ t + 1 ∧ fr 0 = encI false need ∧ fr 1 = num s ∧ fr 2 = num h ∧ fr 3 = .lit (.int .u8 x) ∧ fr 9 = .ref [encI true (lotsL need (bestS need s h)), num (price (nf need) s h need.length), encI false (pricesL need s h)] ∧ fr 11 = CL ∧ fr 43 = num need.length ∧ fr 44 = num t ∧
          fr 12 = num t ∧ fr 14 = num c ∧ fr 13 = bo ((List.range c).any fun r => decide (price (nf need) s h r + lotC (nf need) s h r (t + 1) = price (nf need) s h (t + 1))) ∧
          fr 15 = num (holdC (nf need) h c (u - c)) ∧ fr 16 = bo (some_ (nf need) c (u - c)) ∧ fr 17 = num u) (N := t + 1 - c) ?_ ?_
        · refine ⟨c, ?_⟩
          simp [e0, e1, e2, e3, e9, e11, e43, e44, e12, e14, e13, holdC, sumTo, some_zero]
          omega
        clear e0 e1 e2 e3 e9 e11 e43 e44 e12 e14 e13
        rintro N fr σ ⟨u, rfl, hcu, hut, e0, e1, e2, e3, e9, e11, e43, e44, e12, e14, e13, e15, e16, e17⟩
        refine pwp_go TW_ok ?_
        have c1 := H.hold c (show u - c ≤ 16 by omega)
        by_cases hlt : u ≤ t
        · have hkn : u < need.length := by omega
          have hn' := H.need u
          have ht' := H.term u (u - c) (by omega)
          have hc1 : u + 1 - c = u - c + 1 := by omega
          have hsh : holdC (nf need) h c (u + 1 - c) = holdC (nf need) h c (u - c) + h * ((u - c : Nat) : Int) * nf need u := by
            rw [hc1]; show _ + h * ((u - c : Nat) : Int) * nf need (c + (u - c)) = _; rw [show c + (u - c) = u by omega]; rfl
          have hss : some_ (nf need) c (u + 1 - c) = (some_ (nf need) c (u - c) || decide (0 < nf need u)) := by
            rw [hc1, some_succ, show c + (u - c) = u by omega]
          rw [nf_get hkn] at hn' ht' hsh hss
          have w1 : IntKind.i64.wrap ((u : Int) - (c : Int)) = ((u - c : Nat) : Int) := by rw [wrap_i64 (by omega) (by omega)]; omega
          have w2 : IntKind.i64.wrap (h * ((u - c : Nat) : Int)) = h * ((u - c : Nat) : Int) := wrap_i64 (by omega) (by omega)
          have w3 : IntKind.i64.wrap (h * ((u - c : Nat) : Int) * need[u]) = h * ((u - c : Nat) : Int) * need[u] := wrap_i64 (by omega) (by omega)
          have w4 : IntKind.i64.wrap (holdC (nf need) h c (u - c) + h * ((u - c : Nat) : Int) * need[u]) = holdC (nf need) h c (u + 1 - c) := by
            rw [wrap_i64 (by omega) (by omega), hsh]
          have w5 := wrap_succ (k := u) (by omega)
          have fin : ∃ N', N' < t + 1 - u ∧ ∃ u' : Nat, N' = t + 1 - u' ∧ c ≤ u' ∧ u' ≤ t + 1 ∧ holdC (nf need) h c (u + 1 - c) = holdC (nf need) h c (u' - c) ∧ some_ (nf need) c (u + 1 - c) = some_ (nf need) c (u' - c) ∧ ((u + 1 : Nat) : Int) = (u' : Int) :=
            ⟨t + 1 - (u + 1), by omega, u + 1, rfl, by omega, by omega, rfl, rfl, rfl⟩
          generalize holdC (nf need) h c (u + 1 - c) = X at *
          generalize some_ (nf need) c (u + 1 - c) = Y at *
          cases hs : some_ (nf need) c (u - c) <;> rw [hs] at e16 hss
          · by_cases hz : 0 < need[u]
            · have hY : Y = true := by rw [hss]; simp [hz]
              subst hY
              simp [e0, e1, e2, e3, e9, e11, e43, e44, e12, e14, e13, e15, e16, e17, hlt, hkn, IAx_encI, hz, w1, w2, w3, w4, w5]
              simpa using fin
            · have hY : Y = false := by rw [hss]; simp [hz]
              subst hY
              simp [e0, e1, e2, e3, e9, e11, e43, e44, e12, e14, e13, e15, e16, e17, hlt, hkn, IAx_encI, hz, w1, w2, w3, w4, w5]
              simpa using fin
          · have hY : Y = true := by rw [hss]; simp
            subst hY
            simp [e0, e1, e2, e3, e9, e11, e43, e44, e12, e14, e13, e15, e16, e17, hlt, hkn, IAx_encI, w1, w2, w3, w4, w5]
            simpa using fin
        · have hut' : u = t + 1 := by omega
          subst hut'
          have q := H.paid.s
          have b1 := H.price c (by omega)
          have b2 := H.lot c (t + 1) (by omega)
          have b3 := H.price (t + 1) (by omega)
          have hple := price_le (nf need) s h (show c < t + 1 by omega)
          have hnlt : ¬ price (nf need) s h c + lotC (nf need) s h c (t + 1) < price (nf need) s h (t + 1) := by omega
          have w6 : IntKind.i64.wrap (holdC (nf need) h c (t + 1 - c) + s) = holdC (nf need) h c (t + 1 - c) + s := wrap_i64 (by omega) (by omega)
          have w7 : IntKind.i64.wrap (price (nf need) s h c + lotC (nf need) s h c (t + 1)) = price (nf need) s h c + lotC (nf need) s h c (t + 1) := wrap_i64 (by omega) (by omega)
          have wt1 := wrap_succ (k := t) (by omega)
          have wc1 := wrap_succ (k := c) (by omega)
          have hn1 : ¬ ((t : Int) + 1 ≤ t) := by omega
          have hcn : (c : Int) ≤ need.length := by omega
          have htn' : (t : Int) + 1 ≤ need.length := by omega
          have p1 := price_at (s := s) (h := h) (show c ≤ need.length by omega)
          have p2 : prAt (pricesL need s h) ((t : Int) + 1) = price (nf need) s h (t + 1) := price_at (s := s) (h := h) (show t + 1 ≤ need.length by omega)
          have hpl : (pricesL need s h).length ≤ maxLen := by rw [pricesL_length]; exact hn
          have hsucc : ((List.range (c + 1)).any fun r => decide (price (nf need) s h r + lotC (nf need) s h r (t + 1) = price (nf need) s h (t + 1))) = (((List.range c).any fun r => decide (price (nf need) s h r + lotC (nf need) s h r (t + 1) = price (nf need) s h (t + 1))) || decide (price (nf need) s h c + lotC (nf need) s h c (t + 1) = price (nf need) s h (t + 1))) := by
            rw [List.range_succ, List.any_append]; simp
          have hl1 : lotC (nf need) s h c (t + 1) = if some_ (nf need) c (t + 1 - c) then holdC (nf need) h c (t + 1 - c) + s else 0 := rfl
          generalize hB : ((List.range c).any fun r => decide (price (nf need) s h r + lotC (nf need) s h r (t + 1) = price (nf need) s h (t + 1))) = B at *
          have hz : some_ (nf need) c (t + 1 - c) = false → holdC (nf need) h c (t + 1 - c) = 0 := fun hs => sumTo_zero fun i hi => by rw [none_need H.nonneg hs i hi]; simp
          have fin : ∀ B' : Bool, B' = ((List.range (c + 1)).any fun r => decide (price (nf need) s h r + lotC (nf need) s h r (t + 1) = price (nf need) s h (t + 1))) →
            ∃ N', N' < t + 1 - c ∧ ∃ c' : Nat, N' = t + 1 - c' ∧ c' ≤ t + 1 ∧ ((c : Int) + 1) = c' ∧ B' = ((List.range c').any fun r => decide (price (nf need) s h r + lotC (nf need) s h r (t + 1) = price (nf need) s h (t + 1))) := fun B' hB' =>
              ⟨t + 1 - (c + 1), by omega, c + 1, rfl, by omega, by omega, hB'⟩
          have hco : 0 ≤ (c : Int) := by omega
          have hto : 0 ≤ (t : Int) + 1 := by omega
          cases hs : some_ (nf need) c (t + 1 - c) <;> rw [hs] at e16 hl1
          · have hX := hz hs
            rw [hX] at e15
            simp only [Bool.false_eq_true, if_false] at hl1
            rw [hl1] at w7 hnlt hsucc
            rw [Int.add_zero] at w7 hnlt hsucc
            by_cases heq : price (nf need) s h c = price (nf need) s h (t + 1)
            · have hq := hn
              rw [decide_eq_true heq, Bool.or_true] at hsucc
              have w8 : IntKind.i64.wrap (price (nf need) s h (t + 1)) = price (nf need) s h (t + 1) := wrap_i64 (by omega) (by omega)
              have f2 := fin true hsucc.symm
              cases B <;> simp [hn, hq, e0, e1, e2, e3, e9, e11, e43, e44, e12, e14, e13, e15, e16, e17, hn1, hCL, hpl, pricesL_length, hcn, htn', wt1, wc1, p1, p2, heq, w8, hco, hto] <;> simpa using f2
            · have hq : (price (nf need) s h c == price (nf need) s h (t + 1)) = false := by simp [heq]
              rw [decide_eq_false heq, Bool.or_false] at hsucc
              have f2 := fin B hsucc.symm
              cases B <;> simp [hn, hq, e0, e1, e2, e3, e9, e11, e43, e44, e12, e14, e13, e15, e16, e17, hn1, hCL, hpl, pricesL_length, hcn, htn', wt1, wc1, p1, p2, heq, w7, hnlt, hco, hto] <;> simpa using f2
          · simp only [if_true] at hl1
            rw [← hl1] at w6
            by_cases heq : price (nf need) s h c + lotC (nf need) s h c (t + 1) = price (nf need) s h (t + 1)
            · have hq := hn
              rw [decide_eq_true heq, Bool.or_true] at hsucc
              have f2 := fin true hsucc.symm
              have w8 : IntKind.i64.wrap (price (nf need) s h (t + 1)) = price (nf need) s h (t + 1) := wrap_i64 (by omega) (by omega)
              cases B <;> simp [hn, hq, e0, e1, e2, e3, e9, e11, e43, e44, e12, e14, e13, e15, e16, e17, hn1, hCL, hpl, pricesL_length, hcn, htn', wt1, wc1, p1, p2, ← hl1, w6, heq, w8, hco, hto] <;> simpa using f2
            · have hq : (price (nf need) s h c + lotC (nf need) s h c (t + 1) == price (nf need) s h (t + 1)) = false := by simp [heq]
              rw [decide_eq_false heq, Bool.or_false] at hsucc
              have f2 := fin B hsucc.symm
              cases B <;> simp [hn, hq, e0, e1, e2, e3, e9, e11, e43, e44, e12, e14, e13, e15, e16, e17, hn1, hCL, hpl, pricesL_length, hcn, htn', wt1, wc1, p1, p2, ← hl1, w6, heq, w7, hnlt, hco, hto] <;> simpa using f2
      · have hct' : c = t + 1 := by omega
        subst hct'
        have hn1 : ¬ ((t : Int) + 1 ≤ t) := by omega
        have hmet : ((List.range (t + 1)).any fun r => decide (price (nf need) s h r + lotC (nf need) s h r (t + 1) = price (nf need) s h (t + 1))) = true := by
          obtain ⟨r, r1, r2⟩ := price_met (nf need) s h (show 0 < t + 1 by omega)
          exact List.any_eq_true.2 ⟨r, List.mem_range.2 r1, by simp [r2]⟩
        rw [hmet] at e13
        simp [e0, e1, e2, e3, e9, e11, e43, e44, e12, e14, e13, hn1, wt]
        exact ⟨need.length - (t + 1), by omega, t + 1, rfl, by omega, by omega⟩
    · have htn' : t = need.length := by omega
      subst htn'
      obtain ⟨k, hk, hkn⟩ : ∃ k : Nat, x.tmod ((need.length : Int) + 1) = (k : Int) ∧ k ≤ need.length := by
        have q1 := Int.emod_nonneg x (show (need.length : Int) + 1 ≠ 0 by omega)
        have q2 := Int.emod_lt_of_pos x (show (0 : Int) < (need.length : Int) + 1 by omega)
        rw [Int.tmod_eq_emod_of_nonneg hx.1]
        exact ⟨(x % ((need.length : Int) + 1)).toNat, by omega, by omega⟩
      have wx : IntKind.i64.wrap x = x := wrap_i64 (by omega) (by omega)
      have wn : IntKind.i64.wrap ((need.length : Int) + 1) = (need.length : Int) + 1 := wrap_i64 (by omega) (by omega)
      have ne0 : ¬ ((need.length : Int) + 1 = 0) := by omega
      have hkI : (k : Int) ≤ need.length := by omega
      have hk0 : 0 ≤ (k : Int) := by omega
      have hv' := valid_take hv k
      have hl' : (need.take k).length ≤ maxLen := by rw [List.length_take]; omega
      have hc : price (nf (need.take k)) s h k = price (nf need) s h k := price_congr k fun d hd => nf_take hd
      have hq : pricesL (need.take k) s h = (pricesL need s h).take k := pricesL_take hkn
      have hkm : k ≤ maxLen := by omega
      have hpk := price_at (s := s) (h := h) hkn
      have hpl : (pricesL need s h).length ≤ maxLen := by rw [pricesL_length]; exact hn
      have hplk : ((pricesL need s h).take k).length ≤ maxLen := by rw [List.length_take]; omega
      simp [-NEW_def, hn, e0, e1, e2, e3, e9, e11, e43, e44, wx, wn, ne0, hk, Slx_encI0, hkn, sizeR_ok hv', hl', hkm, hc, hq]
      refine fun id hid => ?_
      simp [hid]
      refine pwpT_go (pwp_frz 2 (Heap.empty.set id (.cells [encI true (lotsL (need.take k) (bestS (need.take k) s h)), num (price (nf need) s h k), encI false ((pricesL need s h).take k)])) (Frz.set Frz.none (by simp)) ?_)
      refine pwp_drawT TW_ok 19 mixed (by kernel_rfl) ?_
      simp [hn, hkm, hCL, e9, e11, hpl, hplk, hkn, hkI, hk0, hpk, pricesL_length, Slx_encI0]
  · simp (config := { contextual := true }) [hn, hv, sizeR_no hv]
end Go.Proofs.Ytccjejfdhhnhjaa
