/-
  Prices: the contract of the law PricesTight.
-/
import Derived.Test.YtnnablbdakomlaaPrW
set_option linter.unusedSimpArgs false
set_option linter.unusedVariables false
namespace Go.Proofs.Ytnnablbdakomlaa
open Go.Lo

theorem sizeR_ok {need : List Int} {s h : Int} (hv : validS need s h = true) : sizeR need s h = .tup [.agg [encI true (lotsL need (bestS need s h)), num (price (nf need) s h need.length), encI false (pricesL need s h)], num 0] := by
  unfold sizeR; rw [if_pos hv]
theorem sizeR_no {need : List Int} {s h : Int} (hv : ¬ validS need s h = true) : sizeR need s h = .tup [.agg [.lit (.slice none 0 0), num 0, .lit (.slice none 0 0)], num 220] := by
  unfold sizeR; rw [if_neg hv]; rfl
theorem fS_prices {a : List Int} {s h : Int} {t : Nat} (ht : t ≤ a.length) : fS (pricesL a s h) t = price (nf a) s h t := by
  cases t with
  | zero => rfl
  | succ t =>
    have hk : t < (pricesL a s h).length := by rw [pricesL_length]; omega
    rw [fS_succ, nf_get hk, pricesL_get hk]
theorem sl_prices {a : List Int} {s h : Int} {x t : Nat} (hx : x ≤ t) (ht : t < a.length) : sl a s h (pricesL a s h) x t = slackF (nf a) s h (price (nf a) s h) x t := by
  unfold sl slackF
  rw [fS_prices (by omega), fS_prices (by omega)]
theorem priced_prices {a : List Int} {s h : Int} (H : Ok a s h) : pricedS a (pricesL a s h) = true := by
  have hf := H.few
  simp only [pricedS, Bool.and_eq_true, decide_eq_true_eq, Bool.not_eq_true', List.any_eq_false, pricesL_length]
  refine ⟨trivial, fun x hx => ?_⟩
  obtain ⟨t, ht, rfl⟩ := List.mem_map.1 hx
  have ht := List.mem_range.1 ht
  have := H.price (t + 1) (by omega)
  simp only [greatS, Bool.or_eq_true, decide_eq_true_eq]
  omega
theorem bound_prices {a : List Int} {s h : Int} : boundS a s h (pricesL a s h) = true := boundS_iff.2 fun x t hx ht => by
  have h1 := sl_prices (s := s) (h := h) hx ht
  have h2 := price_proof (n := nf a) (s := s) (h := h) (N := a.length) x t hx ht
  have h3 : sl a s h (pricesL a s h) x t = slackF (nf a) s h (fS (pricesL a s h)) x t := rfl
  omega
theorem tiS_mem {a : List Int} {s h : Int} {p : List Int} {x : Nat} : x ∈ tiS a s h p ↔ ∃ t, x ≤ t ∧ t < a.length ∧ some_ (nf a) x (t + 1 - x) = true ∧ sl a s h p x t = 0 := by
  unfold tiS
  rw [tightDays_mem]
  constructor
  · rintro ⟨_, t, h1, h2, h3⟩
    simp only [tiQ, Bool.and_eq_true, decide_eq_true_eq] at h3
    exact ⟨t, h1, h2, h3.1, h3.2⟩
  · rintro ⟨t, h1, h2, h3, h4⟩
    exact ⟨by omega, t, h1, h2, by simp [tiQ, h3, h4]⟩
theorem lots_tight {a : List Int} {s h : Int} {k : Nat} (hk : k < a.length) (hz : nf (lotsL a (bestS a s h)) k ≠ 0) : k ∈ tiS a s h (pricesL a s h) := by
  rw [nf_lotsL] at hz
  have hb : best (nf a) s h a.length k = true := by
    cases e : best (nf a) s h a.length k with
    | true => rfl
    | false => exact absurd (lotsTo_out (.inr e)) hz
  obtain ⟨u, h1, h2, h3, h4⟩ := best_tight _ _ hb
  exact tiS_mem.2 ⟨u, h1, h2, h3, by rw [sl_prices h1 h2]; exact h4⟩
theorem ints_has (l : List Nat) (x : Nat) : (ints l).any (fun y => decide (y = (x : Int))) = l.contains x := by
  rw [← any_ints]; congr 1; funext y; rw [Bool.eq_iff_iff, decide_eq_true_eq, decide_eq_true_eq]; exact eq_comm
/-- Prices that reach the least cost are tight somewhere, unless it is 0. -/
theorem tight_some {a : List Int} {s h : Int} {p : List Int} (hb : boundS a s h p = true) : 0 < (tiS a s h p).length ∨ fS p a.length < price (nf a) s h a.length ∨ price (nf a) s h a.length = 0 := by
  have h1 := bound_le hb
  rcases Int.lt_or_eq_of_le h1 with h2 | h2
  · exact .inr (.inl h2)
  · by_cases hz : price (nf a) s h a.length = 0
    · exact .inr (.inr hz)
    · obtain ⟨x, u, q1, q2, q3, q4⟩ := proof_tight (fS_zero p) (boundS_iff.1 hb) a.length (Nat.le_refl _) h2 hz
      exact .inl (List.length_pos_of_mem (tiS_mem.2 ⟨u, q1, q2, q3, q4⟩))

set_option maxRecDepth 8000 in
theorem tight_law (a : List Int) (s h : Int) (p : List Int) (ha : a.length ≤ maxLen) (hp : p.length ≤ maxLen) : PFun P0 9 [encI false a, num s, num h, encI false p] (bo true) := by
  refine pcalls_body Try.func9 rfl rfl rfl (by show 4 ≤ _; decide) (pwp_go TU_ok ?_)
  by_cases h1 : fewS a = true
  · by_cases h2 : (40 : Int) < p.length
    · simp (config := { contextual := true }) [ha, hp, h1, h2]
    · by_cases hv : validS a s h = true
      · have H := ok_of hv
        have hf := H.few
        have hLl : (lotsL a (bestS a s h)).length = a.length := lotsL_length _ _
        obtain ⟨L, hL⟩ : ∃ L, lotsL a (bestS a s h) = L := ⟨_, rfl⟩
        have htr : tightR a s h (pricesL a s h) = .tup [encI false (ints (tiS a s h (pricesL a s h))), num 0] := by
          unfold tightR; rw [if_pos (by rw [hv, priced_prices H]; rfl)]
        have hti := ints_tiS a s h (pricesL a s h) ha
        have hlt := fun k hk hz => lots_tight (a := a) (s := s) (h := h) (k := k) hk hz
        rw [hL] at hLl hlt
        obtain ⟨TI, hTI⟩ : ∃ TI, tiS a s h (pricesL a s h) = TI := ⟨_, rfl⟩
        rw [hTI] at htr hti hlt
        obtain ⟨x, y, e, k1⟩ := bndR_some a s h p
        obtain ⟨v, f, k2, k3, k4, k5⟩ := tightR_cases (a := a) (s := s) (h := h) (p := p) ha
        simp (config := { contextual := true }) [ha, hp, h1, h2, sizeR_ok hv, hL, hLl, pricesL_length, htr]
        intro id
        obtain ⟨A, hA⟩ : ∃ A : PV, A = .ref [encI true L, num (price (nf a) s h a.length), encI false (pricesL a s h)] := ⟨_, rfl⟩
        refine pwpT_go (pwp_frz 2 (Heap.empty.set id (.cells [encI true L, num (price (nf a) s h a.length), encI false (pricesL a s h)])) (Frz.set Frz.none (by simp)) ?_)
        refine pwp_loop (fun N fr σ => ∃ k : Nat, N = a.length - k ∧ k ≤ a.length ∧ fr 0 = encI false a ∧ fr 1 = num s ∧ fr 2 = num h ∧ fr 3 = encI false p ∧ fr 9 = A ∧ fr 11 = encI false (ints TI) ∧ fr 13 = num k)
          (N := a.length) ⟨0, by simp [hA]⟩ ?_
        rintro N fr σ ⟨k, rfl, hk, e0, e1, e2, e3, e9, e11, e13⟩
        refine pwp_go TU_ok ?_
        by_cases hlt2 : k < a.length
        · have hkL : k < L.length := by omega
          have wk := wrap_succ (k := k) (by omega)
          by_cases hz : L[k] = 0
          · simp [e0, e1, e2, e3, e9, e11, e13, hA, hkL, hLl, hlt2, IAx_encI, hz, wk, hti]
            exact ⟨a.length - (k + 1), by omega, k + 1, rfl, by omega, by omega⟩
          · have hin := hlt k hlt2 (by rw [nf_get hkL]; exact hz)
            have hany := ints_has TI k
            rw [List.contains_iff_mem.2 hin] at hany
            simp [e0, e1, e2, e3, e9, e11, e13, hA, hkL, hLl, hlt2, IAx_encI, hz, wk, hti, hany]
            exact ⟨a.length - (k + 1), by omega, k + 1, rfl, by omega, by omega⟩
        · have htI := ints_tiS a s h p ha
          rcases bndR_cases p hv with ⟨b1, b2, b3⟩ | ⟨b1, b2, b3⟩ | ⟨b1, b3⟩
          · have k2' : tightR a s h p = .tup [encI false (ints (tiS a s h p)), num 0] := by unfold tightR; rw [if_pos (by rw [hv, b1]; rfl)]
            have hle := bound_le b2
            have hil : (ints (tiS a s h p)).length = (tiS a s h p).length := by simp [ints]
            rcases tight_some b2 with q | q | q
            · simp [e0, e1, e2, e3, e9, e11, e13, hA, hLl, hlt2, ha, hp, b3, k2', hle, hil, q]
            · by_cases q0 : 0 < (tiS a s h p).length
              · simp [e0, e1, e2, e3, e9, e11, e13, hA, hLl, hlt2, ha, hp, b3, k2', hle, hil, q0]
              · simp [e0, e1, e2, e3, e9, e11, e13, hA, hLl, hlt2, ha, hp, b3, k2', hle, hil, q, q0]
            · by_cases q0 : 0 < (tiS a s h p).length
              · simp [e0, e1, e2, e3, e9, e11, e13, hA, hLl, hlt2, ha, hp, b3, k2', hle, hil, q0]
              · by_cases q1 : fS p a.length < price (nf a) s h a.length
                · simp [e0, e1, e2, e3, e9, e11, e13, hA, hLl, hlt2, ha, hp, b3, k2', hle, hil, q0, q1]
                · have hle0 : fS p a.length ≤ 0 := by omega
                  have hge0 : 0 ≤ fS p a.length := by omega
                  simp [e0, e1, e2, e3, e9, e11, e13, hA, hLl, hlt2, ha, hp, b3, k2', hle0, hge0, hil, q, q0, q1]
          · simp [e0, e1, e2, e3, e9, e11, e13, hA, hLl, hlt2, ha, hp, b3, k2, k3, k4, k5]
          · simp [e0, e1, e2, e3, e9, e11, e13, hA, hLl, hlt2, ha, hp, b3, k2, k3, k4, k5]
      · simp (config := { contextual := true }) [ha, hp, h1, h2, sizeR_no hv]
  · simp (config := { contextual := true }) [ha, hp, h1]
end Go.Proofs.Ytnnablbdakomlaa
