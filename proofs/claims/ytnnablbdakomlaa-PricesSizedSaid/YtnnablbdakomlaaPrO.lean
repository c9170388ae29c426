/-
  Prices: what the functions compute, part O: all pairs; the bound.
-/
import Derived.Test.YtnnablbdakomlaaPrM
set_option linter.unusedSimpArgs false
set_option linter.unusedVariables false
namespace Go.Proofs.Ytnnablbdakomlaa
open Go.Lo

/-- Valid prices. -/
structure Prc (a p : List Int) : Prop where
  len : p.length = a.length
  le : ∀ d, -1152921504606846976 ≤ nf p d ∧ nf p d ≤ 1152921504606846976
theorem prc_of {a p : List Int} (h : pricedS a p = true) : Prc a p := by
  simp only [pricedS, Bool.and_eq_true, decide_eq_true_eq, Bool.not_eq_true', List.any_eq_false] at h
  refine ⟨by omega, fun d => ?_⟩
  have : p.all (fun x => !greatS x) = true := List.all_eq_true.2 fun x hx => by simpa using h.2 x hx
  have := nf_all this rfl d
  simp only [greatS, Bool.not_eq_true', Bool.or_eq_false_iff, decide_eq_false_iff_not] at this
  omega
theorem Prc.f {a p : List Int} (h : Prc a p) (t : Nat) : -1152921504606846976 ≤ fS p t ∧ fS p t ≤ 1152921504606846976 := by
  unfold fS
  split
  · omega
  · exact h.le _

def sl (a : List Int) (s h : Int) (p : List Int) (x t : Nat) : Int := slackF (nf a) s h (fS p) x t
def pairP (a : List Int) (s h : Int) (p : List Int) (x t : Nat) : PV := .agg [num x, num t, num (sl a s h p x t), bo (some_ (nf a) x (t + 1 - x))]
def pVs (a : List Int) (s h : Int) (p : List Int) : List (List PV) := rowsTo a.length (fun x t => [pairP a s h p x t]) a.length
theorem pVs_length (a : List Int) (s h : Int) (p : List Int) : (pVs a s h p).length = offTo a.length a.length := rowsTo_length _ _ _
theorem pVs_get {a : List Int} {s h : Int} {p : List Int} {x j : Nat} (hj : j < a.length - x) : ∃ q : offTo a.length x + j < (pVs a s h p).length, (pVs a s h p)[offTo a.length x + j] = [pairP a s h p x (x + j)] := by
  have h1 := offTo_lt hj
  have q : offTo a.length x + j < (pVs a s h p).length := by rw [pVs_length]; exact h1
  refine ⟨q, ?_⟩
  have := rowsTo_get a.length (fun x t => [pairP a s h p x t]) hj a.length (by omega)
  have e : (pVs a s h p)[offTo a.length x + j]? = some [pairP a s h p x (x + j)] := this
  rw [List.getElem?_eq_getElem q] at e
  exact Option.some.inj e

def pIt (a : List Int) (s h : Int) (p : List Int) : PV := .fn (.func 47) [] [.ref (taskC a s h p)]
theorem pairs29_ok (a : List Int) (s h : Int) (p : List Int) : PFun P0 29 [.agg (taskC a s h p)] (pIt a s h p) := by
  refine pcalls_frz ?_
  refine pcalls_body Try.func29 rfl rfl rfl (by show 1 ≤ _; decide) (pwp_go n_ok ?_)
  unfold taskC
  simp
  intro id1
  refine ⟨2, Heap.empty.set id1 (.cells [encI false a, num s, num h, encI false p]), Frz.set Frz.none (by simp), ?_⟩
  simp [frzO, frzN, pIt, taskC, encI, List.map_map, Function.comp_def]

theorem pairIt {a : List Int} {s h : Int} {p : List Int} (H : Ok a s h) (hp : Prc a p) : IterC P0 47 [] [.ref (taskC a s h p)] (pVs a s h p) := by
  intro L I R hI σ h0
  have hf := H.few
  have hpl := hp.len
  have hal : a.length ≤ maxLen := by unfold maxLen; omega
  have hpm : p.length ≤ maxLen := by unfold maxLen; omega
  refine pcalls_body Try.func47 rfl rfl rfl (by show 2 ≤ _; decide) (pwp_go TD_ok ?_)
  unfold taskC
  simp
  refine pwp_loop (fun N fr σ => ∃ x : Nat, N = a.length - x ∧ x ≤ a.length ∧ fr 0 = .yld L ∧ fr 1 = .ref [encI false a, num s, num h, encI false p] ∧ fr 10 = num a.length ∧ fr 11 = num x ∧ I (offTo a.length x) σ)
    (N := a.length) ⟨0, by simpa [offTo] using h0⟩ ?_
  rintro N fr σ ⟨x, rfl, hx, e0, e1, e10, e11, hI0⟩
  refine pwp_go TD_ok ?_
  by_cases hlt : x < a.length
  · simp [e0, e1, e10, e11, hlt]
    refine pwp_loop (fun N fr σ => ∃ t : Nat, N = a.length - t ∧ x ≤ t ∧ t ≤ a.length ∧ fr 0 = .yld L ∧ fr 1 = .ref [encI false a, num s, num h, encI false p] ∧ fr 3 = num x ∧ fr 4 = num (holdC (nf a) h x (t - x)) ∧ fr 5 = bo (some_ (nf a) x (t - x)) ∧ fr 6 = num t ∧
      fr 10 = num a.length ∧ fr 11 = num x ∧ I (offTo a.length x + (t - x)) σ) (N := a.length - x) ?_ ?_
    · refine ⟨x, by omega, by omega, by omega, ?_⟩
      simp [e0, e1, e10, e11, holdC, sumTo, some_zero, hI0]
    clear e0 e1 e10 e11 hI0
    rintro N fr σ ⟨t, rfl, hxt, ht, e0, e1, e3, e4, e5, e6, e10, e11, hI0⟩
    refine pwp_go TD_ok ?_
    by_cases htn : t < a.length
    · have c1 := H.hold x (show t - x ≤ 16 by omega)
      have c2 := H.hold x (show t + 1 - x ≤ 16 by omega)
      have hn := H.need t
      have hk := H.term t (t - x) (by omega)
      have hc1 : t + 1 - x = t - x + 1 := by omega
      have hsh : holdC (nf a) h x (t + 1 - x) = holdC (nf a) h x (t - x) + h * ((t - x : Nat) : Int) * nf a t := by
        rw [hc1]; show _ + h * ((t - x : Nat) : Int) * nf a (x + (t - x)) = _; rw [show x + (t - x) = t by omega]; rfl
      have hss : some_ (nf a) x (t + 1 - x) = (some_ (nf a) x (t - x) || decide (0 < nf a t)) := by
        rw [hc1, some_succ, show x + (t - x) = t by omega]
      have hsl : sl a s h p x t = fS p x + lotC (nf a) s h x (t + 1) - fS p (t + 1) := rfl
      have hlo : lotC (nf a) s h x (t + 1) = if some_ (nf a) x (t + 1 - x) then holdC (nf a) h x (t + 1 - x) + s else 0 := rfl
      have f1 := hp.f x
      have f2 := hp.f (t + 1)
      have ps := H.paid.s
      obtain ⟨q, hq⟩ := pVs_get (a := a) (s := s) (h := h) (p := p) (x := x) (j := t - x) (by omega)
      rw [show x + (t - x) = t by omega, pairP] at hq
      rw [nf_get htn] at hn hk hsh hss
      have w1 : IntKind.i64.wrap ((t : Int) - (x : Int)) = ((t - x : Nat) : Int) := by rw [wrap_i64 (by omega) (by omega)]; omega
      have w2 : IntKind.i64.wrap (h * ((t - x : Nat) : Int)) = h * ((t - x : Nat) : Int) := wrap_i64 (by omega) (by omega)
      have w3 : IntKind.i64.wrap (h * ((t - x : Nat) : Int) * a[t]) = h * ((t - x : Nat) : Int) * a[t] := wrap_i64 (by omega) (by omega)
      have w4 : IntKind.i64.wrap (holdC (nf a) h x (t - x) + h * ((t - x : Nat) : Int) * a[t]) = holdC (nf a) h x (t + 1 - x) := by
        rw [wrap_i64 (by omega) (by omega), hsh]
      have w5 := wrap_succ (k := t) (by omega)
      have w6 : IntKind.i64.wrap (s + holdC (nf a) h x (t + 1 - x)) = holdC (nf a) h x (t + 1 - x) + s := by rw [wrap_i64 (by omega) (by omega)]; omega
      have hfin : ∀ σ', I (offTo a.length x + (t - x) + 1) σ' → I (offTo a.length x + (t + 1 - x)) σ' := fun σ' hh => by rw [hc1]; exact hh
      obtain ⟨X, hX⟩ : ∃ X, holdC (nf a) h x (t + 1 - x) = X := ⟨_, rfl⟩
      obtain ⟨Y, hY'⟩ : ∃ Y, some_ (nf a) x (t + 1 - x) = Y := ⟨_, rfl⟩
      rw [hX] at c2 hsh w4 w6 hlo
      rw [hY'] at hss hlo hq
      have fin : ∀ σ', I (offTo a.length x + (t - x) + 1) σ' → ∃ N', N' < a.length - t ∧ ∃ t' : Nat, N' = a.length - t' ∧ x ≤ t' ∧ t' ≤ a.length ∧ X = holdC (nf a) h x (t' - x) ∧ Y = some_ (nf a) x (t' - x) ∧ (t : Int) + 1 = (t' : Int) ∧ I (offTo a.length x + (t' - x)) σ' := fun σ' hh =>
        ⟨a.length - (t + 1), by omega, t + 1, rfl, by omega, by omega, hX.symm, hY'.symm, by omega, hfin σ' hh⟩
      generalize lotC (nf a) s h x (t + 1) = C at *
      have wc1 : IntKind.i64.wrap (fS p x + C) = fS p x + C := by subst hlo; exact wrap_i64 (by split <;> omega) (by split <;> omega)
      have wc2 : IntKind.i64.wrap (fS p x + C - fS p (t + 1)) = sl a s h p x t := by rw [hsl]; subst hlo; exact wrap_i64 (by split <;> omega) (by split <;> omega)
      have hneq : (a[t] != 0) = decide (0 < a[t]) := by
        rw [Bool.eq_iff_iff, bne_iff_ne, decide_eq_true_eq]; omega
      have hxp : (x : Int) ≤ p.length := by omega
      have htp : (t : Int) + 1 ≤ p.length := by omega
      have htp' : (0 : Int) ≤ (t : Int) + 1 := by omega
      have w7 : IntKind.i64.wrap ((t : Int) + 1) = (t : Int) + 1 := wrap_i64 (by omega) (by omega)
      have ht1 : ((t : Int) + 1).toNat = t + 1 := by omega
      simp [e0, e1, e3, e4, e5, e6, e10, e11, htn]
      refine pwp_drawT TD_ok 14 mixed (by kernel_rfl) ?_
      cases hY : some_ (nf a) x (t - x) <;> rw [hY] at hss e5 <;> cases hZ : decide (0 < a[t]) <;> rw [hZ] at hss hneq
      · have hYv : Y = false := by rw [hss]; rfl
        subst hYv
        have hC : C = 0 := by rw [hlo]; rfl
        subst hC
        rw [Int.add_zero] at wc1 wc2
        simp [e0, e1, e3, e4, e5, e6, e10, e11, htn, IAx_encI, w1, w2, w3, w4, hneq]
        refine pwp_drawT TD_ok 15 mixed (by kernel_rfl) ?_
        simp [e0, e1, e3, e4, e5, e6, e10, e11, htn, w7, ht1, hal, hpm, hxp, htp, htp', wc1, wc2]
        refine popsT_yield TD_ok (hI _ σ q hI0) (by simp [e0]) (by simp) (by simp [e0]) (by simp [hq]) ?_
        rintro o' σ' (⟨rfl, h1⟩ | ⟨rfl, h1⟩)
        · simp [e0, e1, e3, e4, e5, e6, e10, e11, w7]
          simpa using fin σ' h1
        · simp [h1]
      · have hYv : Y = true := by rw [hss]; rfl
        subst hYv
        have hC : C = X + s := by rw [hlo]; rfl
        subst hC
        simp [e0, e1, e3, e4, e5, e6, e10, e11, htn, IAx_encI, w1, w2, w3, w4, hneq, w6]
        refine pwp_drawT TD_ok 15 mixed (by kernel_rfl) ?_
        simp [e0, e1, e3, e4, e5, e6, e10, e11, htn, w7, ht1, hal, hpm, hxp, htp, htp', wc1, wc2]
        refine popsT_yield TD_ok (hI _ σ q hI0) (by simp [e0]) (by simp) (by simp [e0]) (by simp [hq]) ?_
        rintro o' σ' (⟨rfl, h1⟩ | ⟨rfl, h1⟩)
        · simp [e0, e1, e3, e4, e5, e6, e10, e11, w7]
          simpa using fin σ' h1
        · simp [h1]
      · have hYv : Y = true := by rw [hss]; rfl
        subst hYv
        have hC : C = X + s := by rw [hlo]; rfl
        subst hC
        simp [e0, e1, e3, e4, e5, e6, e10, e11, htn, IAx_encI, w1, w2, w3, w4, hneq, w6]
        refine pwp_drawT TD_ok 15 mixed (by kernel_rfl) ?_
        simp [e0, e1, e3, e4, e5, e6, e10, e11, htn, w7, ht1, hal, hpm, hxp, htp, htp', wc1, wc2]
        refine popsT_yield TD_ok (hI _ σ q hI0) (by simp [e0]) (by simp) (by simp [e0]) (by simp [hq]) ?_
        rintro o' σ' (⟨rfl, h1⟩ | ⟨rfl, h1⟩)
        · simp [e0, e1, e3, e4, e5, e6, e10, e11, w7]
          simpa using fin σ' h1
        · simp [h1]
      · have hYv : Y = true := by rw [hss]; rfl
        subst hYv
        have hC : C = X + s := by rw [hlo]; rfl
        subst hC
        simp [e0, e1, e3, e4, e5, e6, e10, e11, htn, IAx_encI, w1, w2, w3, w4, hneq, w6]
        refine pwp_drawT TD_ok 15 mixed (by kernel_rfl) ?_
        simp [e0, e1, e3, e4, e5, e6, e10, e11, htn, w7, ht1, hal, hpm, hxp, htp, htp', wc1, wc2]
        refine popsT_yield TD_ok (hI _ σ q hI0) (by simp [e0]) (by simp) (by simp [e0]) (by simp [hq]) ?_
        rintro o' σ' (⟨rfl, h1⟩ | ⟨rfl, h1⟩)
        · simp [e0, e1, e3, e4, e5, e6, e10, e11, w7]
          simpa using fin σ' h1
        · simp [h1]
    · have htn' : t = a.length := by omega
      subst htn'
      have wx := wrap_succ (k := x) (by omega)
      simp [e0, e1, e3, e4, e5, e6, e10, e11, wx]
      exact ⟨a.length - (x + 1), by omega, x + 1, rfl, by omega, by omega, hI0⟩
  · simp [e0, e1, e10, e11, hlt]
    have hxn : x = a.length := by omega
    subst hxn
    rw [pVs_length]
    exact .inl hI0
end Go.Proofs.Ytnnablbdakomlaa
