/-
  Prices: what the functions compute, part T: the reference's Tight.
-/
import Derived.Test.YtnnablbdakomlaaPrR
set_option linter.unusedSimpArgs false
set_option linter.unusedVariables false
namespace Go.Proofs.Ytnnablbdakomlaa
open Go.Lo

def anyT (p : Nat → Nat → Bool) (x k : Nat) : Bool := (List.range k).any fun j => p x (x + j)
theorem anyT_succ (p : Nat → Nat → Bool) (x k : Nat) : anyT p x (k + 1) = (anyT p x k || p x (x + k)) := by simp [anyT, List.range_succ]
theorem tight14_ok (a : List Int) (s h : Int) (p : List Int) (ha : a.length ≤ maxLen) (hpm : p.length ≤ maxLen) : PFun P0 14 [encI false a, num s, num h, encI false p] (tightR a s h p) := by
  unfold tightR
  by_cases hv : validS a s h = true
  · by_cases hq : pricedS a p = true
    · rw [if_pos (by simp [hv, hq])]
      have H := ok_of hv
      have hP := prc_of hq
      have hf := H.few
      have hpl := hP.len
      refine pcalls_ownT ?_
      refine pcalls_body Try.func14 rfl rfl rfl (by show 4 ≤ _; decide) (pwp_go TRef_ok ?_)
      simp [ha, hpm, hv, hq]
      refine pwp_loop (fun N fr σ => ∃ (x : Nat) (v : PV), N = a.length - x ∧ x ≤ a.length ∧ fr 0 = encI false a ∧ fr 1 = num s ∧ fr 2 = num h ∧ fr 3 = encI false p ∧ fr 10 = v ∧ fr 11 = num x ∧ Own 1 σ v (rowI (ints (tightDays a.length (tiQ a s h p) x))))
        (N := a.length) ⟨0, .slice true [], by simp; exact Own.full 1 _ (by simp)⟩ ?_
      rintro N fr σ ⟨x, v, rfl, hx, e0, e1, e2, e3, e10, e11, ho⟩
      refine pwp_go TRef_ok ?_
      obtain ⟨o1, o2⟩ := ho.sv
      by_cases hlt : x < a.length
      · simp [e0, e1, e2, e3, e10, e11, hlt]
        refine pwp_loop (fun N fr σ' => ∃ t : Nat, N = a.length - t ∧ x ≤ t ∧ t ≤ a.length ∧ fr 0 = encI false a ∧ fr 1 = num s ∧ fr 2 = num h ∧ fr 3 = encI false p ∧ fr 10 = v ∧ fr 11 = num x ∧ fr 12 = bo (anyT (tiQ a s h p) x (t - x)) ∧ fr 13 = num t ∧ σ' = σ)
          (N := a.length - x) ⟨x, by simp [e0, e1, e2, e3, e10, e11, anyT]; omega⟩ ?_
        clear e0 e1 e2 e3 e10 e11
        rintro N fr σ' ⟨t, rfl, hxt, ht, e0, e1, e2, e3, e10, e11, e12, e13, rfl⟩
        refine pwp_go TRef_ok ?_
        by_cases htn : t < a.length
        · have f1 := hP.f x
          have f2 := hP.f (t + 1)
          have b2 := H.lot x (t + 1) (by omega)
          have wt := wrap_succ (k := t) (by omega)
          have w7 : IntKind.i64.wrap ((t : Int) + 1) = (t : Int) + 1 := wrap_i64 (by omega) (by omega)
          have ht1 : ((t : Int) + 1).toNat = t + 1 := by omega
          have w1 : IntKind.i64.wrap (fS p x + lotC (nf a) s h x (t + 1)) = fS p x + lotC (nf a) s h x (t + 1) := wrap_i64 (by omega) (by omega)
          have c1 : (t : Int) + 1 ≤ p.length := by omega
          have c2 : (0 : Int) ≤ (t : Int) + 1 := by omega
          have c3 : (x : Int) ≤ p.length := by omega
          have c4 : (x : Int) ≤ t := by omega
          have hex : ∃ s h, Ok a s h := ⟨s, h, H⟩
          have hsl : sl a s h p x t = fS p x + lotC (nf a) s h x (t + 1) - fS p (t + 1) := rfl
          have hS := anyT_succ (tiQ a s h p) x (t - x)
          rw [show t - x + 1 = t + 1 - x by omega, show x + (t - x) = t by omega] at hS
          have fin : ∀ b, b = anyT (tiQ a s h p) x (t + 1 - x) → ∃ N', N' < a.length - t ∧ ∃ t' : Nat, N' = a.length - t' ∧ x ≤ t' ∧ t' ≤ a.length ∧ b = anyT (tiQ a s h p) x (t' - x) ∧ (t : Int) + 1 = (t' : Int) := fun b hb =>
            ⟨a.length - (t + 1), by omega, t + 1, rfl, by omega, by omega, hb, by omega⟩
          cases hA : anyT (tiQ a s h p) x (t - x) <;> rw [hA] at hS e12
          · cases hb : some_ (nf a) x (t + 1 - x)
            · have hQ : tiQ a s h p x t = false := by simp [tiQ, hb]
              have := fin false (by rw [hS, hQ]; rfl)
              simp [e0, e1, e2, e3, e10, e11, e12, e13, htn, w7, ht1, ha, hpm, c1, c2, c3, c4, H, hex, w1, hb, o1, o2]
              simpa using this
            · by_cases hz : fS p (t + 1) = fS p x + lotC (nf a) s h x (t + 1)
              · have hQ : tiQ a s h p x t = true := by
                  have : sl a s h p x t = 0 := by omega
                  simp [tiQ, hb, this]
                have := fin true (by rw [hS, hQ]; rfl)
                simp [e0, e1, e2, e3, e10, e11, e12, e13, htn, w7, ht1, ha, hpm, c1, c2, c3, c4, H, hex, w1, hb, o1, o2, hz]
                simpa using this
              · have hQ : tiQ a s h p x t = false := by
                  have : ¬ sl a s h p x t = 0 := by omega
                  simp [tiQ, hb, this]
                have := fin false (by rw [hS, hQ]; rfl)
                have hz' : (fS p (t + 1) == fS p x + lotC (nf a) s h x (t + 1)) = false := by simp [hz]
                simp [e0, e1, e2, e3, e10, e11, e12, e13, htn, w7, ht1, ha, hpm, c1, c2, c3, c4, H, hex, w1, hb, o1, o2, hz']
                simpa using this
          · have := fin true (by rw [hS]; rfl)
            simp [e0, e1, e2, e3, e10, e11, e12, e13, htn, w7, ht1, ha, hpm, c1, c2, c3, c4, H, hex, w1, o1, o2]
            simpa using this
        · have htn' : t = a.length := by omega
          subst htn'
          have wx := wrap_succ (k := x) (by omega)
          have hlen : (ints (tightDays a.length (tiQ a s h p) x)).length ≤ 16 := by
            have : (tightDays a.length (tiQ a s h p) x).length ≤ x := by unfold tightDays; exact Nat.le_trans (List.length_filter_le _ _) (by simp)
            simp [ints]; omega
          have hsucc := tightDays_succ a.length (tiQ a s h p) x
          cases hA : anyT (tiQ a s h p) x (a.length - x) <;> rw [hA] at e12
          · unfold anyT at hA
            rw [hA] at hsucc
            simp [e0, e1, e2, e3, e10, e11, e12, e13, o1, o2, wx]
            refine ⟨a.length - (x + 1), by omega, x + 1, rfl, by omega, by omega, ?_⟩
            rw [hsucc]; exact ho
          · unfold anyT at hA
            rw [hA, if_pos rfl] at hsucc
            simp [e0, e1, e2, e3, e10, e11, e12, e13, o1, o2, wx]
            refine own_append (k := 1) (b := 8) (rows := rowI (ints (tightDays a.length (tiQ a s h p) x))) (new := [[num (x : Int)]]) (zs := [num 0]) ho elem22 (by decide) rfl (by decide) isl22 ⟨fun r hr => by simp at hr; subst hr; rfl, rfl, rfl⟩ (by simp [isCell1]) (by simp [rowI]; omega) ?_
            intro V σ2 hV hK _
            obtain ⟨v1, v2⟩ := hV.sv
            simp [e0, e1, e2, e3, e11, v1, v2, wx]
            refine ⟨a.length - (x + 1), by omega, x + 1, rfl, by omega, by omega, ?_⟩
            rw [rowI_ints, ← hsucc] at hV
            exact hV
      · have hxn : x = a.length := by omega
        subst hxn
        simp [e0, e1, e2, e3, e10, e11, o1, o2]
        exact ho
    · rw [if_neg (by simp [hq])]
      refine pcalls_body Try.func14 rfl rfl rfl (by show 4 ≤ _; decide) (pwp_go TRef_ok ?_)
      simp (config := { contextual := true }) [ha, hpm, hv, hq]
  · rw [if_neg (by simp [hv])]
    refine pcalls_body Try.func14 rfl rfl rfl (by show 4 ≤ _; decide) (pwp_go TRef_ok ?_)
    simp (config := { contextual := true }) [ha, hpm, hv]
end Go.Proofs.Ytnnablbdakomlaa
