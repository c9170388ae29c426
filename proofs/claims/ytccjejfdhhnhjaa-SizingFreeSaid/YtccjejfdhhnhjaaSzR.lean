/-
  Sizing: the contract of the law SizingFree.
-/
import Derived.Test.YtccjejfdhhnhjaaSzQ
set_option linter.unusedSimpArgs false
set_option linter.unusedVariables false
namespace Go.Proofs.Ytccjejfdhhnhjaa
open Go.Lo

theorem valid_free (need : List Int) (c : Int) : validS need 0 c = validS need c 0 := by
  have h : inV 0 = true := by decide
  unfold validS
  rw [h]
  cases inV c <;> simp

set_option maxRecDepth 8000 in
theorem free_law (need : List Int) (c : Int) (hn : need.length ≤ maxLen) : PFun P0 9 [encI false need, num c] (bo true) := by
  refine pcalls_body Try.func9 rfl rfl rfl (by show 2 ≤ _; decide) (pwp_go TU_ok ?_)
  by_cases hv : validS need c 0 = true
  · have hv' : validS need 0 c = true := by rw [valid_free]; exact hv
    have H := ok_of hv
    have hf := H.few
    have hc1 := H.paid.s
    have hnl : (need.length : Int) ≤ 16 := by omega
    by_cases hc0 : c = 0
    · subst hc0
      simp (config := { contextual := true }) [hn, hv, sizeR_ok hv, hnl]
    have hc : 0 < c := by omega
    have hls := lotsL_still H.nonneg hc
    have hps := price_still (n := nf need) (c := c) H.nonneg (by omega) need.length
    obtain ⟨hl, hp1, hp2⟩ := free_hold (n := nf need) (c := c) H.nonneg hc need.length
    obtain ⟨L, hL⟩ : ∃ L, lotsL need (bestS need c 0) = L := ⟨_, rfl⟩
    obtain ⟨P, hP⟩ : ∃ P, price (nf need) c 0 need.length = P := ⟨_, rfl⟩
    obtain ⟨F, hF⟩ : ∃ F, fstTo (nf need) need.length = F := ⟨_, rfl⟩
    obtain ⟨S, hS⟩ : ∃ S, sumTo (nf need) need.length = S := ⟨_, rfl⟩
    have hLl : L.length = need.length := by rw [← hL, lotsL_length]
    have hLk : ∀ k (h : k < L.length), L[k] = if (k : Int) = F then S else 0 := fun k h => by
      have := hl k (by omega)
      rw [hF, hS] at this
      rw [← this]
      subst hL
      exact lotsL_get h
    rw [hP, hF] at hp1 hp2
    simp (config := { contextual := true }) [hn, hv, hv', sizeR_ok hv, sizeR_ok hv', hnl, hls, hps, hL, hP, hc0]
    intro id5 id7 hne
    obtain ⟨A, hA⟩ : ∃ A : PV, A = .ref [encI true L, num P, encI false (pricesL need c 0)] := ⟨_, rfl⟩
    obtain ⟨B, hB⟩ : ∃ B : PV, B = .ref [encI true need, num 0, encI false (pricesL need 0 c)] := ⟨_, rfl⟩
    refine pwpT_go (pwp_frz 2 ((Heap.empty.set id5 (.cells [encI true L, num P, encI false (pricesL need c 0)])).set id7 (.cells [encI true need, num 0, encI false (pricesL need 0 c)])) (Frz.set (Frz.set Frz.none (by simp [hne])) (by simp [hne])) ?_)
    refine pwp_loop (fun N fr σ => ∃ t : Nat, N = need.length - t ∧ t ≤ need.length ∧ fr 0 = encI false need ∧ fr 1 = num c ∧ fr 5 = A ∧ fr 7 = B ∧ fr 9 = num (fstTo (nf need) t) ∧ fr 10 = num (sumTo (nf need) t) ∧ fr 47 = encI false need ∧ fr 48 = num need.length ∧ fr 49 = num t)
      (N := need.length) ?_ ?_
    · refine ⟨0, ?_⟩
      simp [hA, hB, hne, fstTo, sumTo]
    rintro N fr σ ⟨t, rfl, ht, e0, e1, e5, e7, e9, e10, e47, e48, e49⟩
    refine pwp_go TU_ok ?_
    by_cases htn : t < need.length
    · have wt := wrap_succ (k := t) (by omega)
      have b1 : 0 ≤ sumTo (nf need) t := sumTo_nonneg fun i _ => H.nonneg i
      have b2 : sumTo (nf need) t ≤ t * 1048576 := sumTo_bound fun i _ => (H.need i).2
      have b3 := H.need t
      have hss : sumTo (nf need) (t + 1) = sumTo (nf need) t + nf need t := rfl
      have hfs : fstTo (nf need) (t + 1) = if 0 < nf need t ∧ fstTo (nf need) t < 0 then (t : Int) else fstTo (nf need) t := rfl
      rw [nf_get htn] at b3 hss hfs
      have w1 : IntKind.i64.wrap (sumTo (nf need) t + need[t]) = sumTo (nf need) (t + 1) := by rw [hss]; exact wrap_i64 (by omega) (by omega)
      have fin : ∃ N', N' < need.length - t ∧ ∃ t' : Nat, N' = need.length - t' ∧ t' ≤ need.length ∧ fstTo (nf need) (t + 1) = fstTo (nf need) t' ∧ sumTo (nf need) (t + 1) = sumTo (nf need) t' ∧ ((t : Int) + 1) = (t' : Int) :=
        ⟨need.length - (t + 1), by omega, t + 1, rfl, by omega, rfl, rfl, by omega⟩
      generalize sumTo (nf need) (t + 1) = Y at *
      generalize fstTo (nf need) (t + 1) = X at *
      by_cases hz : 0 < need[t]
      · by_cases hw : fstTo (nf need) t < 0
        · rw [if_pos ⟨hz, hw⟩] at hfs
          simp [e0, e1, e5, e7, e9, e10, e47, e48, e49, htn, IAx_encI, hz, hw, w1, wt]
          simpa [hfs] using fin
        · rw [if_neg fun h => hw h.2] at hfs
          simp [e0, e1, e5, e7, e9, e10, e47, e48, e49, htn, IAx_encI, hz, hw, w1, wt]
          simpa [hfs] using fin
      · rw [if_neg fun h => hz h.1] at hfs
        simp [e0, e1, e5, e7, e9, e10, e47, e48, e49, htn, IAx_encI, hz, w1, wt]
        simpa [hfs] using fin
    · have htn' : t = need.length := by omega
      subst htn'
      have hLm : L.length ≤ maxLen := by omega
      rw [hF] at e9
      rw [hS] at e10
      simp [e0, e1, e5, e7, e9, e10, e47, e48, e49, hA, hB, hn, hLm, hLl]
      refine pwp_loop (fun N fr σ => ∃ k : Nat, N = need.length - k ∧ k ≤ need.length ∧ fr 1 = num c ∧ fr 5 = A ∧ fr 9 = num F ∧ fr 10 = num S ∧ fr 84 = encI true L ∧ fr 85 = num need.length ∧ fr 86 = num k)
        (N := need.length) ?_ ?_
      · refine ⟨0, ?_⟩
        simp [e0, e1, e5, e7, e9, e10, e47, e48, e49, hA, hB, hLl]
      clear e0 e1 e5 e7 e9 e10 e47 e48 e49 ht htn
      rintro N fr σ ⟨k, rfl, hk, e1, e5, e9, e10, e84, e85, e86⟩
      refine pwp_go TU_ok ?_
      by_cases hkn : k < need.length
      · have wk := wrap_succ (k := k) (by omega)
        have hkL : k < L.length := by omega
        have hg := hLk k hkL
        by_cases hkF : (k : Int) = F
        · rw [if_pos hkF] at hg
          subst hkF
          simp [e1, e5, e9, e10, e84, e85, e86, hkn, hkL, IAx_encI, hg, wk]
          exact ⟨need.length - (k + 1), by omega, k + 1, rfl, by omega, by omega⟩
        · rw [if_neg hkF] at hg
          simp [e1, e5, e9, e10, e84, e85, e86, hkn, hkL, IAx_encI, hg, hkF, wk]
          exact ⟨need.length - (k + 1), by omega, k + 1, rfl, by omega, by omega⟩
      · have hkn' : k = need.length := by omega
        subst hkn'
        by_cases h0 : 0 ≤ F
        · have hPc := hp1 h0
          simp [e1, e5, e9, e10, e84, e85, e86, hA, h0, hPc]
        · have hPc := hp2 (by omega)
          have h0' : F < 0 := by omega
          simp [e1, e5, e9, e10, e84, e85, e86, hA, h0, h0', hPc]
  · have hv' : ¬ validS need 0 c = true := by rw [valid_free]; exact hv
    by_cases hnl : (need.length : Int) ≤ 16
    · simp (config := { contextual := true }) [hn, hv, hv', sizeR_no hv, sizeR_no hv', hnl]
    · simp (config := { contextual := true }) [hn, hnl]
end Go.Proofs.Ytccjejfdhhnhjaa
