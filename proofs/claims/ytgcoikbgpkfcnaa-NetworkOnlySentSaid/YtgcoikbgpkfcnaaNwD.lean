/-
  Network: what the functions compute, part D: Check.
-/
import Derived.Test.YtgcoikbgpkfcnaaNwC
set_option linter.unusedSimpArgs false
set_option linter.unusedVariables false
namespace Go.Proofs.Ytgcoikbgpkfcnaa
open Go.Lo

def chkR (n : Nt) : PV := num (if vN n then 0 else 460)
theorem any_bad (l : List Pk) : l.any badP = !l.all vP := by
  induction l with
  | nil => rfl
  | cons p l ih => simp [List.any_cons, List.all_cons, ih, badP]
@[simp] theorem frzN_netC (m : Nat) (σ : Heap) (n : Nt) : (netC n).map (frzN m σ) = netC n := by simp [netC]

theorem check13_ok (n : Nt) (hn : okN n) : PFun P0 13 [.agg (netC n)] (chkR n) := by
  refine pcalls_body Try.func13 rfl rfl rfl (by show 1 ≤ _; decide) (pwp_go TF_ok ?_)
  have hal := hn.2
  have hq := hn.1
  unfold chkR
  by_cases h1 : (4096 : Int) < n.q.length
  · have : vN n = false := by simp [vN]; omega
    simp (config := { contextual := true }) [netC, h1, this]
  · by_cases h2 : n.q.all vP = true
    · have hany : n.q.any badP = false := by rw [any_bad, h2]; rfl
      have hvN : vN n = sorted n.a := by
        have : (n.q.length : Int) ≤ 4096 := by omega
        simp [vN, h2, this]
      rw [hvN]
      simp [-NEW_def, netC, h1, hq, hany]
      refine fun id1 hid => ?_
      simp [h1, hq, hany]
      refine pwpT_go (pwp_frz 2 (Heap.empty.set id1 (.cells [encQ false n.q, encA false n.a])) (Frz.set Frz.none (by simp)) ?_)
      refine pwp_loop (fun N fr σ => ∃ k : Nat, N = n.a.length - k ∧ k ≤ n.a.length ∧ fr 1 = .ref [encQ false n.q, encA false n.a] ∧ fr 15 = encA false n.a ∧ fr 16 = num n.a.length ∧ fr 17 = num k ∧ sorted (n.a.take k) = true)
        (N := n.a.length) ⟨0, by simp [sorted]⟩ ?_
      rintro N fr σ ⟨k, rfl, hk, e1, e15, e16, e17, hi⟩
      refine pwp_go TF_ok ?_
      unfold maxLen at hal
      by_cases hlt : k < n.a.length
      · have wk := wrap_succ (k := k) (by omega)
        have hst := sorted_step hlt
        rw [hi, Bool.true_and] at hst
        obtain ⟨⟨x, y⟩, hxy⟩ : ∃ l : Lk, n.a[k] = l := ⟨_, rfl⟩
        rw [hxy] at hst
        simp [-NEW_def, e1, e15, e16, e17, hlt, IAx_encA, hxy, rowL]
        refine fun id4 h4 => ?_
        simp [e1, e15, e16, e17, hlt, hxy, rowL]
        refine pwpT_go (pwp_frz 2 (Heap.empty.set id4 (.cells [num x, num y])) (Frz.set Frz.none (by simp)) ?_)
        refine pwp_gen (I := fun fr σ => fr 1 = .ref [encQ false n.q, encA false n.a] ∧ fr 15 = encA false n.a ∧ fr 16 = num n.a.length ∧ fr 17 = num k ∧ fr 3 = num k ∧ fr 4 = .ref [num x, num y]) (by simp [e1, e15, e16, e17]) ?_
        clear e1 e15 e16 e17
        rintro fr σ ⟨e1, e15, e16, e17, e3, e4⟩
        refine pwp_drawT TF_ok 17 mixed (by kernel_rfl) ?_
        have bad : sorted (n.a.take (k + 1)) = false → sorted n.a = false := sorted_bad hlt
        have fin : sorted (n.a.take (k + 1)) = true → ∃ N', N' < n.a.length - k ∧ ∃ k' : Nat, N' = n.a.length - k' ∧ k' ≤ n.a.length ∧ (k : Int) + 1 = (k' : Int) ∧ sorted (n.a.take k') = true := fun h => ⟨n.a.length - (k + 1), by omega, k + 1, rfl, by omega, by omega, h⟩
        by_cases hv : vL (x, y) = true
        · rw [hv, Bool.true_and] at hst
          rcases Nat.eq_zero_or_pos k with h0 | h0
          · subst h0
            have := fin (by rw [hst]; rfl)
            simp [e1, e15, e16, e17, e3, e4, hv, wk, wrap1]
            simpa using this
          · have hk1 : k - 1 < n.a.length := by omega
            have wm : IntKind.i64.wrap ((k : Int) - 1) = ((k - 1 : Nat) : Int) := by rw [wrap_i64 (by omega) (by omega)]; omega
            obtain ⟨⟨u, v⟩, huv⟩ : ∃ l : Lk, n.a[k - 1] = l := ⟨_, rfl⟩
            have hgd : n.a.getD (k - 1) (0, 0) = (u, v) := by rw [List.getD_eq_getElem?_getD, List.getElem?_eq_getElem hk1, huv]; rfl
            rw [hgd, decide_eq_false (show ¬ k = 0 by omega), Bool.false_or] at hst
            have hge := cmpL_ge (x := (u, v)) (y := (x, y))
            cases hlt2 : ltL (u, v) (x, y) with
            | true =>
              rw [hlt2] at hge hst
              have := fin hst
              have hk0 : (0 : Int) < k := by omega
              simp [e1, e15, e16, e17, e3, e4, hv, wk, wm, h0, hk0, IAx_encA, hk1, huv, rowL, hge]
              simpa using this
            | false =>
              rw [hlt2] at hge hst
              have hb := bad hst
              have hk0 : (0 : Int) < k := by omega
              simp [e1, e15, e16, e17, e3, e4, hv, wk, wm, h0, hk0, IAx_encA, hk1, huv, rowL, hge, hb]
        · have hv' : vL (x, y) = false := by simpa using hv
          have hb := bad (by rw [hst, hv']; rfl)
          simp [e1, e15, e16, e17, e3, e4, hv', wk, hb]
      · rw [List.take_of_length_le (by omega)] at hi
        simp [e1, e15, e16, e17, hlt, hi]
    · have hany : n.q.any badP = true := by rw [any_bad]; simpa using h2
      have : vN n = false := by unfold vN; rw [Bool.eq_false_iff.2 h2]; simp
      simp (config := { contextual := true }) [netC, h1, hq, hany, this]

theorem rcheck14_ok (n : Nt) (hn : okN n) : PFun P0 14 [.agg (netC n)] (chkR n) := by
  refine pcalls_body Try.func14 rfl rfl rfl (by show 1 ≤ _; decide) (pwp_go TF_ok ?_)
  have hal := hn.2
  have hql := hn.1.2
  unfold maxLen at hal hql
  unfold chkR
  by_cases h1 : (4096 : Int) < n.q.length
  · have : vN n = false := by simp [vN]; omega
    simp (config := { contextual := true }) [netC, h1, this]
  · simp [-NEW_def, netC, h1]
    refine fun id1 hid => ?_
    simp [h1]
    refine pwpT_go (pwp_frz 2 (Heap.empty.set id1 (.cells [encQ false n.q, encA false n.a])) (Frz.set Frz.none (by simp)) ?_)
    refine pwp_loop (fun N fr σ => ∃ k : Nat, N = n.q.length - k ∧ k ≤ n.q.length ∧ fr 1 = .ref [encQ false n.q, encA false n.a] ∧ fr 3 = num k ∧ allTo vP n.q k = true)
      (N := n.q.length) ⟨0, by simp [allTo_zero]⟩ ?_
    rintro N fr σ ⟨k, rfl, hk, e1, e3, hi⟩
    refine pwp_go TF_ok ?_
    by_cases hlt : k < n.q.length
    · have wk := wrap_succ (k := k) (by omega)
      have hok := hn.1.1 _ (List.getElem_mem hlt)
      have hrl : (rowK n.q[k]).length = 3 := rfl
      by_cases hv : vP n.q[k] = true
      · simp [e1, e3, hlt, IAx_encQ, hrl, List.take_of_length_le, hok, hv, wk]
        exact ⟨n.q.length - (k + 1), by omega, k + 1, rfl, by omega, by omega, by rw [allTo_succ hlt, hi, hv]; rfl⟩
      · have hv' := Bool.eq_false_iff.2 hv
        have : vN n = false := by unfold vN; rw [all_not hlt hv']; simp
        simp [e1, e3, hlt, IAx_encQ, hrl, List.take_of_length_le, hok, hv', this]
    · rw [allTo_all hlt] at hi
      have hvN : vN n = sorted n.a := by
        have : (n.q.length : Int) ≤ 4096 := by omega
        simp only [vN, hi, this, decide_true, Bool.true_and]
      rw [hvN]
      simp [e1, e3, hlt]
      refine pwp_loop (fun N fr σ => ∃ k : Nat, N = n.a.length - k ∧ k ≤ n.a.length ∧ fr 1 = .ref [encQ false n.q, encA false n.a] ∧ fr 4 = num k ∧ sorted (n.a.take k) = true)
        (N := n.a.length) ⟨0, by simp [sorted, e1]⟩ ?_
      clear e1 e3 hlt hi hk
      rintro N fr σ ⟨k, rfl, hk, e1, e4, hi⟩
      refine pwp_go TF_ok ?_
      by_cases hlt : k < n.a.length
      · have wk := wrap_succ (k := k) (by omega)
        have hst := sorted_step hlt
        rw [hi, Bool.true_and] at hst
        obtain ⟨⟨x, y⟩, hxy⟩ : ∃ l : Lk, n.a[k] = l := ⟨_, rfl⟩
        rw [hxy] at hst
        simp [-NEW_def, e1, e4, hlt, IAx_encA, hxy, rowL]
        refine fun id5 h5 => ?_
        have bad : sorted (n.a.take (k + 1)) = false → sorted n.a = false := sorted_bad hlt
        have fin : sorted (n.a.take (k + 1)) = true → ∃ N', N' < n.a.length - k ∧ ∃ k' : Nat, N' = n.a.length - k' ∧ k' ≤ n.a.length ∧ (k : Int) + 1 = (k' : Int) ∧ sorted (n.a.take k') = true := fun h => ⟨n.a.length - (k + 1), by omega, k + 1, rfl, by omega, by omega, h⟩
        have nv : vL (x, y) = false → sorted n.a = false := fun hv => bad (by rw [hst, hv]; rfl)
        by_cases c1 : 0 ≤ x ∧ x < 16
        · by_cases c2 : 0 ≤ y ∧ y < 16
          · by_cases c3 : y ≤ x
            · have hb := nv (by simp [vL]; omega)
              simp [e1, e4, hlt, hxy, rowL, c1, c2, c3, hb]
            · have hv : vL (x, y) = true := vL_iff.2 (by simp only; omega)
              rw [hv, Bool.true_and] at hst
              simp [e1, e4, hlt, hxy, rowL, c1, c2, c3]
              refine pwpT_go (pwp_frz 2 (Heap.empty.set id5 (.cells [num x, num y])) (Frz.set Frz.none (by simp)) ?_)
              refine pwp_gen (I := fun fr σ => fr 1 = .ref [encQ false n.q, encA false n.a] ∧ fr 4 = num k ∧ fr 5 = .ref [num x, num y]) (by simp [e1, e4]) ?_
              clear e1 e4
              rintro fr σ ⟨e1, e4, e5⟩
              refine pwp_drawT TF_ok 37 mixed (by kernel_rfl) ?_
              rcases Nat.eq_zero_or_pos k with h0 | h0
              · subst h0
                have := fin (by rw [hst]; rfl)
                simp [e1, e4, e5, wk, wrap1]
                simpa using this
              · have hk1 : k - 1 < n.a.length := by omega
                have wm : IntKind.i64.wrap ((k : Int) - 1) = ((k - 1 : Nat) : Int) := by rw [wrap_i64 (by omega) (by omega)]; omega
                obtain ⟨⟨u, v⟩, huv⟩ : ∃ l : Lk, n.a[k - 1] = l := ⟨_, rfl⟩
                have hgd : n.a.getD (k - 1) (0, 0) = (u, v) := by rw [List.getD_eq_getElem?_getD, List.getElem?_eq_getElem hk1, huv]; rfl
                rw [hgd, decide_eq_false (show ¬ k = 0 by omega), Bool.false_or] at hst
                have hk0 : (0 : Int) < k := by omega
                have hltL : ltL (u, v) (x, y) = (decide (u < x) || decide (u = x) && decide (v < y)) := rfl
                by_cases d1 : x < u
                · have hb := bad (by rw [hst, hltL]; simp; omega)
                  simp [e1, e4, e5, wk, wm, h0, hk0, IAx_encA, hk1, huv, rowL, d1, hb]
                · by_cases d2 : x = u
                  · by_cases d3 : y ≤ v
                    · have hb := bad (by rw [hst, hltL]; simp; omega)
                      simp [e1, e4, e5, wk, wm, h0, hk0, IAx_encA, hk1, huv, rowL, d1, d2, d3, hb]
                    · have := fin (by rw [hst, hltL]; simp; omega)
                      simp [e1, e4, e5, wk, wm, h0, hk0, IAx_encA, hk1, huv, rowL, d1, d2, d3]
                      simpa using this
                  · have := fin (by rw [hst, hltL]; simp; omega)
                    have d2' : (x == u) = false := by simp [d2]
                    simp [e1, e4, e5, wk, wm, h0, hk0, IAx_encA, hk1, huv, rowL, d1, d2']
                    simpa using this
          · have hb := nv (by simp [vL]; omega)
            have c2' : (decide (0 ≤ y) && decide (y < 16)) = false := by simpa using c2
            simp [e1, e4, hlt, hxy, rowL, c1, c2', hb]
        · have hb := nv (by simp [vL]; omega)
          have c1' : (decide (0 ≤ x) && decide (x < 16)) = false := by simpa using c1
          simp [e1, e4, hlt, hxy, rowL, c1', hb]
      · rw [List.take_of_length_le (by omega)] at hi
        simp [e1, e4, hlt, hi]
end Go.Proofs.Ytgcoikbgpkfcnaa
