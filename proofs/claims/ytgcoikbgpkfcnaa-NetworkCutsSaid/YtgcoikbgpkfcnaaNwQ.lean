/-
  Network: the law NetworkCuts.
-/
import Derived.Test.YtgcoikbgpkfcnaaNwP
set_option linter.unusedSimpArgs false
set_option linter.unusedVariables false
namespace Go.Proofs.Ytgcoikbgpkfcnaa
open Go.Lo

theorem cut_five {n : Nt} {a b : Int} (hv : vN n = true) (hl : vL (btw a b) = true) : ∃ N1 N0, cutN n a b true = (N1, 0) ∧ cutN n b a true = (N1, 0) ∧ cutN N1 a b true = (N1, 0) ∧ cutN N1 b a false = (N0, 0) ∧ cutN n a b false = (N0, 0) ∧
    N1 = ⟨n.q, cutS n.a (btw a b) true⟩ ∧ N0 = ⟨n.q, cutS n.a (btw a b) false⟩ ∧ N1.a.length = N0.a.length + 1 := by
  have hl' : vL (btw b a) = true := by rw [btw_comm]; exact hl
  have hv1 : vN ⟨n.q, cutS n.a (btw a b) true⟩ = true := vN_cut hv
  refine ⟨_, _, ?_, ?_, ?_, ?_, ?_, rfl, rfl, cutS_length hl⟩
  · unfold cutN; rw [if_pos hv, if_pos hl]
  · unfold cutN; rw [if_pos hv, if_pos hl', btw_comm b a]
  · unfold cutN; rw [if_pos hv1, if_pos hl]; simp only [cutS_again]
  · unfold cutN; rw [if_pos hv1, if_pos hl', btw_comm b a]; simp only [cutS_again]
  · unfold cutN; rw [if_pos hv, if_pos hl]
theorem btw_eq {a b x y : Int} : btw x y = btw a b ↔ (x = a ∧ y = b) ∨ (x = b ∧ y = a) := by
  simp only [btw, Prod.mk.injEq]; omega
theorem cuts_facts {n : Nt} {a b : Int} {j : Nat} (hv : vN n = true) (hl : vL (btw a b) = true) (hj : j < n.q.length) :
    ∃ p1 M1 p0 M0, deliverN ⟨n.q, cutS n.a (btw a b) true⟩ j = (p1, M1, 0) ∧ deliverN ⟨n.q, cutS n.a (btw a b) false⟩ j = (p0, M0, 0) ∧
      (((p0.f = a ∧ p0.t = b) ∨ (p0.f = b ∧ p0.t = a)) → sameP p1 pk0 = true) ∧
      (¬ ((p0.f = a ∧ p0.t = b) ∨ (p0.f = b ∧ p0.t = a)) → p1 = p0) := by
  have a1 : askN ⟨n.q, cutS n.a (btw a b) true⟩ j = 0 := askN_ok.2 ⟨vN_cut hv, by omega, by show (j : Int) < n.q.length; omega⟩
  have a0 : askN ⟨n.q, cutS n.a (btw a b) false⟩ j = 0 := askN_ok.2 ⟨vN_cut hv, by omega, by show (j : Int) < n.q.length; omega⟩
  have hp := atN_vP a1
  obtain ⟨p, hpe⟩ : ∃ p, atN ⟨n.q, cutS n.a (btw a b) true⟩ j = p := ⟨_, rfl⟩
  have hpe0 : atN ⟨n.q, cutS n.a (btw a b) false⟩ j = p := hpe
  rw [hpe] at hp
  have hpl : vL (btw p.f p.t) = true := by unfold vP at hp; exact (Bool.and_eq_true_iff.1 hp).1
  have hab : a ≠ b := fun e => by subst e; simp [vL, btw] at hl
  have h01 := vL_iff.1 hl
  refine ⟨_, _, _, _, by unfold deliverN; rw [if_pos a1, hpe], by unfold deliverN; rw [if_pos a0, hpe0], ?_, ?_⟩ <;> simp only [cutS_mem hpl]
  · intro h
    by_cases hx : btw p.f p.t = btw a b
    · simp [cutP, hx, sameP_refl]
    · have e : cutP n.a (btw a b) false (btw p.f p.t) = n.a.contains (btw p.f p.t) := by unfold cutP; rw [if_neg hx]
      have e' : cutP n.a (btw a b) true (btw p.f p.t) = n.a.contains (btw p.f p.t) := by unfold cutP; rw [if_neg hx]
      rw [e] at h
      rw [e']
      cases hc : n.a.contains (btw p.f p.t) with
      | true => simp [sameP_refl]
      | false =>
        rw [hc] at h
        exact absurd (btw_eq.2 (by simpa using h)) hx
  · intro h
    by_cases hx : btw p.f p.t = btw a b
    · have e : cutP n.a (btw a b) false (btw p.f p.t) = false := by unfold cutP; rw [if_pos hx]
      rw [e] at h
      exact absurd (btw_eq.1 hx) (by simpa using h)
    · have e : cutP n.a (btw a b) false (btw p.f p.t) = n.a.contains (btw p.f p.t) := by unfold cutP; rw [if_neg hx]
      have e' : cutP n.a (btw a b) true (btw p.f p.t) = n.a.contains (btw p.f p.t) := by unfold cutP; rw [if_neg hx]
      rw [e, e']

set_option maxHeartbeats 4000000 in
set_option maxRecDepth 8000 in
theorem cuts5_ok (n : Nt) (a b v : Int) (hn : okN n) (hv0 : 0 ≤ v) (hv1 : v < 18446744073709551616) : PFun P0 5 [.agg (netC n), num a, num b, .lit (.int .u64 v)] (bo true) := by
  refine pcalls_body Try.func5 rfl rfl rfl (by show 4 ≤ _; decide) (pwp_go TP_ok ?_)
  have hq := hn.1
  have ha := hn.2
  cases hf : fewS n with
  | false => simp (config := { contextual := true }) [netC, hq, ha, hf]
  | true =>
  cases hc : vN n with
  | false => simp (config := { contextual := true }) [netC, hq, ha, hf, chkR, hc]
  | true =>
  cases hl : vL (btw a b) with
  | false =>
    have c1 : cutN n a b true = (nt0, 1) := by unfold cutN; rw [if_pos hc, hl]; rfl
    simp (config := { contextual := true }) [netC, hq, ha, hf, chkR, hc, c1, cutV, neV]
  | true =>
  obtain ⟨N1, N0, c1, c2, c3, c4, c5, w1, w0, hlen⟩ := cut_five hc hl
  have oN1 : okN N1 := by have := okN_cut (a := a) (b := b) (on := true) hn; rwa [c1] at this
  have oN0 : okN N0 := by have := okN_cut (a := a) (b := b) (on := false) hn; rwa [c5] at this
  obtain ⟨a1, a2⟩ := oN1
  obtain ⟨b1, b2⟩ := oN0
  have oN1 : okN N1 := ⟨a1, a2⟩
  have oN0 : okN N0 := ⟨b1, b2⟩
  have hf' := fewS_le hf
  have h1 := sameN_refl N1
  have h0 := sameN_refl N0
  have few0 : N0.a.length ≤ 120 := by rw [w0]; exact cutS_few _ _ _
  have wl : IntKind.i64.wrap ((N0.a.length : Int) + 1) = (N0.a.length : Int) + 1 := wrap_i64 (by omega) (by omega)
  have hlen' : (N1.a.length : Int) = (N0.a.length : Int) + 1 := by omega
  by_cases hz : n.q.length = 0
  · have hz' : (n.q.length : Int) = 0 := by omega
    simp (config := { contextual := true }) [netC, hq, ha, hf, chkR, hc, c1, c2, c3, c4, c5, cutV, neV, a1, a2, b1, b2, h1, h0, wl, hlen', hz', hz]
  · have hz' : ((n.q.length : Int) == 0) = false := by simpa using hz
    have wu : IntKind.u64.wrap (n.q.length : Int) = n.q.length := Go.IntWalk.u64_in _ (by omega)
    obtain ⟨j, hj, hja⟩ : ∃ j : Nat, v.tmod (n.q.length : Int) = (j : Int) ∧ j < n.q.length := by
      have q1 := Int.emod_nonneg v (show (n.q.length : Int) ≠ 0 by omega)
      have q2 := Int.emod_lt_of_pos v (show (0 : Int) < (n.q.length : Int) by omega)
      rw [Int.tmod_eq_emod_of_nonneg hv0]
      exact ⟨(v % (n.q.length : Int)).toNat, by omega, by omega⟩
    have wj : IntKind.i64.wrap (j : Int) = j := wrap_i64 (by omega) (by omega)
    obtain ⟨p1, M1, p0, M0, d1, d0, k1, k2⟩ := cuts_facts hc hl hja
    rw [← w1] at d1
    rw [← w0] at d0
    have op1 : okP p1 := by have := okP_deliver (i := (j : Int)) oN1; rwa [d1] at this
    have op0 : okP p0 := by have := okP_deliver (i := (j : Int)) oN0; rwa [d0] at this
    unfold okP at op1 op0
    have z0 := okP_zero
    unfold okP at z0
    have hab : ¬ a = b := fun e => by subst e; simp [vL, btw] at hl
    have hba : ¬ b = a := fun e => hab e.symm
    have g0 : (n.q.length : Int) ≠ 0 := by omega
    have g1 : ¬ n.q = [] := fun e => hz (by rw [e]; rfl)
    obtain ⟨f0, t0, e0⟩ := p0
    have e0l : e0.length ≤ maxLen := op0
    by_cases x1 : f0 = a
    · subst x1
      by_cases x2 : t0 = b
      · subst x2
        have k := k1 (.inl ⟨rfl, rfl⟩)
        simp (config := { contextual := true }) [netC, hq, ha, hf, chkR, hc, c1, c2, c3, c4, c5, cutV, neV, a1, a2, b1, b2, h1, h0, wl, hlen', hz', wu, hj, wj, g0, g1, d1, d0, deliverV, rowK, op1, op0, z0, k, e0l]
      · have x2' : (t0 == b) = false := by simpa using x2
        have k := k2 (by simp [e0l, x2, hab, hba])
        subst k
        have kr := sameP_refl ⟨f0, t0, e0⟩
        cases hS : sameP ⟨f0, t0, e0⟩ pk0 <;> simp (config := { contextual := true }) [netC, hq, ha, hf, chkR, hc, c1, c2, c3, c4, c5, cutV, neV, a1, a2, b1, b2, h1, h0, wl, hlen', hz', wu, hj, wj, g0, g1, d1, d0, deliverV, rowK, op1, op0, z0, kr, hS, e0l, x2, hab, hba]
    · by_cases x3 : f0 = b
      · subst x3
        by_cases x4 : t0 = a
        · subst x4
          have k := k1 (.inr ⟨rfl, rfl⟩)
          simp (config := { contextual := true }) [netC, hq, ha, hf, chkR, hc, c1, c2, c3, c4, c5, cutV, neV, a1, a2, b1, b2, h1, h0, wl, hlen', hz', wu, hj, wj, g0, g1, d1, d0, deliverV, rowK, op1, op0, z0, k, e0l, hab, hba]
        · skip
          have k := k2 (by simp [e0l, x1, x4, hab, hba])
          subst k
          have kr := sameP_refl ⟨f0, t0, e0⟩
          cases hS : sameP ⟨f0, t0, e0⟩ pk0 <;> simp (config := { contextual := true }) [netC, hq, ha, hf, chkR, hc, c1, c2, c3, c4, c5, cutV, neV, a1, a2, b1, b2, h1, h0, wl, hlen', hz', wu, hj, wj, g0, g1, d1, d0, deliverV, rowK, op1, op0, z0, kr, hS, e0l, x1, x4, hab, hba]
      · skip
        have k := k2 (by simp [e0l, x1, x3])
        subst k
        have kr := sameP_refl ⟨f0, t0, e0⟩
        cases hS : sameP ⟨f0, t0, e0⟩ pk0 <;> simp (config := { contextual := true }) [netC, hq, ha, hf, chkR, hc, c1, c2, c3, c4, c5, cutV, neV, a1, a2, b1, b2, h1, h0, wl, hlen', hz', wu, hj, wj, g0, g1, d1, d0, deliverV, rowK, op1, op0, z0, kr, hS, e0l, x1, x3]
end Go.Proofs.Ytgcoikbgpkfcnaa
