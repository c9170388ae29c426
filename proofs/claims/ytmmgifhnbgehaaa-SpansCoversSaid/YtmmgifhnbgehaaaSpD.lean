/-
  Spans: what the functions compute, part D: the set's spans, one after another.
-/
import Derived.Test.YtmmgifhnbgehaaaSpB
import Derived.Test.YtmmgifhnbgehaaaSpC
import Derived.Test.YtmmgifhnbgehaaaLoQ
set_option linter.unusedSimpArgs false
set_option linter.unusedVariables false
namespace Go.Proofs.Ytmmgifhnbgehaaa
open Go.Lo

theorem setSpans_ok (f : Nat → Bool) : PFun P0 40 [.ref (bitsP f)] (.fn (.func 42) [] [.ref [.ref (bitsP f)]]) := by
  refine pcalls_frz ?_
  refine pcalls_body Try.func40 rfl rfl rfl (by show 1 ≤ _; decide) (pwp_run n_ok ?_)
  simp [ev, Fr.init]
  intro id
  refine ⟨2, Heap.one id (.cells [.ref (bitsP f)]), .one (by simp [Heap.set_apply]), ?_⟩
  simp [frzO, frzN, Heap.one]

@[simp] theorem places31 : places P0 31 = some [(0, 1), (1, 1)] := by kernel_rfl
@[simp] theorem ixi31 : ixi P0 31 = none := by kernel_rfl
attribute [simp] fillP
@[simp] theorem inf50 : inf P0 50 = some (1, false) := by kernel_rfl

set_option maxHeartbeats 400000 in
theorem iter_ok (f : Nat → Bool) (L : Nat) (I : Nat → Heap → Prop) (R : Heap → Prop)
    (hI : ∀ k σ (h : k < (runsF f).length), I k σ → yruns P0 L [.agg (encS (runsF f)[k])] σ fun o σ' => (o = .val (bo true) ∧ I (k + 1) σ') ∨ (o = .val (bo false) ∧ R σ')) (σ : Heap) (h0 : I 0 σ) :
    pcalls P0 42 [.yld L, .ref [.ref (bitsP f)]] σ fun o σ' => (∃ v, o = .val v) ∧ (I (runsF f).length σ' ∨ R σ') := by
  refine pcalls_body Try.func42 rfl rfl rfl (by show 2 ≤ _; decide) (pwp_run n_ok ?_)
  simp [ev, Fr.init]
  refine pwp_loop (fun N fr σ => ∃ i k : Nat, N = 1025 - i ∧ i ≤ 1025 ∧ k ≤ (runsF f).length ∧ fr 0 = .yld L ∧ fr 1 = .ref [.ref (bitsP f)] ∧ fr 3 = num i ∧ Runs f i ((runsF f).drop k) ∧ I k σ)
    (N := 1025) ⟨0, 0, by simp [Fr.init, h0, runsF_runs]⟩ ?_
  rintro N fr σ ⟨i, k, rfl, hi, hk, e0, e1, e3, hr, hI0⟩
  refine pwp_run n_ok ?_
  by_cases hlt : i < 1024
  · have hlt' : (i : Int) < 1024 := by omega
    cases hf : f i with
    | false =>
      simp [ev, e0, e1, e3, hlt, hlt', hf]
      exact ⟨by omega, 1025 - (i + 1), by omega, i + 1, rfl, by omega, k, hk, by rw [wrap_i64 (by omega) (by omega)]; omega, hr.skip (fun _ => hf), hI0⟩
    | true =>
      obtain ⟨b, l', hb1, hb2, hb3, hb4, hb5, hb6⟩ := hr.at hlt hf
      have hkl : k < (runsF f).length := by
        rcases Nat.lt_or_ge k (runsF f).length with h | h
        · exact h
        · rw [List.drop_eq_nil_of_le h] at hb1; cases hb1
      rw [List.drop_eq_getElem_cons hkl] at hb1
      injection hb1 with hb7 hb8
      simp [ev, e0, e1, e3, hlt, hlt', hf]
      refine ⟨by omega, ?_⟩
      refine pwp_loop (fun N fr σ => ∃ j : Nat, N = 1025 - j ∧ i < j ∧ j ≤ b ∧ fr 0 = .yld L ∧ fr 1 = .ref [.ref (bitsP f)] ∧ fr 3 = num i ∧ fr 4 = num j ∧ I k σ) (N := 1025 - (i + 1)) ⟨i + 1, by simp [e0, e1, e3, hI0]; rw [wrap_i64 (by omega) (by omega)]; omega⟩ ?_
      rintro N fr σ ⟨j, rfl, hj1, hj2, e0, e1, e3, e4, hI0⟩
      refine pwp_run n_ok ?_
      by_cases hjb : j < b
      · have hj : (j : Int) < 1024 := by omega
        have hjn : j < 1024 := by omega
        simp [ev, e0, e1, e3, e4, hj, hjn, hb4 j (by omega) hjb]
        refine ⟨by omega, 1025 - (j + 1), by omega, j + 1, rfl, by omega, by omega, by rw [wrap_i64 (by omega) (by omega)]; omega, hI0⟩
      · have : j = b := by omega
        subst this
        by_cases hb9 : j < 1024
        · have hj : (j : Int) < 1024 := by omega
          simp [ev, e0, e1, e3, e4, hj, hb9, hb5 hb9]
          refine ⟨by omega, ?_⟩
          refine pops_yield Tab.nil n_ok rfl rfl rfl rfl (L := L) (args := [.agg (encS (runsF f)[k])]) (by simp) (by simp) (by simp) (by simp [hb7, encS]) (hI k σ hkl hI0) ?_
          rintro o' σ' (⟨rfl, h1⟩ | ⟨rfl, h1⟩)
          · simp [ev, e0, e1, e3, e4]
            refine ⟨1025 - (j + 1), by omega, j + 1, rfl, by omega, k + 1, by omega, by rw [wrap_i64 (by omega) (by omega)]; omega, ?_, h1⟩
            rw [hb8]; exact hb6.skip hb5
          · simp [ev, e0, e1, e3, e4, h1]
        · have hj : ¬ (j : Int) < 1024 := by omega
          simp [ev, e0, e1, e3, e4, hj, hb9]
          refine pops_yield Tab.nil n_ok rfl rfl rfl rfl (L := L) (args := [.agg (encS (runsF f)[k])]) (by simp) (by simp) (by simp) (by simp [hb7, encS]) (hI k σ hkl hI0) ?_
          rintro o' σ' (⟨rfl, h1⟩ | ⟨rfl, h1⟩)
          · simp [ev, e0, e1, e3, e4]
            refine ⟨1025 - (j + 1), by omega, j + 1, rfl, by omega, k + 1, by omega, by rw [wrap_i64 (by omega) (by omega)]; omega, ?_, h1⟩
            rw [hb8]; exact hb6.skip hb5
          · simp [ev, e0, e1, e3, e4, h1]
  · have hlt' : ¬ (i : Int) < 1024 := by omega
    have hd := hr.done (by omega)
    have h1 : (runsF f).length ≤ k := by simpa using hd
    have hI1 : I (runsF f).length σ := by rw [show (runsF f).length = k by omega]; exact hI0
    generalize runsF f = vs at *
    clear hr hd
    simp [ev, e0, e1, e3, hlt']
    exact .inl hI1

theorem iterC (f : Nat → Bool) : IterC P0 42 [] [.ref [.ref (bitsP f)]] ((runsF f).map fun s => [.agg (encS s)]) := by
  intro L I R hI σ h0
  have := iter_ok f L I R (fun k σ h hk => by
    have := hI k σ (by simpa using h) hk
    simpa using this) σ h0
  simpa using this
end Go.Proofs.Ytmmgifhnbgehaaa
