/-
  Prices: what the functions compute, part P: the bound.
-/
import Derived.Test.YtnnablbdakomlaaPrO
set_option linter.unusedSimpArgs false
set_option linter.unusedVariables false
namespace Go.Proofs.Ytnnablbdakomlaa
open Go.Lo

def prs (a : List Int) : List (Nat × Nat) := rowsTo a.length (fun x t => (x, t)) a.length
theorem pVs_map (a : List Int) (s h : Int) (p : List Int) : pVs a s h p = (prs a).map fun q => [pairP a s h p q.1 q.2] := by
  unfold pVs prs; rw [rowsTo_map]
theorem pVs_len (a : List Int) (s h : Int) (p : List Int) : (pVs a s h p).length = (prs a).length := by rw [pVs_map]; simp
theorem pVs_at {a : List Int} {s h : Int} {p : List Int} {k : Nat} (hk : k < (pVs a s h p).length) (hk' : k < (prs a).length) : (pVs a s h p)[k] = [pairP a s h p (prs a)[k].1 (prs a)[k].2] := by
  have := pVs_map a s h p
  simp [this]
theorem prs_mem {a : List Int} {q : Nat × Nat} : q ∈ prs a ↔ q.1 ≤ q.2 ∧ q.2 < a.length := by
  unfold prs
  rw [rowsTo_mem]
  constructor
  · rintro ⟨x, t, h1, h2, h3, rfl⟩; exact ⟨h2, h3⟩
  · rintro ⟨h1, h2⟩; exact ⟨q.1, q.2, by omega, h1, h2, rfl⟩
def okQ (a : List Int) (s h : Int) (p : List Int) (q : Nat × Nat) : Bool := decide (0 ≤ sl a s h p q.1 q.2)
def boundS (a : List Int) (s h : Int) (p : List Int) : Bool := (prs a).all (okQ a s h p)
theorem boundS_iff {a : List Int} {s h : Int} {p : List Int} : boundS a s h p = true ↔ ProofF (nf a) s h (fS p) a.length := by
  unfold boundS
  rw [List.all_eq_true]
  constructor
  · intro hh x t hx ht
    have := hh (x, t) (prs_mem.2 ⟨hx, ht⟩)
    exact of_decide_eq_true this
  · intro hh q hq
    obtain ⟨h1, h2⟩ := prs_mem.1 hq
    have := hh q.1 q.2 h1 h2
    exact decide_eq_true this
def boundR (a : List Int) (s h : Int) (p : List Int) : PV := if boundS a s h p then .tup [num (fS p a.length), bo true] else .tup [num 0, bo false]

def TJ : Tab := ((TI.add 29 fun a _ => t1 (fun a s h p => ⟨True, pIt a s h p⟩) a).add 22 fun a _ => t1 (fun a s h p => ⟨True, bo (validS a s h)⟩) a).add 23 fun a _ => t1 (fun a s h p => ⟨True, bo (pricedS a p)⟩) a
theorem TJ_ok : TJ.ok P0 := by
  refine Tab.add_fun (Tab.add_fun (Tab.add_fun TI_ok Try.call29 ?_) Try.call22 ?_) Try.call23 ?_
  · exact t1_fun fun a s h p _ _ _ => pairs29_ok a s h p
  · exact t1_fun fun a s h p ha _ _ => valid22_ok a s h p ha
  · exact t1_fun fun a s h p _ hp _ => priced23_ok a s h p hp
@[simp] theorem TJ_dom29 : TJ.dom 29 = true := rfl
@[simp] theorem TJ_dom22 : TJ.dom 22 = true := rfl
@[simp] theorem TJ_dom23 : TJ.dom 23 = true := rfl
@[simp] theorem TJ_dom45 : TJ.dom 45 = true := rfl
@[simp] theorem TJ_ev29 (a : List PV) (σ : Heap) : TJ.ev 29 a σ = t1 (fun a s h p => ⟨True, pIt a s h p⟩) a := rfl
@[simp] theorem TJ_ev22 (a : List PV) (σ : Heap) : TJ.ev 22 a σ = t1 (fun a s h p => ⟨True, bo (validS a s h)⟩) a := rfl
@[simp] theorem TJ_ev23 (a : List PV) (σ : Heap) : TJ.ev 23 a σ = t1 (fun a s h p => ⟨True, bo (pricedS a p)⟩) a := rfl
@[simp] theorem TJ_ev45 (a : List PV) (σ : Heap) : TJ.ev 45 a σ = t2 (fun l s h m t => ⟨0 ≤ t ∧ t ≤ m.length, num (fS m t.toNat)⟩) a := rfl
@[simp] theorem sv_pIt (a : List Int) (s h : Int) (p : List Int) : sv (pIt a s h p) = pIt a s h p := rfl
@[simp] theorem avt_pIt (a : List Int) (s h : Int) (p : List Int) : avt (pIt a s h p) = True := rfl

theorem pVs_one (a : List Int) (s h : Int) (p : List Int) : ∀ v ∈ pVs a s h p, v.length = 1 := fun v hv => by
  rw [pVs_map] at hv
  obtain ⟨q, _, rfl⟩ := List.mem_map.1 hv; rfl

theorem bound24_ok (a : List Int) (s h : Int) (p : List Int) (H : Ok a s h) (hp : Prc a p) : PFun P0 24 [.agg (taskC a s h p)] (boundR a s h p) := by
  have hf := H.few
  have hpl := hp.len
  have hal : a.length ≤ maxLen := by unfold maxLen; omega
  have hpm : p.length ≤ maxLen := by unfold maxLen; omega
  refine pcalls_body Try.func24 rfl rfl rfl (by show 1 ≤ _; decide) (pwp_go TJ_ok ?_)
  unfold boundR taskC
  simp (config := { contextual := true }) [hal, hpm]
  intro id1 id2 h21 id3 h31 h32
  refine pwp_rangeT TJ_ok (fun k σ => σ id1 = some (.cells (taskC a s h p)) ∧ σ id2 = some (.cells [num 0]) ∧ σ id3 = some (.cells [bo false]) ∧ allTo (okQ a s h p) (prs a) k = true) (pairIt H hp) (by simp; rfl) Try.call47 (fun v hv => by rw [pVs_one _ _ _ _ v hv]; rfl) (by decide)
    (by simp [h21, h31, h32, allTo_zero, taskC]) ?_ ?_
  · rintro k σ hk ⟨s1, s2, s3, hc⟩
    have hk' : k < (prs a).length := by rw [← pVs_len a s h p]; exact hk
    rw [pVs_at hk hk', pairP]
    simp [-NEW_def, s1, s2, s3, h21, h31, h32, hc]
    refine fun id4 h4 => ?_
    have c1 := frs.ne h4 s1
    have c2 := frs.ne h4 s2
    have c3 := frs.ne h4 s3
    rw [taskC] at s1
    by_cases hz : sl a s h p (prs a)[k].1 (prs a)[k].2 < 0
    · have hb : boundS a s h p = false := all_not hk' (by simp only [okQ, decide_eq_false_iff_not]; omega)
      simp [s1, s2, s3, h21, h31, h32, c1, c2, c3, hz, hb]
    · have hq : okQ a s h p (prs a)[k] = true := by simp only [okQ, decide_eq_true_eq]; omega
      simp [s1, s2, s3, h21, h31, h32, c1, c2, c3, hz, allTo_succ hk', hc, hq, taskC]
  · rintro σ ⟨s1, s2, s3, hc⟩
    rw [pVs_len] at hc
    have hb : boundS a s h p = true := by rw [allTo_all (by omega)] at hc; exact hc
    rw [taskC] at s1
    simp [s1, s2, s3, h21, h31, h32, hb, hal, hpm, hpl]
end Go.Proofs.Ytnnablbdakomlaa
