/-
  Sizing: the laws' contracts.
-/
import Derived.Test.YtccjejfdhhnhjaaSzL
set_option linter.unusedSimpArgs false
set_option linter.unusedVariables false
namespace Go.Proofs.Ytccjejfdhhnhjaa
open Go.Lo

set_option maxRecDepth 8000 in
theorem sane_ok : PFun P0 10 [] (bo true) := by
  refine pcalls_body Try.func10 rfl rfl rfl (by show 0 ≤ _; decide) (pwp_go TT_ok ?_)
  simp (config := { contextual := true }) [san1, san2, san3, san4, san5, san6, san7, san8, san9, isI_few, nilS]
  intros
  exact ⟨by decide, by decide⟩

def TU : Tab := TT.add 10 fun args _ => ⟨args = [], bo true⟩
theorem TU_ok : TU.ok P0 := Tab.add_fun TT_ok Try.call10 fun args h => by subst h; exact sane_ok
@[simp] theorem TU_dom10 : TU.dom 10 = true := rfl
@[simp] theorem TU_dom11 : TU.dom 11 = true := rfl
@[simp] theorem TU_dom12 : TU.dom 12 = true := rfl
@[simp] theorem TU_dom13 : TU.dom 13 = true := rfl
@[simp] theorem TU_dom14 : TU.dom 14 = true := rfl
@[simp] theorem TU_dom15 : TU.dom 15 = true := rfl
@[simp] theorem TU_dom16 : TU.dom 16 = true := rfl
@[simp] theorem TU_dom17 : TU.dom 17 = true := rfl
@[simp] theorem TU_dom18 : TU.dom 18 = true := rfl
@[simp] theorem TU_dom19 : TU.dom 19 = true := rfl
@[simp] theorem TU_dom20 : TU.dom 20 = true := rfl
@[simp] theorem TU_dom21 : TU.dom 21 = true := rfl
@[simp] theorem TU_ev10 (σ : Heap) : TU.ev 10 [] σ = ⟨True, bo true⟩ := by show (⟨([] : List PV) = [], bo true⟩ : EV) = _; simp
@[simp] theorem TU_ev11 (a : List PV) (σ : Heap) : TU.ev 11 a σ = e1 (fun l => ⟨True, bo (fewS l)⟩) a := rfl
@[simp] theorem TU_ev12 (a : List PV) (σ : Heap) : TU.ev 12 a σ = e3 (fun l s h => ⟨True, sizeR l s h⟩) a := rfl
@[simp] theorem TU_ev13 (a : List PV) (σ : Heap) : TU.ev 13 a σ = e3 (fun l s h => ⟨True, sizeR l s h⟩) a := rfl
@[simp] theorem TU_ev14 (a : List PV) (σ : Heap) : TU.ev 14 a σ = sameE a := rfl
@[simp] theorem TU_ev15 (a : List PV) (σ : Heap) : TU.ev 15 a σ = e2 (fun l m => ⟨True, coverR l m⟩) a := rfl
@[simp] theorem TU_ev16 (a : List PV) (σ : Heap) : TU.ev 16 a σ = e2 (fun l m => ⟨True, coverR l m⟩) a := rfl
@[simp] theorem TU_ev17 (a : List PV) (σ : Heap) : TU.ev 17 a σ = e4 (fun l m s h => ⟨True, costR l m s h⟩) a := rfl
@[simp] theorem TU_ev18 (a : List PV) (σ : Heap) : TU.ev 18 a σ = e4 (fun l m s h => ⟨True, costR l m s h⟩) a := rfl
@[simp] theorem TU_ev19 (a : List PV) (σ : Heap) : TU.ev 19 a σ = e3 (fun l s h => ⟨True, bo (validS l s h)⟩) a := rfl
@[simp] theorem TU_ev20 (a : List PV) (σ : Heap) : TU.ev 20 a σ = ofE a := rfl
@[simp] theorem TU_ev21 (a : List PV) (σ : Heap) : TU.ev 21 a σ = e2 (fun l m => ⟨True, bo (decide (l = m))⟩) a := rfl

theorem sizeR_ok {need : List Int} {s h : Int} (hv : validS need s h = true) : sizeR need s h = .tup [.agg [encI true (lotsL need (bestS need s h)), num (price (nf need) s h need.length), encI false (pricesL need s h)], num 0] := by
  unfold sizeR; rw [if_pos hv]
theorem sizeR_no {need : List Int} {s h : Int} (hv : ¬ validS need s h = true) : sizeR need s h = .tup [.agg [.lit (.slice none 0 0), num 0, .lit (.slice none 0 0)], num 220] := by
  unfold sizeR; rw [if_neg hv]; rfl

set_option maxRecDepth 8000 in
theorem spec_law (need : List Int) (s h : Int) (hl : need.length ≤ maxLen) : PFun P0 3 [encI false need, num s, num h] (bo true) := by
  refine pcalls_body Try.func3 rfl rfl rfl (by show 3 ≤ _; decide) (pwp_go TU_ok ?_)
  by_cases hv : validS need s h = true
  · simp (config := { contextual := true }) [hl, sizeR_ok hv, lotsL_length, pricesL_length]
  · simp (config := { contextual := true }) [hl, sizeR_no hv]

set_option maxRecDepth 8000 in
theorem cost_law (need l : List Int) (s h : Int) (hn : need.length ≤ maxLen) (hl : l.length ≤ maxLen) : PFun P0 4 [encI false need, encI false l, num s, num h] (bo true) := by
  refine pcalls_body Try.func4 rfl rfl rfl (by show 4 ≤ _; decide) (pwp_go TU_ok ?_)
  obtain ⟨a, e, h1⟩ : ∃ a e, coverR need l = .tup [bo a, num e] := by unfold coverR; split <;> exact ⟨_, _, rfl⟩
  obtain ⟨x, f, h2⟩ : ∃ x f, costR need l s h = .tup [num x, num f] := by unfold costR; split <;> exact ⟨_, _, rfl⟩
  simp (config := { contextual := true }) [hn, hl, h1, h2]
end Go.Proofs.Ytccjejfdhhnhjaa
