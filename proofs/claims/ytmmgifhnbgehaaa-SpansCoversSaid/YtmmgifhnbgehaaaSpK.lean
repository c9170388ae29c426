/-
  Spans: what the functions compute, part K: sane.
-/
import Derived.Test.YtmmgifhnbgehaaaSpJ
set_option linter.unusedSimpArgs false
set_option linter.unusedVariables false
namespace Go.Proofs.Ytmmgifhnbgehaaa
open Go.Lo

@[simp] theorem zero3 : zeroP P0 3 = some [num 0] := by kernel_rfl
def decF : List (List PV) → List Sp
  | [.lit (.int _ a)] :: [.lit (.int _ b)] :: r => (a, b) :: decF r
  | _ => []
def eF (args : List PV) : EV :=
  match args with
  | [.slice _ rows] => ⟨rows = flatP (decF rows) ∧ (decF rows).length ≤ 1000, encO (decF rows)⟩
  | _ => .no
def TC : Tab := TB.add 27 fun a _ => eF a
theorem TC_ok : TC.ok P0 := Tab.add_fun TB_ok Try.call27 fun args hd => by
  unfold eF at hd ⊢
  split at hd
  · rename_i x rows
    obtain ⟨h1, h2⟩ := hd
    have := list_ok x (decF rows) h2
    rw [← h1] at this
    exact this
  · exact hd.elim

theorem sane1 : sameS (normS [(10, 20), (15, 30)]) [(10, 30)] = true := by decide +kernel
theorem sane2 : sameS (normS [(-5, 2000)]) [(0, 1024)] = true := by decide +kernel
theorem sane3 : normS [(5, 5)] = [] := by decide +kernel
theorem sane4 : sameS (combS 2 [(0, 1024)] [(0, 10)]) [(10, 1024)] = true := by decide +kernel
theorem sane5 : sameS (combS 0 [(3, 4)] [(4, 5)]) [(3, 5)] = true := by decide +kernel
theorem sane6 : sameS (combS 1 [(3, 9)] [(5, 12)]) [(5, 9)] = true := by decide +kernel
theorem sane7 : covS [(0, 10), (10, 20)] (5, 15) = true := by decide +kernel
theorem sane8 : covS [] (7, 7) = true := by decide +kernel
theorem sane9 : covS [(0, 1024)] (1023, 1025) = false := by decide +kernel
theorem sane10 : hasS [(0, 1024)] 1023 = true := by decide +kernel
theorem sane11 : hasS [(0, 1024)] 1024 = false := by decide +kernel
theorem sane12 : checkS [(0, 0)] = 30 := by decide +kernel
theorem sane13 : checkS [(0, 1024)] = 0 := by decide +kernel

set_option maxRecDepth 4000 in
set_option maxHeartbeats 1000000 in
theorem sane_ok : PFun P0 10 [] (bo true) := by
  refine pcalls_body Try.func10 rfl rfl rfl (by show 0 ≤ _; decide) (pwp_run TC_ok ?_)
  simp (config := { maxSteps := 3000000 }) [TC, TB, e1, e2, eN, eS, eF, decF, flatP, sane1, sane2, sane3, sane4, sane5, sane6, sane7, sane8, sane9, sane10, sane11, sane12, sane13]
  refine ⟨by decide, by decide, ?_⟩
  simp [encO, maxLen]
end Go.Proofs.Ytmmgifhnbgehaaa
