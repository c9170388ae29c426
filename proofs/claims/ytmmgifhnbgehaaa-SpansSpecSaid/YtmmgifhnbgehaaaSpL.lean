/-
  Spans: the laws' contracts.
-/
import Derived.Test.YtmmgifhnbgehaaaSpK
set_option linter.unusedSimpArgs false
set_option linter.unusedVariables false
namespace Go.Proofs.Ytmmgifhnbgehaaa
open Go.Lo

def TD : Tab := TC.add 10 fun args _ => ⟨args = [], bo true⟩
theorem TD_ok : TD.ok P0 := Tab.add_fun TC_ok Try.call10 fun args h => by subst h; exact sane_ok

theorem spansSpec_law (x : Bool) (a : List Sp) (ha : a.length ≤ maxLen) : PFun P0 3 [encL x a] (bo true) := by
  refine pcalls_body Try.func3 rfl rfl rfl (by show 1 ≤ _; decide) (pwp_run TD_ok ?_)
  simp [TD, TC, TB, e1, e2, eN, eS, ha, sameS]
end Go.Proofs.Ytmmgifhnbgehaaa
