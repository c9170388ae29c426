/-
  NetworkOnlySent: the given statement: for every input the law returns true and leaves its arguments as they were. Conditions: none beyond the given row's.
-/
import Derived.Test.YtgcoikbgpkfcnaaNwY
import Derived.Test.YtgcoikbgpkfcnaaNwX
set_option linter.unusedSimpArgs false
set_option linter.unusedVariables false
namespace Go.Proofs.Ytgcoikbgpkfcnaa
open Go.Lo Go.RowKit

set_option maxRecDepth 100000 in
theorem networkOnlySent_lifted (os : Os) (started : os.Started) (H : Type) (enc : TypeId × Value → H) :
    ReturnsInHanded {} Try.checked os 7 .any (Rows.networkOnlySentSpec.pre6 enc Try.prog Try.f7 Rows.networkOnlySentRow.domain false) (Rows.networkOnlySentSpec.post enc Try.prog Try.f7 false true false false) :=
  law_top (C := Try.checked) (tb := 4) (ts := [48]) ownK started (by kernel_rfl) Try.func7
    (ChangeSpec.witness6 (enc := enc) (C := Try.checked) false ⟨#[], #[.slice none 0 0], []⟩ 8 (by kernel_rfl) (by kernel_rfl) (by kernel_rfl) (by kernel_rfl))
    laidOut rfl (by rw [Try.params7]) (by intro t ht; simp at ht; rcases ht with rfl <;> exact ⟨by kernel_rfl, of_decide_eq_true (by kernel_rfl)⟩) (by kernel_rfl) (by kernel_rfl)
    (fun ds h => by match ds, h with | [_], _ => exact ⟨rfl, rfl, rfl⟩)
    (readsMvs.cons readsL_nil)
    (fun pvs hp => by
      obtain ⟨a0, _, h0, rfl, rfl⟩ := hp
      exact onlySent7_ok a0 h0)

theorem networkOnlySent_holds : Rows.NetworkOnlySentSaid :=
  OpenClaim.holds_of_wide 7 Try.f7 rfl rfl rfl rfl rfl rfl rfl ⟨rfl, rfl, rfl, rfl, rfl⟩ rfl rfl rfl rfl rfl (by kernel_rfl) Try.func7 (by kernel_rfl)
    (of_decide_eq_true (by kernel_rfl)) (by unfold Func.isWrapper; first | (rw [if_pos (by decide +kernel)]; kernel_rfl) | (rw [if_neg (by decide +kernel)]; exact ⟨rfl, rfl⟩))
    (fun os started H enc _ => networkOnlySent_lifted os started H enc)
#print axioms networkOnlySent_holds
end Go.Proofs.Ytgcoikbgpkfcnaa
