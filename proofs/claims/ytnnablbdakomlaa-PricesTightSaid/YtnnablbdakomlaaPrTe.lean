/-
  PricesTight: the given statement: for every input the law returns true and leaves its arguments as they were. Conditions: none beyond the given row's.
-/
import Derived.Test.YtnnablbdakomlaaPrS
import Derived.Test.YtnnablbdakomlaaPrX
set_option linter.unusedSimpArgs false
set_option linter.unusedVariables false
namespace Go.Proofs.Ytnnablbdakomlaa
open Go.Lo Go.RowKit

set_option maxRecDepth 100000 in
theorem pricesTight_lifted (os : Os) (started : os.Started) (H : Type) (enc : TypeId × Value → H) :
    ReturnsInHanded {} Try.checked os 9 .any (Rows.pricesTightSpec.pre6 enc Try.prog Try.f9 Rows.pricesTightRow.domain false) (Rows.pricesTightSpec.post enc Try.prog Try.f9 false true false false) :=
  law_top (C := Try.checked) (tb := 4) (ts := [22, 3, 3, 22]) ownK started (by kernel_rfl) Try.func9
    (ChangeSpec.witness6 (enc := enc) (C := Try.checked) false ⟨#[], #[.slice none 0 0, .int .i64 0, .int .i64 0, .slice none 0 0], []⟩ 8 (by kernel_rfl) (by kernel_rfl) (by kernel_rfl) (by kernel_rfl))
    laidOut rfl (by rw [Try.params9]) (by intro t ht; simp at ht; rcases ht with rfl | rfl | rfl | rfl <;> exact ⟨by kernel_rfl, of_decide_eq_true (by kernel_rfl)⟩) (by kernel_rfl) (by kernel_rfl)
    (fun ds h => by match ds, h with | [_, _, _, _], _ => exact ⟨rfl, rfl, rfl⟩)
    (readsInts.cons (readsInt.cons (readsInt.cons (readsInts.cons readsL_nil))))
    (fun pvs hp => by
      obtain ⟨a0, _, h0, ⟨a1, _, h1, ⟨a2, _, h2, ⟨a3, _, h3, rfl, rfl⟩, rfl⟩, rfl⟩, rfl⟩ := hp
      exact tight_law a0 a1 a2 a3 h0.1 h3.1)

theorem pricesTight_holds : Rows.PricesTightSaid :=
  OpenClaim.holds_of_wide 9 Try.f9 rfl rfl rfl rfl rfl rfl rfl ⟨rfl, rfl, rfl, rfl, rfl⟩ rfl rfl rfl rfl rfl (by kernel_rfl) Try.func9 (by kernel_rfl)
    (of_decide_eq_true (by kernel_rfl)) (by unfold Func.isWrapper; first | (rw [if_pos (by decide +kernel)]; kernel_rfl) | (rw [if_neg (by decide +kernel)]; exact ⟨rfl, rfl⟩))
    (fun os started H enc _ => pricesTight_lifted os started H enc)
#print axioms pricesTight_holds
end Go.Proofs.Ytnnablbdakomlaa
