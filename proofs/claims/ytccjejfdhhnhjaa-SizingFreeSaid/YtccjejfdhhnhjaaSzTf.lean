/-
  SizingFree: the given statement: for every input the law returns true and leaves its arguments as they were. Conditions: none beyond the given row's.
-/
import Derived.Test.YtccjejfdhhnhjaaSzS
import Derived.Test.YtccjejfdhhnhjaaSzR
set_option linter.unusedSimpArgs false
set_option linter.unusedVariables false
namespace Go.Proofs.Ytccjejfdhhnhjaa
open Go.Lo Go.RowKit

set_option maxRecDepth 100000 in
theorem sizingFree_lifted (os : Os) (started : os.Started) (H : Type) (enc : TypeId × Value → H) :
    ReturnsInHanded {} Try.checked os 9 .any (Rows.sizingFreeSpec.pre6 enc Try.prog Try.f9 Rows.sizingFreeRow.domain false) (Rows.sizingFreeSpec.post enc Try.prog Try.f9 false true false false) :=
  law_top (C := Try.checked) (tb := 4) (ts := [22, 3]) ownK started (by kernel_rfl) Try.func9
    (ChangeSpec.witness6 (enc := enc) (C := Try.checked) false ⟨#[], #[.slice none 0 0, .int .i64 0], []⟩ 8 (by kernel_rfl) (by kernel_rfl) (by kernel_rfl) (by kernel_rfl))
    laidOut rfl (by rw [Try.params9]) (by intro t ht; simp at ht; rcases ht with rfl | rfl <;> exact ⟨by kernel_rfl, of_decide_eq_true (by kernel_rfl)⟩) (by kernel_rfl) (by kernel_rfl)
    (fun ds h => by match ds, h with | [_, _], _ => exact ⟨rfl, rfl, rfl⟩)
    (readsInts.cons (readsInt.cons readsL_nil))
    (fun pvs hp => by
      obtain ⟨a0, _, h0, ⟨a1, _, h1, rfl, rfl⟩, rfl⟩ := hp
      exact free_law a0 a1 h0.1)

theorem sizingFree_holds : Rows.SizingFreeSaid :=
  OpenClaim.holds_of_wide 9 Try.f9 rfl rfl rfl rfl rfl rfl rfl ⟨rfl, rfl, rfl, rfl, rfl⟩ rfl rfl rfl rfl rfl (by kernel_rfl) Try.func9 (by kernel_rfl)
    (of_decide_eq_true (by kernel_rfl)) (by unfold Func.isWrapper; first | (rw [if_pos (by decide +kernel)]; kernel_rfl) | (rw [if_neg (by decide +kernel)]; exact ⟨rfl, rfl⟩))
    (fun os started H enc _ => sizingFree_lifted os started H enc)
#print axioms sizingFree_holds
end Go.Proofs.Ytccjejfdhhnhjaa
