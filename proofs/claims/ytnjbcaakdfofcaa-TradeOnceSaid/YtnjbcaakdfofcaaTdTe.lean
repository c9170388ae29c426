/-
  TradeOnce: the given statement: for every input the law returns true and leaves its arguments as they were. Conditions: none beyond the given row's.
-/
import Derived.Test.YtnjbcaakdfofcaaMb
set_option linter.unusedSimpArgs false
set_option linter.unusedVariables false
namespace Go.Proofs.Ytnjbcaakdfofcaa
open Go.Lo Go.RowKit

set_option maxRecDepth 100000 in
theorem tradeOnce_lifted (os : Os) (started : os.Started) (H : Type) (enc : TypeId × Value → H) :
    ReturnsInHanded {} Try.checked os 6 .any (Rows.tradeOnceSpec.pre6 enc Try.prog Try.f6 Rows.tradeOnceRow.domain false) (Rows.tradeOnceSpec.post enc Try.prog Try.f6 false true false false) :=
  law_top (C := Try.checked) (tb := 4) (ts := [5, 5, 47]) ownK started (by kernel_rfl) Try.func6
    (ChangeSpec.witness6 (enc := enc) (C := Try.checked) false ⟨#[], #[.int .u8 0, .int .u8 0, .slice none 0 0], []⟩ 8 (by kernel_rfl) (by kernel_rfl) (by kernel_rfl) (by kernel_rfl))
    laidOut rfl (by rw [Try.params6]) (by intro t ht; simp at ht; rcases ht with rfl | rfl | rfl <;> exact ⟨by kernel_rfl, of_decide_eq_true (by kernel_rfl)⟩) (by kernel_rfl) (by kernel_rfl)
    (fun ds h => by match ds, h with | [_, _, _], _ => exact ⟨rfl, rfl, rfl⟩)
    (readsU8.cons (readsU8.cons (readsSs.cons readsL_nil)))
    (fun pvs hp => by
      obtain ⟨a0, _, h0, ⟨a1, _, h1, ⟨a2, _, h2, rfl, rfl⟩, rfl⟩, rfl⟩ := hp
      exact once6_ok a0 a1 a2 h0 h1 h2.2 h2.1)

theorem tradeOnce_holds : Rows.TradeOnceSaid :=
  OpenClaim.holds_of_wide 6 Try.f6 rfl rfl rfl rfl rfl rfl rfl ⟨rfl, rfl, rfl, rfl, rfl⟩ rfl rfl rfl rfl rfl (by kernel_rfl) Try.func6 (by kernel_rfl)
    (of_decide_eq_true (by kernel_rfl)) (by unfold Func.isWrapper; first | (rw [if_pos (by decide +kernel)]; kernel_rfl) | (rw [if_neg (by decide +kernel)]; exact ⟨rfl, rfl⟩))
    (fun os started H enc _ => tradeOnce_lifted os started H enc)
#print axioms tradeOnce_holds
end Go.Proofs.Ytnjbcaakdfofcaa
