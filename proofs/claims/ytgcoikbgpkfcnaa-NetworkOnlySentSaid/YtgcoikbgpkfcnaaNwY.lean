/-
  Network: how moves read as plain data.
-/
import Derived.Test.YtgcoikbgpkfcnaaNwR
import Derived.Test.YtgcoikbgpkfcnaaNwW
set_option linter.unusedSimpArgs false
set_option linter.unusedVariables false
namespace Go.Proofs.Ytgcoikbgpkfcnaa
open Go.Lo Go.RowKit

theorem u8_range {x : Int} (h : (Lit.int .u8 x).wf = true) : 0 ≤ x ∧ x < 256 := by
  simp only [Lit.wf, Bool.and_eq_true, decide_eq_true_eq] at h
  have e1 : IntKind.u8.min = 0 := by decide
  have e2 : IntKind.u8.max = 255 := by decide
  rw [e1, e2] at h; omega
theorem rMv : Reads P0 52 Mv rowM okM := by
  have c5 : P0.cellsOf 5 = 1 := by kernel_rfl
  intro H en W sp hd n cs x hx
  exact Reads.conv (enc' := rowM) (wf' := okM) (reads_struct (P := P0) (t := 52) (l := [(5, 0), (5, 1), (5, 2), (5, 3), (5, 4)]) (by kernel_rfl) (readsF_cons c5 rU8 (readsF_cons c5 rU8 (readsF_cons c5 rU8 (readsF_cons c5 rU8 (readsF_cons c5 rU8 readsF_nil))))))
    (fun x => Mv.mk x.1 x.2.1 x.2.2.1 x.2.2.2.1 x.2.2.2.2.1) (fun x h => ⟨⟨u8_range h.1, u8_range h.2.1, u8_range h.2.2.1, u8_range h.2.2.2.1⟩, rfl⟩) en W sp hd n cs x hx
theorem readsMvs : ReadsV P0 48 (List Mv) (encM false) (fun l => l.length ≤ maxLen ∧ ∀ m ∈ l, okM m) :=
  ReadsV.conv (readsV_one (t := 48) (fun u hu => by rw [show P0.underlying 48 = some (.slice 52) by kernel_rfl] at hu; cases hu; trivial) (reads_slice (e := 52) (k := 5) (by kernel_rfl) (by kernel_rfl) (by decide) rMv)) (fun l => l) fun l h => ⟨⟨h.1, fun m hm => (h.2 m hm).1⟩, rfl⟩
end Go.Proofs.Ytgcoikbgpkfcnaa
