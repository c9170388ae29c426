/-
  Spans: how the laws' arguments read as plain data.
-/
import Derived.Test.YtmmgifhnbgehaaaLoR
import Derived.Test.YtmmgifhnbgehaaaSpL
set_option linter.unusedSimpArgs false
set_option linter.unusedVariables false
namespace Go.Proofs.Ytmmgifhnbgehaaa
open Go.Lo Go.RowKit

theorem ownK : ownKnob Try.prog.godebug = none := by kernel_rfl
theorem laidOut : laidOutB Try.prog = true := by kernel_rfl

theorem readsSp : Reads P0 31 Sp encS (fun s => (Lit.int .i64 s.1).wf = true ∧ (Lit.int .i64 s.2).wf = true) :=
  Reads.conv (reads_struct2 (t := 31) (k := 1) (m := 1) Try.underlying31 (by kernel_rfl) (by kernel_rfl) (by kernel_rfl) (by kernel_rfl) (by kernel_rfl) (reads_int (k := .i64) (by kernel_rfl)) (reads_int (k := .i64) (by kernel_rfl))) (fun x => x) fun x h => ⟨h, rfl⟩
theorem readsSpV : ReadsV P0 31 Sp (fun s => .agg (encS s)) (fun s => (Lit.int .i64 s.1).wf = true ∧ (Lit.int .i64 s.2).wf = true) := readsV_agg Try.underlying31 readsSp
theorem readsList : ReadsV P0 22 (List Sp) (encL false) (fun l => l.length ≤ maxLen ∧ ∀ s ∈ l, (Lit.int .i64 s.1).wf = true ∧ (Lit.int .i64 s.2).wf = true) :=
  ReadsV.conv (readsV_one (t := 22) (fun u hu => by rw [show P0.underlying 22 = some (.slice 31) by kernel_rfl] at hu; cases hu; trivial) (reads_slice (k := 2) (by kernel_rfl) (by kernel_rfl) (by decide) readsSp)) (fun l => l) fun l h => ⟨⟨h.1, fun s hs => (h.2 s hs).1⟩, rfl⟩
theorem readsDay : ReadsV P0 3 Int num (fun x => (Lit.int .i64 x).wf = true) :=
  readsV_one (t := 3) (fun u hu => by rw [show P0.underlying 3 = some (.int .i64) by kernel_rfl] at hu; cases hu; trivial) (reads_int (by kernel_rfl))
theorem readsU16 : ReadsV P0 39 Int (fun x => .lit (.int .u16 x)) (fun x => 0 ≤ x ∧ x < 65536) :=
  ReadsV.conv (readsV_one (t := 39) (fun u hu => by rw [show P0.underlying 39 = some (.int .u16) by kernel_rfl] at hu; cases hu; trivial) (reads_int (k := .u16) (by kernel_rfl))) (fun x => x) fun x h => ⟨by
    simp only [Lit.wf, Bool.and_eq_true, decide_eq_true_eq] at h
    have e1 : IntKind.u16.min = 0 := by decide
    have e2 : IntKind.u16.max = 65535 := by decide
    rw [e1, e2] at h; omega, rfl⟩
end Go.Proofs.Ytmmgifhnbgehaaa
