/-
  Sizing: how the laws' arguments read as plain data.
-/
import Derived.Test.YtccjejfdhhnhjaaSzC
set_option linter.unusedSimpArgs false
set_option linter.unusedVariables false
namespace Go.Proofs.Ytccjejfdhhnhjaa
open Go.Lo Go.RowKit

theorem ownK : ownKnob Try.prog.godebug = none := by kernel_rfl
theorem laidOut : laidOutB Try.prog = true := by kernel_rfl
theorem readsInt : ReadsV P0 3 Int num (fun x => (Lit.int .i64 x).wf = true) :=
  readsV_one (t := 3) (fun u hu => by rw [show P0.underlying 3 = some (.int .i64) by kernel_rfl] at hu; cases hu; trivial) (reads_int (by kernel_rfl))
theorem readsInts : ReadsV P0 22 (List Int) (encI false) (fun l => l.length ≤ maxLen ∧ ∀ x ∈ l, (Lit.int .i64 x).wf = true) :=
  ReadsV.conv (readsV_one (t := 22) (fun u hu => by rw [show P0.underlying 22 = some (.slice 3) by kernel_rfl] at hu; cases hu; trivial) (reads_slice (e := 3) (k := 1) (by kernel_rfl) (by kernel_rfl) (by decide) (reads_int (k := .i64) (by kernel_rfl)))) (fun l => l) fun l h => ⟨⟨h.1, fun s hs => (h.2 s hs).1⟩, rfl⟩
theorem readsU16 : ReadsV P0 37 Int (fun x => .lit (.int .u16 x)) (fun x => 0 ≤ x ∧ x < 65536) :=
  ReadsV.conv (readsV_one (t := 37) (fun u hu => by rw [show P0.underlying 37 = some (.int .u16) by kernel_rfl] at hu; cases hu; trivial) (reads_int (k := .u16) (by kernel_rfl))) (fun x => x) fun x h => ⟨by
    simp only [Lit.wf, Bool.and_eq_true, decide_eq_true_eq] at h
    have e1 : IntKind.u16.min = 0 := by decide
    have e2 : IntKind.u16.max = 65535 := by decide
    rw [e1, e2] at h; omega, rfl⟩
theorem readsU8 : ReadsV P0 5 Int (fun x => .lit (.int .u8 x)) (fun x => 0 ≤ x ∧ x < 256) :=
  ReadsV.conv (readsV_one (t := 5) (fun u hu => by rw [show P0.underlying 5 = some (.int .u8) by kernel_rfl] at hu; cases hu; trivial) (reads_int (k := .u8) (by kernel_rfl))) (fun x => x) fun x h => ⟨by
    simp only [Lit.wf, Bool.and_eq_true, decide_eq_true_eq] at h
    have e1 : IntKind.u8.min = 0 := by decide
    have e2 : IntKind.u8.max = 255 := by decide
    rw [e1, e2] at h; omega, rfl⟩
end Go.Proofs.Ytccjejfdhhnhjaa
