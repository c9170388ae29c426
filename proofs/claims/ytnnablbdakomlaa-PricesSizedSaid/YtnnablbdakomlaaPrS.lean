/-
  Prices: how the laws' arguments read as plain data.
-/
import Derived.Test.YtnnablbdakomlaaPrC
import Derived.Test.YtnnablbdakomlaaLoY
set_option linter.unusedSimpArgs false
set_option linter.unusedVariables false
namespace Go.Proofs.Ytnnablbdakomlaa
open Go.Lo Go.RowKit

theorem ownK : ownKnob Try.prog.godebug = none := by kernel_rfl
theorem laidOut : laidOutB Try.prog = true := by kernel_rfl
theorem readsInt : ReadsV P0 3 Int num (fun x => (Lit.int .i64 x).wf = true) :=
  readsV_one (t := 3) (fun u hu => by rw [show P0.underlying 3 = some (.int .i64) by kernel_rfl] at hu; cases hu; trivial) (reads_int (by kernel_rfl))
theorem readsInts : ReadsV P0 22 (List Int) (encI false) (fun l => l.length ≤ maxLen ∧ ∀ x ∈ l, (Lit.int .i64 x).wf = true) :=
  ReadsV.conv (readsV_one (t := 22) (fun u hu => by rw [show P0.underlying 22 = some (.slice 3) by kernel_rfl] at hu; cases hu; trivial) (reads_slice (e := 3) (k := 1) (by kernel_rfl) (by kernel_rfl) (by decide) (reads_int (k := .i64) (by kernel_rfl)))) (fun l => l) fun l h => ⟨⟨h.1, fun s hs => (h.2 s hs).1⟩, rfl⟩
theorem readsU16 : ReadsV P0 40 Int (fun x => .lit (.int .u16 x)) (fun x => 0 ≤ x ∧ x < 65536) :=
  ReadsV.conv (readsV_one (t := 40) (fun u hu => by rw [show P0.underlying 40 = some (.int .u16) by kernel_rfl] at hu; cases hu; trivial) (reads_int (k := .u16) (by kernel_rfl))) (fun x => x) fun x h => ⟨by
    simp only [Lit.wf, Bool.and_eq_true, decide_eq_true_eq] at h
    have e1 : IntKind.u16.min = 0 := by decide
    have e2 : IntKind.u16.max = 65535 := by decide
    rw [e1, e2] at h; omega, rfl⟩
theorem readsU8 : ReadsV P0 5 Int (fun x => .lit (.int .u8 x)) (fun x => 0 ≤ x ∧ x < 256) :=
  ReadsV.conv (readsV_one (t := 5) (fun u hu => by rw [show P0.underlying 5 = some (.int .u8) by kernel_rfl] at hu; cases hu; trivial) (reads_int (k := .u8) (by kernel_rfl))) (fun x => x) fun x h => ⟨by
    simp only [Lit.wf, Bool.and_eq_true, decide_eq_true_eq] at h
    have e1 : IntKind.u8.min = 0 := by decide
    have e2 : IntKind.u8.max = 255 := by decide
    rw [e1, e2] at h; omega, rfl⟩
theorem readsUint : ReadsV P0 42 Int (fun x => .lit (.int .u64 x)) (fun x => 0 ≤ x ∧ x < 18446744073709551616) :=
  ReadsV.conv (readsV_one (t := 42) (fun u hu => by rw [show P0.underlying 42 = some (.int .u64) by kernel_rfl] at hu; cases hu; trivial) (reads_int (k := .u64) (by kernel_rfl))) (fun x => x) fun x h => ⟨by
    simp only [Lit.wf, Bool.and_eq_true, decide_eq_true_eq] at h
    have e1 : IntKind.u64.min = 0 := by decide
    have e2 : IntKind.u64.max = 18446744073709551615 := by decide
    rw [e1, e2] at h; omega, rfl⟩
theorem rInt : Reads P0 3 Int (fun x => [num x]) (fun x => (Lit.int .i64 x).wf = true) := reads_int (by kernel_rfl)
theorem rInts : Reads P0 22 (List Int) (fun l => [encI false l]) (fun l => l.length ≤ maxLen ∧ ∀ x ∈ l, (Lit.int .i64 x).wf = true ∧ [num x].length = 1) := reads_slice (e := 3) (k := 1) (by kernel_rfl) (by kernel_rfl) (by decide) rInt
/-- Lots, a cost, prices. -/
abbrev SizingT := List Int × Int × List Int
theorem readsSizing : ReadsV P0 32 SizingT (fun x => .agg [encI false x.1, num x.2.1, encI false x.2.2]) (fun x => x.1.length ≤ maxLen ∧ x.2.2.length ≤ maxLen) := by
  have c22 : P0.cellsOf 22 = 1 := by kernel_rfl
  have c3 : P0.cellsOf 3 = 1 := by kernel_rfl
  intro H en W sp hd b v d ps h1 h2
  obtain ⟨x, h, hv⟩ := readsV_struct (P := P0) (t := 32) (l := [(22, 0), (3, 1), (22, 2)]) (by kernel_rfl) (readsF_cons c22 rInts (readsF_cons c3 rInt (readsF_cons c22 rInts readsF_nil))) en W sp hd b v d ps h1 h2
  exact ⟨(x.1, x.2.1, x.2.2.1), ⟨h.1.1, h.2.2.1.1⟩, hv⟩
end Go.Proofs.Ytnnablbdakomlaa
