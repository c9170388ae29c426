/-
  Network: how the laws' arguments read as plain data.
-/
import Derived.Test.YtgcoikbgpkfcnaaNwB
import Derived.Test.YtgcoikbgpkfcnaaLoY
import Derived.OpenShut
set_option linter.unusedSimpArgs false
set_option linter.unusedVariables false
namespace Go.Proofs.Ytgcoikbgpkfcnaa
open Go.Lo Go.RowKit

theorem ownK : ownKnob Try.prog.godebug = none := by kernel_rfl
theorem laidOut : laidOutB Try.prog = true := by kernel_rfl
/-- An array of integers. -/
theorem reads_arrI {P : Program} {t e : TypeId} {n : Nat} {k : IntKind} (ht : P.underlying t = some (.array n e)) (he : P.underlying e = some (.int k)) (h1 : P.cellsOf e = 1) (hs : P.cellsOf t = n) :
    Reads P t (List Int) (fun l => l.map fun x => .lit (.int k x)) (fun l => l.length = n ∧ ∀ x ∈ l, (Lit.int k x).wf = true) := fun en W sp hd fuel cs x h => by
  obtain ⟨xs, m, rfl, rfl, hl, hx, hf⟩ := DataW.trod_array ht h
  rw [hs] at hl
  obtain ⟨l, hll, hlp⟩ := choose_list (p := fun i a => (Lit.int k a).wf = true ∧ cs[i]? = some (.int k a)) n fun i hi => by
    have := hf i hi
    rw [h1, Nat.mul_one, List.getElem?_eq_getElem (by omega)] at this
    obtain ⟨a, e1, e2, hw⟩ := DataW.trod_int he this
    refine ⟨a, hw, ?_⟩
    have e3 : ((cs.drop i).take 1)[0]? = some (.int k a) := by rw [e1]; rfl
    rw [List.getElem?_take, if_pos (by omega), List.getElem?_drop, Nat.add_zero] at e3
    exact e3
  refine ⟨l, ⟨hll, fun a ha => ?_⟩, by simp [hll, hl], fun i hi => ?_⟩
  · obtain ⟨i, hi, rfl⟩ := List.getElem_of_mem ha
    exact (hlp i _ (List.getElem?_eq_getElem hi)).1
  · have hil : i < l.length := by omega
    have := (hlp i _ (List.getElem?_eq_getElem hil)).2
    simp only [List.getD, List.getElem?_map, List.getElem?_eq_getElem hil, this, Option.map_some, Option.getD_some]
    exact .lit _
theorem rInt : Reads P0 3 Int (fun x => [num x]) (fun x => (Lit.int .i64 x).wf = true) := reads_int (by kernel_rfl)
theorem rU8 : Reads P0 5 Int (fun x => [u8 x]) (fun x => (Lit.int .u8 x).wf = true) := reads_int (by kernel_rfl)
theorem rBytes : Reads P0 26 (List Int) (fun l => [encB false l]) (fun l => l.length ≤ maxLen ∧ ∀ x ∈ l, (Lit.int .u8 x).wf = true ∧ [u8 x].length = 1) := reads_slice (e := 5) (k := 1) (by kernel_rfl) (by kernel_rfl) (by decide) rU8
theorem rPk : Reads P0 28 Pk rowK okP := by
  have c26 : P0.cellsOf 26 = 1 := by kernel_rfl
  have c3 : P0.cellsOf 3 = 1 := by kernel_rfl
  intro H en W sp hd n cs x hx
  exact Reads.conv (enc' := rowK) (wf' := okP) (reads_struct (P := P0) (t := 28) (l := [(3, 0), (3, 1), (26, 2)]) (by kernel_rfl) (readsF_cons c3 rInt (readsF_cons c3 rInt (readsF_cons c26 rBytes readsF_nil)))) (fun x => Pk.mk x.1 x.2.1 x.2.2.1) (fun x h => ⟨h.2.2.1.1, rfl⟩) en W sp hd n cs x hx
theorem rLk : Reads P0 55 Lk rowL (fun _ => True) := Reads.conv (reads_arrI (n := 2) (e := 3) (k := .i64) (by kernel_rfl) (by kernel_rfl) (by kernel_rfl) (by kernel_rfl)) (fun l => (l.getD 0 0, l.getD 1 0)) fun l h => by
  obtain ⟨h, _⟩ := h
  match l, h with
  | [x, y], _ => exact ⟨trivial, rfl⟩
theorem rQ : Reads P0 22 (List Pk) (fun l => [encQ false l]) okQ := Reads.conv (reads_slice (e := 28) (k := 3) (by kernel_rfl) (by kernel_rfl) (by decide) rPk) (fun l => l) fun l h => ⟨⟨fun p hp => (h.2 p hp).1, h.1⟩, rfl⟩
theorem rA : Reads P0 23 (List Lk) (fun l => [encA false l]) (fun l => l.length ≤ maxLen) := Reads.conv (reads_slice (e := 55) (k := 2) (by kernel_rfl) (by kernel_rfl) (by decide) rLk) (fun l => l) fun l h => ⟨h.1, rfl⟩
theorem rNet : Reads P0 25 Nt netC okN := by
  have c22 : P0.cellsOf 22 = 1 := by kernel_rfl
  have c23 : P0.cellsOf 23 = 1 := by kernel_rfl
  intro H en W sp hd n cs x hx
  exact Reads.conv (enc' := netC) (wf' := okN) (reads_struct (P := P0) (t := 25) (l := [(22, 0), (23, 1)]) (by kernel_rfl) (readsF_cons c22 rQ (readsF_cons c23 rA readsF_nil))) (fun x => Nt.mk x.1 x.2.1) (fun x h => ⟨⟨h.1, h.2.1⟩, rfl⟩) en W sp hd n cs x hx
theorem readsInt : ReadsV P0 3 Int num (fun x => (Lit.int .i64 x).wf = true) :=
  readsV_one (t := 3) (fun u hu => by rw [show P0.underlying 3 = some (.int .i64) by kernel_rfl] at hu; cases hu; trivial) rInt
theorem readsBool : ReadsV P0 4 Bool bo (fun _ => True) :=
  readsV_one (t := 4) (fun u hu => by rw [show P0.underlying 4 = some .bool by kernel_rfl] at hu; cases hu; trivial) (reads_bool (by kernel_rfl))
theorem readsUint : ReadsV P0 42 Int (fun x => .lit (.int .u64 x)) (fun x => 0 ≤ x ∧ x < 18446744073709551616) :=
  ReadsV.conv (readsV_one (t := 42) (fun u hu => by rw [show P0.underlying 42 = some (.int .u64) by kernel_rfl] at hu; cases hu; trivial) (reads_int (k := .u64) (by kernel_rfl))) (fun x => x) fun x h => ⟨by
    simp only [Lit.wf, Bool.and_eq_true, decide_eq_true_eq] at h
    have e1 : IntKind.u64.min = 0 := by decide
    have e2 : IntKind.u64.max = 18446744073709551615 := by decide
    rw [e1, e2] at h; omega, rfl⟩
theorem readsBytes : ReadsV P0 26 (List Int) (encB false) (fun l => l.length ≤ maxLen ∧ ∀ x ∈ l, 0 ≤ x ∧ x < 256) :=
  ReadsV.conv (readsV_one (t := 26) (fun u hu => by rw [show P0.underlying 26 = some (.slice 5) by kernel_rfl] at hu; cases hu; trivial) rBytes) (fun l => l) fun l h => ⟨⟨h.1, fun x hx => by
    have h := (h.2 x hx).1
    simp only [Lit.wf, Bool.and_eq_true, decide_eq_true_eq] at h
    have e1 : IntKind.u8.min = 0 := by decide
    have e2 : IntKind.u8.max = 255 := by decide
    rw [e1, e2] at h; omega⟩, rfl⟩
theorem readsPks : ReadsV P0 22 (List Pk) (encQ false) okQ :=
  readsV_one (t := 22) (fun u hu => by rw [show P0.underlying 22 = some (.slice 28) by kernel_rfl] at hu; cases hu; trivial) rQ
theorem readsPk : ReadsV P0 28 Pk (fun p => .agg (rowK p)) okP := by
  obtain ⟨fs, hu, _, _⟩ := structIs_get (P := P0) (t := 28) (l := [(3, 0), (3, 1), (26, 2)]) (by kernel_rfl)
  exact readsV_agg hu rPk
theorem readsNet : ReadsV P0 25 Nt (fun n => .agg (netC n)) okN := by
  obtain ⟨fs, hu, _, _⟩ := structIs_get (P := P0) (t := 25) (l := [(22, 0), (23, 1)]) (by kernel_rfl)
  exact readsV_agg hu rNet
end Go.Proofs.Ytgcoikbgpkfcnaa
