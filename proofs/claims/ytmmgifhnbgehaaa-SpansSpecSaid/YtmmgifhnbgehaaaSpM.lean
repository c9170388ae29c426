/-
  Spans: the given statements.
-/
import Derived.Test.YtmmgifhnbgehaaaSpL
set_option linter.unusedSimpArgs false
set_option linter.unusedVariables false
namespace Go.Proofs.Ytmmgifhnbgehaaa
open Go.Lo Go.ChangeShapes Go.WideShapes Go.ChangeAt Go.RowKit

theorem own : ownKnob Try.prog.godebug = none := by kernel_rfl
theorem laidOut : laidOutB Try.prog = true := by kernel_rfl

theorem readsSp : Reads P0 31 Sp encS (fun s => (Lit.int .i64 s.1).wf = true ∧ (Lit.int .i64 s.2).wf = true) :=
  Reads.conv (reads_struct2 (t := 31) (k := 1) (m := 1) Try.underlying31 (by kernel_rfl) (by kernel_rfl) (by kernel_rfl) (by kernel_rfl) (by kernel_rfl) (reads_int (k := .i64) (by kernel_rfl)) (reads_int (k := .i64) (by kernel_rfl))) (fun x => x) fun x h => ⟨h, rfl⟩
theorem readsL : ReadsV P0 22 (List Sp) (encL false) (fun l => l.length ≤ maxLen ∧ ∀ s ∈ l, (Lit.int .i64 s.1).wf = true ∧ (Lit.int .i64 s.2).wf = true) :=
  ReadsV.conv (readsV_one (t := 22) (fun u hu => by rw [show P0.underlying 22 = some (.slice 31) by kernel_rfl] at hu; cases hu; trivial) (reads_slice (k := 2) (by kernel_rfl) (by kernel_rfl) (by decide) readsSp)) (fun l => l) fun l h => ⟨⟨h.1, fun s hs => (h.2 s hs).1⟩, rfl⟩

set_option maxRecDepth 100000 in
theorem spansSpec_lifted (os : Os) (started : os.Started) (H : Type) (enc : TypeId × Value → H) :
    ReturnsInHanded {} Try.checked os 3 .any (Rows.spansSpecSpec.pre6 enc Try.prog Try.f3 Rows.spansSpecRow.domain false) (Rows.spansSpecSpec.post enc Try.prog Try.f3 false true false false) := by
  refine returnsInHanded_of_change (C := Try.checked) own started (by kernel_rfl) Try.func3
    (ChangeSpec.witness6 (enc := enc) (C := Try.checked) false ⟨#[], #[.slice none 0 0], []⟩ 8 (by kernel_rfl) (by kernel_rfl) (by kernel_rfl) (by kernel_rfl)) ?_
  intro W base args ds gs before hval0 hW hcnd _
  have hval : ∀ (j : Nat) t v, Try.f3.params[j]? = some t → args[j]? = some v → Value.okWide Try.prog W .any base t v := hval0
  have hW' := hW
  obtain ⟨p, q, hA0, hV, rfl, hfz, hnd⟩ := hW
  have hA : DataW.TrodAll enc Try.prog W 0 (fun _ => true) true Try.f3.params.toList args.toList ds p := hA0
  rw [Try.params3] at hA hval
  obtain ⟨v0, d0, rfl, rfl, h0⟩ := trodAll_one hA
  obtain ⟨l0, w0, r0⟩ := readsL enc W _ _ base v0 d0 _ (hval 0 22 v0 rfl rfl) h0
  refine (law_calls (spansSpec_law false l0 w0.1) (args := #[v0]) ⟨rfl, fun i hi => by
    have : i = 0 := by simpa using hi
    subst this; exact r0⟩).mono fun e W' ⟨he, hb⟩ => ?_
  exact ⟨_, he, law_post (tb := 4) laidOut rfl (by
    rw [Try.params3]; intro t ht; simp at ht; subst ht; exact ⟨by kernel_rfl, of_decide_eq_true (by kernel_rfl)⟩) (by kernel_rfl) (by kernel_rfl) ⟨rfl, rfl, rfl⟩ hW' hb⟩

theorem spansSpec_holds : Rows.SpansSpecSaid :=
  OpenClaim.holds_of_wide 3 Try.f3 rfl rfl rfl rfl rfl rfl rfl ⟨rfl, rfl, rfl, rfl, rfl⟩ rfl rfl rfl rfl rfl (by kernel_rfl) Try.func3 (by kernel_rfl)
    (of_decide_eq_true (by kernel_rfl)) (by unfold Func.isWrapper; first | (rw [if_pos (by decide +kernel)]; kernel_rfl) | (rw [if_neg (by decide +kernel)]; exact ⟨rfl, rfl⟩))
    (fun os started H enc _ => spansSpec_lifted os started H enc)
#print axioms spansSpec_holds
end Go.Proofs.Ytmmgifhnbgehaaa
