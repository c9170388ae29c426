/-
  The program logic 'Lo', part Y: structs of any number of fields, read as plain data. Nothing of the program.
-/
import Derived.Test.YtgcoikbgpkfcnaaLoX
set_option linter.unusedSimpArgs false
set_option linter.unusedVariables false
namespace Go.Lo
open Go

section
variable {P : Program}
def sizeF (P : Program) : List (TypeId × Nat) → Nat
  | [] => 0
  | f :: fs => P.cellsOf f.1 + sizeF P fs
/-- A struct with fields of these types at these places. -/
def structIs (P : Program) (t : TypeId) (l : List (TypeId × Nat)) : Bool := match P.underlying t with
  | some (.struct fs) => (fs.toList.map fun f => (f.type, f.offset)) == l && P.cellsOf t == sizeF P l
  | _ => false
theorem structIs_get {t : TypeId} {l : List (TypeId × Nat)} (h : structIs P t l = true) : ∃ fs, P.underlying t = some (.struct fs) ∧ (fs.toList.map fun f => (f.type, f.offset)) = l ∧ P.cellsOf t = sizeF P l := by
  unfold structIs at h
  split at h
  · rename_i fs hu
    rw [Bool.and_eq_true] at h
    exact ⟨fs, hu, by simpa using h.1, by simpa using h.2⟩
  · cases h
/-- Fields that lie one behind the other, from 'off' on. -/
def ReadsF (P : Program) (fs : List (TypeId × Nat)) (off : Nat) (α : Type) (enc : α → List PV) (wf : α → Prop) : Prop :=
  ∀ {H : Type} (en : TypeId × Value → H) (W : World) (sp : Nat → Bool) (hd : Bool) (n : Nat) (cs : List Value), off + sizeF P fs ≤ cs.length →
    (∀ (i : Nat) (f : TypeId × Nat), fs[i]? = some f → ∃ x : DataW H × List MemPlace, DataW.trod en P W 0 sp hd n f.1 ((cs.drop f.2).take (P.cellsOf f.1)) = some x) → ∃ a, wf a ∧ CRel (G0 W) W (enc a) ((cs.drop off).take (sizeF P fs))
theorem readsF_nil {off : Nat} : ReadsF P [] off Unit (fun _ => []) (fun _ => True) := fun en W sp hd n cs h _ => ⟨(), trivial, by simp [sizeF], fun i hi => by simp [sizeF] at hi⟩
theorem CRel.append {G : Gh} {W : World} {ps qs : List PV} {vs ws : List Value} (h : CRel G W ps vs) (k : CRel G W qs ws) : CRel G W (ps ++ qs) (vs ++ ws) := by
  refine ⟨by rw [List.length_append, List.length_append, h.1, k.1], fun i hi => ?_⟩
  rw [List.length_append] at hi
  rcases Nat.lt_or_ge i vs.length with h1 | h1
  · have := h.2 i h1
    simp only [List.getD] at this ⊢
    rw [List.getElem?_append_left (by rw [h.1]; exact h1), List.getElem?_append_left h1]; exact this
  · have := k.2 (i - vs.length) (by omega)
    simp only [List.getD] at this ⊢
    rw [List.getElem?_append_right (by rw [h.1]; exact h1), List.getElem?_append_right h1, h.1]; exact this
theorem readsF_cons {t : TypeId} {fs : List (TypeId × Nat)} {off k : Nat} {α β : Type} {ea : α → List PV} {wa : α → Prop} {eb : β → List PV} {wb : β → Prop} (hk : P.cellsOf t = k) (ra : Reads P t α ea wa) (rb : ReadsF P fs (off + k) β eb wb) :
    ReadsF P ((t, off) :: fs) off (α × β) (fun x => ea x.1 ++ eb x.2) (fun x => wa x.1 ∧ wb x.2) := fun en W sp hd n cs hl h => by
  simp only [sizeF] at hl
  obtain ⟨x, hx⟩ := h 0 (t, off) rfl
  obtain ⟨a, a1, a2⟩ := ra en W sp hd n _ _ hx
  obtain ⟨b, b1, b2⟩ := rb en W sp hd n cs (by omega) (fun i g hg => h (i + 1) g hg)
  refine ⟨(a, b), ⟨a1, b1⟩, ?_⟩
  have e : (cs.drop off).take (sizeF P ((t, off) :: fs)) = (cs.drop off).take (P.cellsOf t) ++ (cs.drop (off + k)).take (sizeF P fs) := by
    simp only [sizeF]
    rw [List.take_add, List.drop_drop, hk]
  rw [e]
  exact a2.append b2
theorem reads_struct {t : TypeId} {l : List (TypeId × Nat)} {α : Type} {enc : α → List PV} {wf : α → Prop} (ht : structIs P t l = true) (h : ReadsF P l 0 α enc wf) : Reads P t α enc wf := fun en W sp hd fuel cs x hx => by
  obtain ⟨fs, hu, hl, hs⟩ := structIs_get ht
  obtain ⟨xs, n, rfl, rfl, hcl, hxs, hf⟩ := DataW.trod_struct hu hx
  obtain ⟨a, a1, a2⟩ := h en W sp hd n cs (by omega) (fun i f hi => by
    rw [← hl, List.getElem?_map, Option.map_eq_some_iff] at hi
    obtain ⟨g, hg, rfl⟩ := hi
    have := hf i g (by simpa using hg)
    have hix : i < xs.length := by
      rw [hxs]
      rcases Nat.lt_or_ge i fs.toList.length with q | q
      · simpa using q
      · rw [List.getElem?_eq_none q] at hg; cases hg
    rw [List.getElem?_eq_getElem hix] at this
    exact ⟨_, this⟩)
  refine ⟨a, a1, ?_⟩
  rw [List.drop_zero, List.take_of_length_le (by omega)] at a2
  exact a2
theorem readsV_struct {t : TypeId} {l : List (TypeId × Nat)} {α : Type} {enc : α → List PV} {wf : α → Prop} (ht : structIs P t l = true) (h : ReadsF P l 0 α enc wf) : ReadsV P t α (fun a => .agg (enc a)) wf := by
  obtain ⟨fs, hu, _, _⟩ := structIs_get ht
  exact readsV_agg hu (reads_struct ht h)
end
end Go.Lo
