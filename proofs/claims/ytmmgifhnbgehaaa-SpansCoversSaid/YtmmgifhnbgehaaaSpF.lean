/-
  Spans: what the functions compute, part F: Normal, Has, Covers.
-/
import Derived.Test.YtmmgifhnbgehaaaSpE
set_option linter.unusedSimpArgs false
set_option linter.unusedVariables false
namespace Go.Proofs.Ytmmgifhnbgehaaa
open Go.Lo

def normS (a : List Sp) : List Sp := combS 0 a []
theorem normal_ok (x : Bool) (a : List Sp) (ha : a.length ≤ maxLen) : PFun P0 15 [encL x a] (encL false (normS a)) := by
  refine pcalls_body Try.func15 rfl rfl rfl (by show 1 ≤ _; decide) (pwp_run (T := Tab.nil.add 17 fun args _ => ⟨args = [encL x a, .lit (.slice none 0 0)], encL false (normS a)⟩) (Tab.add_fun n_ok Try.call17 fun args h => by
    subst h; exact pcalls.args (union_ok x false a [] ha (by simp)) (.cons (.refl _) (.cons (.nil _) .nil))) ?_)
  simp

def inS (d : Int) (s : Sp) : Bool := decide (s.1 ≤ d) && decide (d < s.2)
theorem has1_ok (d : Int) (s : Sp) (id : Nat) (σ : Heap) (h : σ id = some (.cells [num d])) : pcalls P0 36 [.agg (encS s), .ptr id 0] σ fun o σ' => o = .val (bo (inS d s)) ∧ σ' = σ := by
  refine pcalls.less (pcalls_body Try.func36 rfl rfl rfl (by show 2 ≤ _; decide) (pwp_run n_ok ?_))
  simp [encS, h]
  intro id2 hid2
  have hne : id ≠ id2 := by rintro rfl; rw [h] at hid2; cases hid2
  simp [encS, h, hne]
  refine ⟨fun j x hx => ?_, rfl⟩
  have : j ≠ id2 := by rintro rfl; rw [hx] at hid2; cases hid2
  rw [if_neg this]; exact hx
theorem has_ok (x : Bool) (a : List Sp) (ha : a.length ≤ maxLen) (d : Int) : PFun P0 23 [encL x a, num d] (bo (hasS a d)) := by
  obtain ⟨c, hc⟩ : ∃ c, c = a.any (inS d) := ⟨_, rfl⟩
  have hh : hasS a d = (decide (0 ≤ d) && decide (d < 1024) && c) := by rw [hc]; rfl
  rw [hh]
  refine pcalls_body Try.func23 rfl rfl rfl (by show 2 ≤ _; decide) (pwp_run (T := Tab.nil.add 28 fun args σ => ⟨∃ id, args = [encL x a, .fn (.func 36) [] [.ptr id 0]] ∧ σ id = some (.cells [num d]), bo c⟩) (Tab.add_ok n_ok Try.call28 fun args σ h => by
    obtain ⟨id, rfl, hs⟩ := h
    rw [hc]
    exact contains_ok (first := []) Try.call36 x a ha fun s _ => has1_ok d s id σ hs) ?_)
  simp

def covS (a : List Sp) (s : Sp) : Bool := decide (s.2 ≤ s.1) || (decide (0 ≤ s.1) && decide (s.2 ≤ 1024) && decide ((combS 2 [s] a).length = 0))
theorem covers_ok (x : Bool) (a : List Sp) (ha : a.length ≤ maxLen) (s : Sp) : PFun P0 25 [encL x a, .agg (encS s)] (bo (covS a s)) := by
  obtain ⟨m, hm⟩ : ∃ m, m = combS 2 [s] a := ⟨_, rfl⟩
  have hml : m.length ≤ 1024 := by rw [hm]; exact runsF_length _
  unfold covS
  rw [← hm]
  refine pcalls_body Try.func25 rfl rfl rfl (by show 2 ≤ _; decide) (pwp_run (T := Tab.nil.add 21 fun args _ => ⟨args = [.slice true [encS s], encL x a], encL false m⟩) (Tab.add_fun n_ok Try.call21 fun args h => by
    subst h; rw [hm]; exact minusS_ok true x [s] a (by simp [maxLen]) ha) ?_)
  simp [encS]
  refine ⟨fun h => .inl h, fun h => ?_⟩
  rw [decide_eq_false (show ¬ s.2 ≤ s.1 by omega)]
  cases m with
  | nil => simp
  | cons c m => simp; omega

/-! ### The reference's rows of bools -/
def rowsP (g : Nat → Bool) : List (List PV) := (List.range 1024).map fun i => [bo (g i)]
@[simp] theorem rowsP_length (g : Nat → Bool) : (rowsP g).length = 1024 := by simp [rowsP]
@[simp] theorem rowsP_getD (g : Nat → Bool) (i : Nat) : (rowsP g)[i]?.getD [] = if i < 1024 then [bo (g i)] else [] := by
  split
  · rename_i h; simp [rowsP, h]
  · rename_i h; rw [List.getElem?_eq_none (by simpa using h)]; rfl
@[simp] theorem rowsP_getElem (g : Nat → Bool) {i : Nat} (h : i < (rowsP g).length) : (rowsP g)[i] = [bo (g i)] := by simp [rowsP]
theorem rowsP_congr {f g : Nat → Bool} (h : ∀ i, i < 1024 → f i = g i) : rowsP f = rowsP g := by
  unfold rowsP
  exact List.map_congr_left fun i hi => by rw [h i (List.mem_range.1 hi)]
theorem flat_single (f : Nat → PV) (l : List Nat) : (l.map fun i => [f i]).flatten = l.map f := by
  induction l with
  | nil => rfl
  | cons i l ih => simp [ih]
@[simp] theorem chunks_bits (g : Nat → Bool) : chunks 1 1024 (bitsP g) = rowsP g := by
  have h1 : bitsP g = (rowsP g).flatten := by unfold bitsP rowsP; rw [flat_single]
  rw [h1]
  have := Go.Lo.chunks_flatten (k := 1) (rowsP g) (fun r hr => by unfold rowsP at hr; obtain ⟨i, _, rfl⟩ := List.mem_map.1 hr; rfl)
  rwa [rowsP_length] at this
theorem map_frz0 (σ : Heap) (l : List PV) : l.map (frzN 0 σ) = l := by
  rw [show frzN 0 σ = fun v => v from rfl]; simp
theorem daysR_ok (b : Bool) (l : List Sp) (hl : l.length ≤ maxLen) : PFun P0 31 [encL b l] (.slice false (rowsP (daysF l))) := by
  refine pcalls.weak (pcalls_frz ((days_ok b l hl).mono ?_))
  rintro o σ' ⟨id, full, rfl, hs⟩
  refine ⟨1, Heap.one id (.cells (bitsP (daysF l))), .one hs, rowsP (daysF l), full, rfl, ?_⟩
  simp [frzO, frzN, Heap.one_apply, map_frz0]
end Go.Proofs.Ytmmgifhnbgehaaa
