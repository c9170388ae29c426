/-
  Spans: what the functions compute, part A: the small ones.
-/
import Derived.Test.YtmmgifhnbgehaaaLoP
import Derived.Test.YtmmgifhnbgehaaaRows
set_option linter.unusedSimpArgs false
set_option linter.unusedVariables false
namespace Go.Proofs.Ytmmgifhnbgehaaa
open Go.Lo

@[simp] theorem ixi22 : ixi Try.prog 22 = some (none, 2, true) := by kernel_rfl
@[simp] theorem ixi36 : ixi Try.prog 36 = some (none, 1, false) := by kernel_rfl
@[simp] theorem ixi45 : ixi Try.prog 45 = some (none, 1, false) := by kernel_rfl
@[simp] theorem ixi53 : ixi Try.prog 53 = some (some 1024, 1, false) := by kernel_rfl
@[simp] theorem inf3 : inf Try.prog 3 = some (1, false) := by kernel_rfl
@[simp] theorem inf4 : inf Try.prog 4 = some (1, false) := by kernel_rfl
@[simp] theorem inf31 : inf Try.prog 31 = some (2, true) := by kernel_rfl
@[simp] theorem fld310 : fldT Try.prog 31 0 = some (0, 1, false) := by kernel_rfl
@[simp] theorem fld311 : fldT Try.prog 31 1 = some (1, 1, false) := by kernel_rfl
@[simp] theorem eqS31 : eqS Try.prog 31 = some [(0, .int .i64), (1, .int .i64)] := by kernel_rfl
@[simp] theorem elem22 : elemB Try.prog 22 = some (16, [.lit (.int .i64 0), .lit (.int .i64 0)]) := by kernel_rfl
@[simp] theorem isl22 : isSliceT Try.prog 22 = true := by kernel_rfl
@[simp] theorem zero31 : zeroP Try.prog 31 = some [.lit (.int .i64 0), .lit (.int .i64 0)] := by kernel_rfl
theorem mixed : Try.prog.follows .mixedOrders = true := by kernel_rfl

abbrev Sp := Int × Int
def encS (s : Sp) : List PV := [.lit (.int .i64 s.1), .lit (.int .i64 s.2)]
abbrev encL (b : Bool) (l : List Sp) : PV := .slice b (l.map encS)
abbrev bo (b : Bool) : PV := .lit (.bool b)
abbrev num (x : Int) : PV := .lit (.int .i64 x)
noncomputable abbrev P0 : Program := Try.prog
theorem n_ok : Tab.nil.ok P0 := Tab.nil_ok _

/-! ### What they compute -/
def fewS (l : List Sp) : Bool := decide (l.length ≤ 40)
def badS (s : Sp) : Bool := decide (s.1 < 0) || decide (s.2 ≤ s.1) || decide (1024 < s.2)
def checkS (l : List Sp) : Int := if l.any badS then 30 else 0
def sameS (a b : List Sp) : Bool := decide (a = b)
def hasS (l : List Sp) (day : Int) : Bool := decide (0 ≤ day) && decide (day < 1024) && l.any fun s => decide (s.1 ≤ day) && decide (day < s.2)

theorem few_ok (b : Bool) (l : List Sp) : PFun P0 11 [encL b l] (bo (fewS l)) := by
  refine pcalls_body Try.func11 rfl rfl rfl (by show 1 ≤ _; decide) (pwp_run n_ok ?_)
  simp [ev, Fr.init, fewS]
  omega

def upTo {α : Type} (p : α → Bool) (l : List α) (k : Nat) : Bool := (l.take k).any p
theorem upTo_zero {α : Type} (p : α → Bool) (l : List α) : upTo p l 0 = false := by simp [upTo]
theorem upTo_succ {α : Type} {p : α → Bool} {l : List α} {k : Nat} (h : k < l.length) : upTo p l (k + 1) = (upTo p l k || p l[k]) := by
  unfold upTo
  rw [List.take_succ_eq_append_getElem h, List.any_append]; simp
theorem upTo_all {α : Type} {p : α → Bool} {l : List α} {k : Nat} (h : ¬ k < l.length) : upTo p l k = l.any p := by
  unfold upTo
  rw [List.take_of_length_le (by omega)]
theorem any_at {α : Type} {p : α → Bool} {l : List α} {k : Nat} (h : k < l.length) (hp : p l[k] = true) : l.any p = true :=
  List.any_eq_true.2 ⟨_, List.getElem_mem h, hp⟩

theorem refCheck_ok (b : Bool) (l : List Sp) (hl : l.length ≤ maxLen) : PFun P0 13 [encL b l] (num (checkS l)) := by
  refine pcalls_body Try.func13 rfl rfl rfl (by show 1 ≤ _; decide) (pwp_run n_ok ?_)
  simp [ev, Fr.init]
  refine pwp_loop (fun N fr σ => ∃ k : Nat, N = l.length - k ∧ k ≤ l.length ∧ fr 0 = encL b l ∧ fr 3 = num k ∧ upTo badS l k = false)
    (N := l.length) ⟨0, by simp [Fr.init, upTo_zero]⟩ ?_
  rintro N fr σ ⟨k, rfl, hk, e0, e3, hi⟩
  refine pwp_run n_ok ?_
  unfold maxLen at hl
  by_cases hlt : k < l.length
  · simp [ev, e0, e3, hlt]
    refine pwp_draw (k := 27) n_ok mixed (by kernel_rfl) ?_
    simp [ev, e0, e3, encS, hlt]
    refine ⟨fun hbad => ?_, fun h1 h2 h3 => ⟨l.length - (k + 1), by omega, k + 1, rfl, by omega, by rw [wrap_i64 (by omega) (by omega)]; omega, ?_⟩⟩
    · have : badS l[k] = true := by simp only [badS, Bool.or_eq_true, decide_eq_true_eq]; exact hbad
      simp [checkS, any_at hlt this]
    · rw [upTo_succ hlt, hi]
      simp [badS]; omega
  · simp [ev, e0, e3, hlt]
    rw [upTo_all hlt] at hi
    simp [checkS, hi]

theorem refHas_ok (b : Bool) (l : List Sp) (hl : l.length ≤ maxLen) (day : Int) : PFun P0 24 [encL b l, num day] (bo (hasS l day)) := by
  refine pcalls_body Try.func24 rfl rfl rfl (by show 2 ≤ _; decide) (pwp_run n_ok ?_)
  simp [ev, Fr.init]
  refine ⟨fun h => by simp [hasS]; omega, fun h0 h1 => ?_⟩
  refine pwp_loop (fun N fr σ => ∃ k : Nat, N = l.length - k ∧ k ≤ l.length ∧ fr 0 = encL b l ∧ fr 1 = num day ∧ fr 5 = num k ∧ upTo (fun s => decide (s.1 ≤ day) && decide (day < s.2)) l k = false)
    (N := l.length) ⟨0, by simp [Fr.init, upTo_zero]⟩ ?_
  rintro N fr σ ⟨k, rfl, hk, e0, e1, e5, hi⟩
  refine pwp_run n_ok ?_
  unfold maxLen at hl
  by_cases hlt : k < l.length
  · simp [ev, e0, e1, e5, hlt, encS]
    refine ⟨fun h2 h3 => ?_, fun h2 => ⟨l.length - (k + 1), by omega, k + 1, rfl, by omega, by rw [wrap_i64 (by omega) (by omega)]; omega, ?_⟩⟩
    · have : l.any (fun s => decide (s.1 ≤ day) && decide (day < s.2)) = true := any_at hlt (by simp [h2, h3])
      simp only [hasS, this]; simp [h0, h1]
    · rw [upTo_succ hlt, hi]
      simp; omega
  · simp [ev, e0, e1, e5, hlt]
    rw [upTo_all hlt] at hi
    simp [hasS, hi]

theorem refSame_ok (b c : Bool) (l m : List Sp) (hl : l.length ≤ maxLen) (hm : m.length ≤ maxLen) : PFun P0 14 [encL b l, encL c m] (bo (sameS l m)) := by
  refine pcalls_body Try.func14 rfl rfl rfl (by show 2 ≤ _; decide) (pwp_run n_ok ?_)
  simp [ev, Fr.init]
  refine ⟨fun h => ?_, fun h => ?_⟩
  · simp [sameS]; intro e; subst e; omega
  · have h : l.length = m.length := by omega
    refine pwp_loop (fun N fr σ => ∃ k : Nat, N = l.length - k ∧ k ≤ l.length ∧ fr 0 = encL b l ∧ fr 1 = encL c m ∧ fr 5 = num k ∧ l.take k = m.take k)
      (N := l.length) ⟨0, by simp [Fr.init]⟩ ?_
    rintro N fr σ ⟨k, rfl, hk, e0, e1, e5, hi⟩
    refine pwp_run n_ok ?_
    unfold maxLen at hl
    by_cases hlt : k < l.length
    · have hlt' : k < m.length := by omega
      simp [ev, e0, e1, e5, hlt, hlt', encS]
      refine pwp_draw (k := 9) n_ok mixed (by kernel_rfl) ?_
      simp [ev, e0, e1, e5, hlt, hlt', encS]
      refine ⟨fun hne => ?_, fun h1 h2 => ⟨l.length - (k + 1), by omega, k + 1, rfl, by omega, by rw [wrap_i64 (by omega) (by omega)]; omega, ?_⟩⟩
      · simp only [sameS, decide_eq_false_iff_not]
        intro e; subst e
        rcases hne with q | q <;> exact q rfl
      · rw [List.take_succ_eq_append_getElem hlt, List.take_succ_eq_append_getElem hlt', hi]
        congr 2
        exact Prod.ext h1 h2
    · simp [ev, e0, e1, e5, hlt]
      rw [List.take_of_length_le (by omega), List.take_of_length_le (by omega)] at hi
      simp [sameS, hi]

theorem check1_ok (s : Sp) : PFun P0 29 [.agg (encS s)] (bo (badS s)) := by
  refine pcalls_body Try.func29 rfl rfl rfl (by show 1 ≤ _; decide) (pwp_run n_ok ?_)
  simp [ev, Fr.init, encS, badS]

def idxS {α : Type} (p : α → Bool) : List α → Nat → Int
  | [], _ => -1
  | s :: l, k => if p s then (k : Int) else idxS p l (k + 1)
theorem idxS_any {α : Type} (p : α → Bool) : ∀ (l : List α) (k : Nat), decide (0 ≤ idxS p l k) = l.any p := by
  intro l
  induction l with
  | nil => intro k; rfl
  | cons s l ih =>
    intro k
    simp only [idxS, List.any_cons]
    by_cases hp : p s = true
    · simp [hp]
    · simp only [hp]; simpa using ih (k + 1)

theorem index_ok {g : FuncId} {first cap : List PV} {σ0 : Heap} {p : Sp → Bool} (hg : Enters P0 g) (b : Bool) (l : List Sp) (hl : l.length ≤ maxLen) (h : ∀ s ∈ l, pcalls P0 g (first ++ [.agg (encS s)] ++ cap) σ0 fun o σ' => o = .val (bo (p s)) ∧ σ' = σ0) :
    pcalls P0 37 [encL b l, .fn (.func g) first cap] σ0 fun o σ' => o = .val (num (idxS p l 0)) ∧ σ' = σ0 := by
  refine pcalls_body Try.func37 rfl rfl rfl (by show 2 ≤ _; decide) (pwp_run n_ok ?_)
  simp [ev, Fr.init]
  refine pwp_loop (fun N fr σ => ∃ k : Nat, N = l.length - k ∧ k ≤ l.length ∧ fr 0 = encL b l ∧ fr 1 = .fn (.func g) first cap ∧ fr 7 = num l.length ∧ fr 8 = num k ∧ σ = σ0 ∧ idxS p l 0 = idxS p (l.drop k) k)
    (N := l.length) ⟨0, by simp [Fr.init]⟩ ?_
  rintro N fr σ ⟨k, rfl, hk, e0, e1, e7, e8, rfl, hi⟩
  unfold maxLen at hl
  by_cases hlt : k < l.length
  · refine pwp_run (T := Tab.nil.add g fun args τ => ⟨args = first ++ [.agg (encS (l[k]'hlt))] ++ cap ∧ τ = σ, bo (p (l[k]'hlt))⟩) (Tab.add_ok n_ok hg fun args τ hd => by
      obtain ⟨rfl, rfl⟩ := hd
      exact h _ (List.getElem_mem hlt)) ?_
    rw [List.drop_eq_getElem_cons hlt] at hi
    simp only [idxS] at hi
    simp [ev, e0, e1, e7, e8, hlt, encS, Tab.add, Tab.nil]
    refine ⟨fun hp => ?_, fun hp => ⟨l.length - (k + 1), by omega, k + 1, rfl, by omega, by rw [wrap_i64 (by omega) (by omega)]; omega, ?_⟩⟩
    · rw [hi, if_pos hp]
    · rw [hi, if_neg (by simp [hp])]
  · refine pwp_run n_ok ?_
    rw [List.drop_eq_nil_of_le (by omega)] at hi
    simp [ev, e0, e1, e7, e8, hlt]
    rw [hi]; rfl

theorem contains_ok {g : FuncId} {first cap : List PV} {σ0 : Heap} {p : Sp → Bool} (hg : Enters P0 g) (b : Bool) (l : List Sp) (hl : l.length ≤ maxLen) (h : ∀ s ∈ l, pcalls P0 g (first ++ [.agg (encS s)] ++ cap) σ0 fun o σ' => o = .val (bo (p s)) ∧ σ' = σ0) :
    pcalls P0 28 [encL b l, .fn (.func g) first cap] σ0 fun o σ' => o = .val (bo (l.any p)) ∧ σ' = σ0 := by
  refine pcalls_body Try.func28 rfl rfl rfl (by show 2 ≤ _; decide) (pwp_run (T := Tab.nil.add 37 fun args τ => ⟨args = [encL b l, .fn (.func g) first cap] ∧ τ = σ0, num (idxS p l 0)⟩) (Tab.add_ok n_ok Try.call37 fun args τ hd => by
    obtain ⟨rfl, rfl⟩ := hd
    exact index_ok hg b l hl h) ?_)
  simp [ev, Fr.init, Tab.add, Tab.nil]
  exact idxS_any p l 0

theorem check_ok (b : Bool) (l : List Sp) (hl : l.length ≤ maxLen) : PFun P0 12 [encL b l] (num (checkS l)) := by
  obtain ⟨c, hc⟩ : ∃ c, c = l.any badS := ⟨_, rfl⟩
  refine pcalls_body Try.func12 rfl rfl rfl (by show 1 ≤ _; decide) (pwp_run (T := Tab.nil.add 28 fun args τ => ⟨args = [encL b l, .fn (.func 29) [] []], bo c⟩) (Tab.add_ok n_ok Try.call28 fun args τ hd => by
    subst hd
    rw [hc]
    exact contains_ok Try.call29 b l hl fun s _ => (check1_ok s).calls) ?_)
  simp [ev, Fr.init, Tab.add, Tab.nil]
  unfold checkS
  rw [← hc]
  cases c <;> simp
end Go.Proofs.Ytmmgifhnbgehaaa
