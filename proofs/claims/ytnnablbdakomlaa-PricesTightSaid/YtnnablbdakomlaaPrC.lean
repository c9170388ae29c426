/-
  Sizing: what the functions compute, part C: validity.
-/
import Derived.Test.YtnnablbdakomlaaLoV
import Derived.Test.YtnnablbdakomlaaPrB
import Derived.Test.YtnnablbdakomlaaRows
set_option linter.unusedSimpArgs false
set_option linter.unusedVariables false
namespace Go.Proofs.Ytnnablbdakomlaa
open Go.Lo

@[simp] theorem ixi22 : ixi Try.prog 22 = some (none, 1, false) := by kernel_rfl
@[simp] theorem ixi68 : ixi Try.prog 68 = some (some 17, 1, false) := by kernel_rfl
@[simp] theorem inf3 : inf Try.prog 3 = some (1, false) := by kernel_rfl
@[simp] theorem inf4 : inf Try.prog 4 = some (1, false) := by kernel_rfl
@[simp] theorem inf22 : inf Try.prog 22 = some (1, false) := by kernel_rfl
@[simp] theorem inf32 : inf Try.prog 32 = some (3, true) := by kernel_rfl
@[simp] theorem inf24 : inf Try.prog 24 = some (1, false) := by kernel_rfl
@[simp] theorem inf67 : inf Try.prog 67 = some (1, false) := by kernel_rfl
@[simp] theorem fld320 : fldT Try.prog 32 0 = some (0, 1, false) := by kernel_rfl
@[simp] theorem fld321 : fldT Try.prog 32 1 = some (1, 1, false) := by kernel_rfl
@[simp] theorem fld322 : fldT Try.prog 32 2 = some (2, 1, false) := by kernel_rfl
@[simp] theorem elem22 : elemB Try.prog 22 = some (8, [num 0]) := by kernel_rfl
@[simp] theorem elemOk22 : elemOk Try.prog 22 = true := by kernel_rfl
@[simp] theorem isl22 : isSliceT Try.prog 22 = true := by kernel_rfl
@[simp] theorem zero32 : zeroP Try.prog 32 = some [.lit (.slice none 0 0), num 0, .lit (.slice none 0 0)] := by kernel_rfl
@[simp] theorem zero3 : zeroP Try.prog 3 = some [num 0] := by kernel_rfl
@[simp] theorem zero4 : zeroP Try.prog 4 = some [bo false] := by kernel_rfl
@[simp] theorem zero24 : zeroP Try.prog 24 = some [num 0] := by kernel_rfl
@[simp] theorem zero67 : zeroP Try.prog 67 = some [.lit .nilFunc] := by kernel_rfl
@[simp] theorem zero68 : zeroP Try.prog 68 = some (List.replicate 17 (num 0)) := by kernel_rfl
@[simp] theorem places32 : places Try.prog 32 = some [(0, 1), (1, 1), (2, 1)] := by kernel_rfl
@[simp] theorem ixi32 : ixi Try.prog 32 = none := by kernel_rfl
@[simp] theorem len22 : lenK Try.prog 22 = .slice := by kernel_rfl
@[simp] theorem bool4 : Try.prog.underlying 4 = some .bool := by kernel_rfl
theorem mixed : Try.prog.follows .mixedOrders = true := by kernel_rfl
noncomputable abbrev P0 : Program := Try.prog
theorem n_ok : Tab.nil.ok P0 := Tab.nil_ok _

/-! ### 'in' -/
def inS (a b c : Int) : Bool := decide (b ≤ a) && decide (a ≤ c)
def inE : List PV → EV
  | [.lit (.int .i64 a), .lit (.int .i64 b), .lit (.int .i64 c)] => ⟨True, bo (inS a b c)⟩
  | _ => .no
@[simp] theorem inE_mk (a b c : Int) : inE [num a, num b, num c] = ⟨True, bo (inS a b c)⟩ := rfl
theorem in32_ok (a b c : Int) : PFun P0 46 [num a, num b, num c] (bo (inS a b c)) := by
  refine pcalls_body Try.func46 rfl rfl rfl (by show 3 ≤ _; decide) (pwp_go n_ok ?_)
  simp [inS]
theorem in33_ok (a b c : Int) : PFun P0 54 [num a, num b, num c] (bo (inS a b c)) := by
  refine pcalls_body Try.func54 rfl rfl rfl (by show 3 ≤ _; decide) (pwp_go n_ok ?_)
  simp [inS]
def TA : Tab := (Tab.nil.add 46 fun a _ => inE a).add 54 fun a _ => inE a
theorem in_cases (args : List PV) (h : (inE args).D) : ∃ a b c, args = [num a, num b, num c] := by
  unfold inE at h
  split at h
  · exact ⟨_, _, _, rfl⟩
  · exact h.elim
theorem TA_ok : TA.ok P0 := by
  refine Tab.add_fun (Tab.add_fun n_ok Try.call46 fun args h => ?_) Try.call54 fun args h => ?_
  · obtain ⟨a, b, c, rfl⟩ := in_cases args h; exact in32_ok a b c
  · obtain ⟨a, b, c, rfl⟩ := in_cases args h; exact in33_ok a b c
@[simp] theorem TA_dom46 : TA.dom 46 = true := rfl
@[simp] theorem TA_dom54 : TA.dom 54 = true := rfl
@[simp] theorem TA_ev46 (a : List PV) (σ : Heap) : TA.ev 46 a σ = inE a := rfl
@[simp] theorem TA_ev54 (a : List PV) (σ : Heap) : TA.ev 54 a σ = inE a := rfl

/-! ### Valid -/
def inV (n : Int) : Bool := inS n 0 1048576
def inL (n : Int) : Bool := inS n 0 67108864
def validS (need : List Int) (s h : Int) : Bool := need.all inV && (decide ((need.length : Int) ≤ 16) && inV s && inV h)
def fitsS (need l : List Int) : Bool := l.all inL && decide ((l.length : Int) = need.length)

theorem valid19_ok (b : Bool) (need : List Int) (s h : Int) (hl : need.length ≤ maxLen) : PFun P0 25 [encI b need, num s, num h] (bo (validS need s h)) := by
  refine pcalls_body Try.func25 rfl rfl rfl (by show 3 ≤ _; decide) (pwp_go TA_ok ?_)
  simp
  refine pwp_loop (fun N fr σ => ∃ k : Nat, N = need.length - k ∧ k ≤ need.length ∧ fr 0 = encI b need ∧ fr 1 = num s ∧ fr 2 = num h ∧ fr 7 = num k ∧ allTo inV need k = true)
    (N := need.length) ⟨0, by simp [allTo_zero]⟩ ?_
  rintro N fr σ ⟨k, rfl, hk, e0, e1, e2, e7, hi⟩
  refine pwp_go TA_ok ?_
  unfold maxLen at hl
  by_cases hlt : k < need.length
  · simp [e0, e1, e2, e7, hlt, IAx_encI]
    refine ⟨fun hb => ?_, fun hb => ⟨need.length - (k + 1), by omega, k + 1, rfl, by omega, wrap_succ (by omega), ?_⟩⟩
    · simp [validS, all_not hlt (show inV need[k] = false from hb)]
    · rw [allTo_succ hlt, hi]; exact hb
  · simp [e0, e1, e2, e7, hlt]
    rw [allTo_all hlt] at hi
    simp [validS, hi, inV]
theorem valid23_ok (b : Bool) (need : List Int) (s h : Int) (hl : need.length ≤ maxLen) : PFun P0 39 [encI b need, num s, num h] (bo (validS need s h)) := by
  refine pcalls_body Try.func39 rfl rfl rfl (by show 3 ≤ _; decide) (pwp_go TA_ok ?_)
  simp
  refine pwp_loop (fun N fr σ => ∃ k : Nat, N = need.length - k ∧ k ≤ need.length ∧ fr 0 = encI b need ∧ fr 1 = num s ∧ fr 2 = num h ∧ fr 9 = encI b need ∧ fr 10 = num need.length ∧ fr 11 = num k ∧ allTo inV need k = true)
    (N := need.length) ⟨0, by simp [allTo_zero]⟩ ?_
  rintro N fr σ ⟨k, rfl, hk, e0, e1, e2, e9, e10, e11, hi⟩
  refine pwp_go TA_ok ?_
  unfold maxLen at hl
  by_cases hlt : k < need.length
  · simp [e0, e1, e2, e9, e10, e11, hlt, IAx_encI]
    refine ⟨fun hb => ?_, fun hb => ⟨need.length - (k + 1), by omega, k + 1, rfl, by omega, wrap_succ (by omega), ?_⟩⟩
    · simp [validS, all_not hlt (show inV need[k] = false from hb)]
    · rw [allTo_succ hlt, hi]; exact hb
  · simp [e0, e1, e2, e9, e10, e11, hlt]
    rw [allTo_all hlt] at hi
    simp [validS, hi, inV]
end Go.Proofs.Ytnnablbdakomlaa
