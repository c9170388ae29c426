/-
  Sizing: what the functions compute, part C: validity.
-/
import Derived.Test.YtccjejfdhhnhjaaLoV
import Derived.Test.YtccjejfdhhnhjaaSzB
import Derived.Test.YtccjejfdhhnhjaaRows
set_option linter.unusedSimpArgs false
set_option linter.unusedVariables false
namespace Go.Proofs.Ytccjejfdhhnhjaa
open Go.Lo

@[simp] theorem ixi22 : ixi Try.prog 22 = some (none, 1, false) := by kernel_rfl
@[simp] theorem ixi47 : ixi Try.prog 47 = some (some 17, 1, false) := by kernel_rfl
@[simp] theorem inf3 : inf Try.prog 3 = some (1, false) := by kernel_rfl
@[simp] theorem inf4 : inf Try.prog 4 = some (1, false) := by kernel_rfl
@[simp] theorem inf22 : inf Try.prog 22 = some (1, false) := by kernel_rfl
@[simp] theorem inf26 : inf Try.prog 26 = some (3, true) := by kernel_rfl
@[simp] theorem inf27 : inf Try.prog 27 = some (1, false) := by kernel_rfl
@[simp] theorem inf46 : inf Try.prog 46 = some (1, false) := by kernel_rfl
@[simp] theorem fld260 : fldT Try.prog 26 0 = some (0, 1, false) := by kernel_rfl
@[simp] theorem fld261 : fldT Try.prog 26 1 = some (1, 1, false) := by kernel_rfl
@[simp] theorem fld262 : fldT Try.prog 26 2 = some (2, 1, false) := by kernel_rfl
@[simp] theorem elem22 : elemB Try.prog 22 = some (8, [num 0]) := by kernel_rfl
@[simp] theorem elemOk22 : elemOk Try.prog 22 = true := by kernel_rfl
@[simp] theorem isl22 : isSliceT Try.prog 22 = true := by kernel_rfl
@[simp] theorem zero26 : zeroP Try.prog 26 = some [.lit (.slice none 0 0), num 0, .lit (.slice none 0 0)] := by kernel_rfl
@[simp] theorem zero3 : zeroP Try.prog 3 = some [num 0] := by kernel_rfl
@[simp] theorem zero4 : zeroP Try.prog 4 = some [bo false] := by kernel_rfl
@[simp] theorem zero27 : zeroP Try.prog 27 = some [num 0] := by kernel_rfl
@[simp] theorem zero46 : zeroP Try.prog 46 = some [.lit .nilFunc] := by kernel_rfl
@[simp] theorem zero47 : zeroP Try.prog 47 = some (List.replicate 17 (num 0)) := by kernel_rfl
@[simp] theorem places26 : places Try.prog 26 = some [(0, 1), (1, 1), (2, 1)] := by kernel_rfl
@[simp] theorem ixi26 : ixi Try.prog 26 = none := by kernel_rfl
@[simp] theorem len22 : lenK Try.prog 22 = .slice := by kernel_rfl
@[simp] theorem bool4 : Try.prog.underlying 4 = some .bool := by kernel_rfl
theorem mixed : Try.prog.follows .mixedOrders = true := by kernel_rfl
noncomputable abbrev P0 : Program := Try.prog
theorem n_ok : Tab.nil.ok P0 := Tab.nil_ok _

/-! ### 'in' -/
def inS (a b c : Int) : Bool := decide (b ≤ a) && decide (a ≤ c)
def inE : List PV → EV
  | [.lit (.int .i64 a), .lit (.int .i64 b), .lit (.int .i64 c)] => ⟨True, bo (inS a b c)⟩
  | _ => .no
@[simp] theorem inE_mk (a b c : Int) : inE [num a, num b, num c] = ⟨True, bo (inS a b c)⟩ := rfl
theorem in32_ok (a b c : Int) : PFun P0 32 [num a, num b, num c] (bo (inS a b c)) := by
  refine pcalls_body Try.func32 rfl rfl rfl (by show 3 ≤ _; decide) (pwp_go n_ok ?_)
  simp [inS]
theorem in33_ok (a b c : Int) : PFun P0 33 [num a, num b, num c] (bo (inS a b c)) := by
  refine pcalls_body Try.func33 rfl rfl rfl (by show 3 ≤ _; decide) (pwp_go n_ok ?_)
  simp [inS]
def TA : Tab := (Tab.nil.add 32 fun a _ => inE a).add 33 fun a _ => inE a
theorem in_cases (args : List PV) (h : (inE args).D) : ∃ a b c, args = [num a, num b, num c] := by
  unfold inE at h
  split at h
  · exact ⟨_, _, _, rfl⟩
  · exact h.elim
theorem TA_ok : TA.ok P0 := by
  refine Tab.add_fun (Tab.add_fun n_ok Try.call32 fun args h => ?_) Try.call33 fun args h => ?_
  · obtain ⟨a, b, c, rfl⟩ := in_cases args h; exact in32_ok a b c
  · obtain ⟨a, b, c, rfl⟩ := in_cases args h; exact in33_ok a b c
@[simp] theorem TA_dom32 : TA.dom 32 = true := rfl
@[simp] theorem TA_dom33 : TA.dom 33 = true := rfl
@[simp] theorem TA_ev32 (a : List PV) (σ : Heap) : TA.ev 32 a σ = inE a := rfl
@[simp] theorem TA_ev33 (a : List PV) (σ : Heap) : TA.ev 33 a σ = inE a := rfl

/-! ### Valid -/
def inV (n : Int) : Bool := inS n 0 1048576
def inL (n : Int) : Bool := inS n 0 67108864
def validS (need : List Int) (s h : Int) : Bool := need.all inV && (decide ((need.length : Int) ≤ 16) && inV s && inV h)
def fitsS (need l : List Int) : Bool := l.all inL && decide ((l.length : Int) = need.length)

theorem valid19_ok (b : Bool) (need : List Int) (s h : Int) (hl : need.length ≤ maxLen) : PFun P0 19 [encI b need, num s, num h] (bo (validS need s h)) := by
  refine pcalls_body Try.func19 rfl rfl rfl (by show 3 ≤ _; decide) (pwp_go TA_ok ?_)
  simp
  refine pwp_loop (fun N fr σ => ∃ k : Nat, N = need.length - k ∧ k ≤ need.length ∧ fr 0 = encI b need ∧ fr 1 = num s ∧ fr 2 = num h ∧ fr 7 = num k ∧ allTo inV need k = true)
    (N := need.length) ⟨0, by simp [allTo_zero]⟩ ?_
  rintro N fr σ ⟨k, rfl, hk, e0, e1, e2, e7, hi⟩
  refine pwp_go TA_ok ?_
  unfold maxLen at hl
  by_cases hlt : k < need.length
  · simp [e0, e1, e2, e7, hlt, IAx_encI]
    refine ⟨fun hb => ?_, fun hb => ⟨need.length - (k + 1), by omega, k + 1, rfl, by omega, wrap_succ (by omega), ?_⟩⟩
    · simp [validS, all_not hlt (show inV need[k] = false from hb)]
    · rw [allTo_succ hlt, hi]; exact hb
  · simp [e0, e1, e2, e7, hlt]
    rw [allTo_all hlt] at hi
    simp [validS, hi, inV]
theorem valid23_ok (b : Bool) (need : List Int) (s h : Int) (hl : need.length ≤ maxLen) : PFun P0 23 [encI b need, num s, num h] (bo (validS need s h)) := by
  refine pcalls_body Try.func23 rfl rfl rfl (by show 3 ≤ _; decide) (pwp_go TA_ok ?_)
  simp
  refine pwp_loop (fun N fr σ => ∃ k : Nat, N = need.length - k ∧ k ≤ need.length ∧ fr 0 = encI b need ∧ fr 1 = num s ∧ fr 2 = num h ∧ fr 9 = encI b need ∧ fr 10 = num need.length ∧ fr 11 = num k ∧ allTo inV need k = true)
    (N := need.length) ⟨0, by simp [allTo_zero]⟩ ?_
  rintro N fr σ ⟨k, rfl, hk, e0, e1, e2, e9, e10, e11, hi⟩
  refine pwp_go TA_ok ?_
  unfold maxLen at hl
  by_cases hlt : k < need.length
  · simp [e0, e1, e2, e9, e10, e11, hlt, IAx_encI]
    refine ⟨fun hb => ?_, fun hb => ⟨need.length - (k + 1), by omega, k + 1, rfl, by omega, wrap_succ (by omega), ?_⟩⟩
    · simp [validS, all_not hlt (show inV need[k] = false from hb)]
    · rw [allTo_succ hlt, hi]; exact hb
  · simp [e0, e1, e2, e9, e10, e11, hlt]
    rw [allTo_all hlt] at hi
    simp [validS, hi, inV]
end Go.Proofs.Ytccjejfdhhnhjaa
