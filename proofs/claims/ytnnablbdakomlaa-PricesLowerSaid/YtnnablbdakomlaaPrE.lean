/-
  Sizing: what the functions compute, part E: Covers and Cost, the program's and the reference's; the cost of one lot.
-/
import Derived.Test.YtnnablbdakomlaaPrD
set_option linter.unusedSimpArgs false
set_option linter.unusedVariables false
namespace Go.Proofs.Ytnnablbdakomlaa
open Go.Lo

/-! ### The iterator 'held' -/
@[simp] theorem inf65 : inf P0 65 = some (1, false) := by kernel_rfl
def hIt (need l : List Int) : PV := .fn (.func 55) [] [.ref [encI false need], .ref [encI false l]]
theorem held29_ok (need l : List Int) : PFun P0 40 [encI false need, encI false l] (hIt need l) := by
  refine pcalls_frz ?_
  refine pcalls_body Try.func40 rfl rfl rfl (by show 2 ≤ _; decide) (pwp_go n_ok ?_)
  simp
  intro id1 id2 h21
  refine ⟨2, (Heap.empty.set id1 (.cells [encI false need])).set id2 (.cells [encI false l]), ?_, ?_⟩
  · exact Frz.set (Frz.set Frz.none (by simp [h21])) (by simp)
  · simp [frzO, frzN, h21, hIt, encI, List.map_map, Function.comp_def]

/-- What 'held' yields. -/
def hVs (need l : List Int) : List (List PV) := (List.range need.length).map fun (d : Nat) => [num (d : Int), num (S_ need l (d + 1))]
theorem hVs_get {need l : List Int} {k : Nat} (h : k < (hVs need l).length) : (hVs need l)[k] = [num k, num (S_ need l (k + 1))] := by simp [hVs]
theorem hVs_length (need l : List Int) : (hVs need l).length = need.length := by simp [hVs]
theorem heldIt {need l : List Int} (hS : Small need l) : IterC P0 55 [] [.ref [encI false need], .ref [encI false l]] (hVs need l) := by
  intro L I R hI σ h0
  rw [hVs_length] at *
  refine pcalls_body Try.func55 rfl rfl rfl (by show 3 ≤ _; decide) (pwp_go n_ok ?_)
  simp
  refine pwp_loop (fun N fr σ => ∃ k : Nat, N = need.length - k ∧ k ≤ need.length ∧ fr 0 = .yld L ∧ fr 1 = .ref [encI false need] ∧ fr 2 = .ref [encI false l] ∧ fr 4 = num (S_ need l k) ∧ fr 6 = encI false need ∧ fr 7 = num need.length ∧ fr 8 = num k ∧ I k σ)
    (N := need.length) ⟨0, by simp [S_, sumTo, h0]⟩ ?_
  rintro N fr σ ⟨k, rfl, hk, e0, e1, e2, e4, e6, e7, e8, hI0⟩
  refine pwp_go n_ok ?_
  have hf := hS.few
  have hlen := hS.len
  by_cases hlt : k < need.length
  · have hlt' : k < l.length := by omega
    have b1 := hS.bound (show k ≤ 16 by omega)
    have b2 := hS.lots k
    have b3 := hS.need k
    rw [nf_get hlt'] at b2; rw [nf_get hlt] at b3
    have w1 : IntKind.i64.wrap (l[k] - need[k]) = l[k] - need[k] := wrap_i64 (by omega) (by omega)
    have w2 : IntKind.i64.wrap (S_ need l k + (l[k] - need[k])) = S_ need l (k + 1) := by rw [wrap_i64 (by omega) (by omega), S_succ, nf_get hlt, nf_get hlt']
    simp [e0, e1, e2, e4, e6, e7, e8, hlt]
    refine pwp_drawT n_ok 11 mixed (by kernel_rfl) ?_
    simp [e0, e1, e2, e4, e6, e7, e8, hlt, hlt', IAx_encI, w1, w2]
    refine popsT_yield n_ok (hI k σ (by rw [hVs_length]; exact hlt) hI0) (by simp [e0]) (by simp) (by simp [e0]) (by simp [hVs_get]) ?_
    rintro o' σ' (⟨rfl, h1⟩ | ⟨rfl, h1⟩)
    · simp [e0, e1, e2, e4, e6, e7, e8]
      exact ⟨need.length - (k + 1), by omega, k + 1, rfl, by omega, rfl, wrap_succ (by omega), h1⟩
    · simp [h1]
  · simp [e0, e1, e2, e4, e6, e7, e8, hlt]
    rw [show need.length = k by omega]
    exact .inl hI0

/-! ### Covers -/
def coverR (need l : List Int) : PV := if validS need 0 0 && fitsS need l then .tup [bo (coversS need l), num 0] else .tup [bo false, num 220]
theorem nf_all {p : Int → Bool} {l : List Int} (h : l.all p = true) (h0 : p 0 = true) (d : Nat) : p (nf l d) = true := by
  unfold nf
  rcases Nat.lt_or_ge d l.length with hd | hd
  · rw [List.getD_eq_getElem?_getD, List.getElem?_eq_getElem hd]
    exact (List.all_eq_true.1 h) _ (List.getElem_mem hd)
  · rw [List.getD_eq_getElem?_getD, List.getElem?_eq_none hd]; exact h0
theorem small_of {need l : List Int} {s h : Int} (h1 : validS need s h = true) (h2 : fitsS need l = true) : Small need l := by
  simp only [validS, fitsS, Bool.and_eq_true, decide_eq_true_eq] at h1 h2
  refine ⟨by omega, by omega, fun d => ?_, fun d => ?_⟩
  · have := nf_all h1.1 rfl d; simp only [inV, inS, Bool.and_eq_true, decide_eq_true_eq] at this; exact this
  · have := nf_all h2.1 rfl d; simp only [inL, inS, Bool.and_eq_true, decide_eq_true_eq] at this; exact this
theorem paid_of {need : List Int} {s h : Int} (h1 : validS need s h = true) : Paid s h := by
  simp only [validS, inV, inS, Bool.and_eq_true, decide_eq_true_eq] at h1
  exact ⟨h1.2.1.2, h1.2.2⟩

/-! ### Tables -/
def decI : PV → List Int
  | .slice _ rows => rows.map fun r => match r with | [.lit (.int _ x)] => x | _ => 0
  | _ => []
def isI : PV → Prop
  | .slice _ rows => ∃ l : List Int, rows = l.map (fun x => [num x]) ∧ l.length ≤ maxLen
  | .lit (.slice none 0 0) => True
  | _ => False
@[simp] theorem decI_enc (b : Bool) (l : List Int) : decI (encI b l) = l := by
  show (l.map fun x => [num x]).map _ = l
  rw [List.map_map]; exact List.map_id'' (fun _ => rfl) l
theorem rows_inj : ∀ {l m : List Int}, l.map (fun x => [num x]) = m.map (fun x => [num x]) → l = m
  | [], [], _ => rfl
  | s :: l, t :: m, h => by
    simp only [List.map_cons, List.cons.injEq, and_true, PV.lit.injEq, Value.int.injEq, true_and] at h
    rw [h.1, rows_inj h.2]
@[simp] theorem isI_enc (b : Bool) (l : List Int) : isI (encI b l) = (l.length ≤ maxLen) := propext
  ⟨fun ⟨m, h, hl⟩ => by rw [rows_inj h]; exact hl, fun h => ⟨l, rfl, h⟩⟩
@[simp] theorem decI_nil : decI (.lit (.slice none 0 0)) = [] := rfl
@[simp] theorem isI_nil : isI (.lit (.slice none 0 0)) = True := rfl
theorem isI_le {p : PV} (h : isI p) : PLe p (encI false (decI p)) ∧ (decI p).length ≤ maxLen := by
  unfold isI at h
  split at h
  · rename_i x rows
    obtain ⟨l, rfl, hl⟩ := h
    have e : decI (.slice x (l.map fun x => [num x])) = l := decI_enc x l
    rw [e]
    exact ⟨PLe.encI_full x l, hl⟩
  · exact ⟨PLe.encI_nil false, by simp [maxLen, decI]⟩
  · exact h.elim
/-- Requirements and two costs. -/
def e3 (r : List Int → Int → Int → EV) (args : List PV) : EV := match args with
  | [a, .lit (.int .i64 s), .lit (.int .i64 h)] => ⟨isI a ∧ (r (decI a) s h).D, (r (decI a) s h).V⟩
  | _ => .no
def e2 (r : List Int → List Int → EV) (args : List PV) : EV := match args with
  | [a, b] => ⟨(isI a ∧ isI b) ∧ (r (decI a) (decI b)).D, (r (decI a) (decI b)).V⟩
  | _ => .no
def e4 (r : List Int → List Int → Int → Int → EV) (args : List PV) : EV := match args with
  | [a, b, .lit (.int .i64 s), .lit (.int .i64 h)] => ⟨(isI a ∧ isI b) ∧ (r (decI a) (decI b) s h).D, (r (decI a) (decI b) s h).V⟩
  | _ => .no
@[simp] theorem e3_mk (r : List Int → Int → Int → EV) (a : PV) (s h : Int) : e3 r [a, num s, num h] = gEV (isI a) (r (decI a) s h) := rfl
@[simp] theorem e2_mk (r : List Int → List Int → EV) (a b : PV) : e2 r [a, b] = gEV (isI a ∧ isI b) (r (decI a) (decI b)) := rfl
@[simp] theorem e4_mk (r : List Int → List Int → Int → Int → EV) (a b : PV) (s h : Int) : e4 r [a, b, num s, num h] = gEV (isI a ∧ isI b) (r (decI a) (decI b) s h) := rfl
theorem e3_fun {f : FuncId} {r : List Int → Int → Int → EV} (k : ∀ l s h, l.length ≤ maxLen → (r l s h).D → PFun P0 f [encI false l, num s, num h] (r l s h).V) (args : List PV) (hd : (e3 r args).D) : PFun P0 f args (e3 r args).V := by
  unfold e3 at hd ⊢
  split at hd
  · obtain ⟨h1, h2⟩ := isI_le hd.1
    exact pcalls.args (k _ _ _ h2 hd.2) (.cons h1 (.cons (.refl _) (.cons (.refl _) .nil)))
  · exact hd.elim
theorem e2_fun {f : FuncId} {r : List Int → List Int → EV} (k : ∀ l m, l.length ≤ maxLen → m.length ≤ maxLen → (r l m).D → PFun P0 f [encI false l, encI false m] (r l m).V) (args : List PV) (hd : (e2 r args).D) : PFun P0 f args (e2 r args).V := by
  unfold e2 at hd ⊢
  split at hd
  · obtain ⟨h1, h2⟩ := isI_le hd.1.1
    obtain ⟨h3, h4⟩ := isI_le hd.1.2
    exact pcalls.args (k _ _ h2 h4 hd.2) (.cons h1 (.cons h3 .nil))
  · exact hd.elim
theorem e4_fun {f : FuncId} {r : List Int → List Int → Int → Int → EV} (k : ∀ l m s h, l.length ≤ maxLen → m.length ≤ maxLen → (r l m s h).D → PFun P0 f [encI false l, encI false m, num s, num h] (r l m s h).V) (args : List PV) (hd : (e4 r args).D) : PFun P0 f args (e4 r args).V := by
  unfold e4 at hd ⊢
  split at hd
  · obtain ⟨h1, h2⟩ := isI_le hd.1.1
    obtain ⟨h3, h4⟩ := isI_le hd.1.2
    exact pcalls.args (k _ _ _ _ h2 h4 hd.2) (.cons h1 (.cons h3 (.cons (.refl _) (.cons (.refl _) .nil))))
  · exact hd.elim
end Go.Proofs.Ytnnablbdakomlaa
