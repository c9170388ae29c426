/-
  Prices: what the functions compute, part M: a task: valid, priced, F.
-/
import Derived.Test.YtnnablbdakomlaaPrL
import Derived.Test.YtnnablbdakomlaaPrBa
import Derived.Test.YtnnablbdakomlaaLoW
set_option linter.unusedSimpArgs false
set_option linter.unusedVariables false
namespace Go.Proofs.Ytnnablbdakomlaa
open Go.Lo

@[simp] theorem inf49 : inf P0 49 = some (4, true) := by kernel_rfl
@[simp] theorem fld490 : fldT P0 49 0 = some (0, 1, false) := by kernel_rfl
@[simp] theorem fld491 : fldT P0 49 1 = some (1, 1, false) := by kernel_rfl
@[simp] theorem fld492 : fldT P0 49 2 = some (2, 1, false) := by kernel_rfl
@[simp] theorem fld493 : fldT P0 49 3 = some (3, 1, false) := by kernel_rfl
@[simp] theorem places49 : places P0 49 = some [(0, 1), (1, 1), (2, 1), (3, 1)] := by kernel_rfl
@[simp] theorem zero49 : zeroP P0 49 = some [.lit (.slice none 0 0), num 0, num 0, .lit (.slice none 0 0)] := by kernel_rfl
@[simp] theorem inf58' : inf P0 58 = some (4, true) := by kernel_rfl
@[simp] theorem fld580 : fldT P0 58 0 = some (0, 1, false) := by kernel_rfl
@[simp] theorem fld581 : fldT P0 58 1 = some (1, 1, false) := by kernel_rfl
@[simp] theorem fld582 : fldT P0 58 2 = some (2, 1, false) := by kernel_rfl
@[simp] theorem fld583 : fldT P0 58 3 = some (3, 1, false) := by kernel_rfl
@[simp] theorem places58 : places P0 58 = some [(0, 1), (1, 1), (2, 1), (3, 1)] := by kernel_rfl
@[simp] theorem zero58 : zeroP P0 58 = some [num 0, num 0, num 0, bo false] := by kernel_rfl
@[simp] theorem inf55 : inf P0 55 = some (1, false) := by kernel_rfl
@[simp] theorem inf23 : inf P0 23 = some (1, false) := by kernel_rfl
@[simp] theorem inf72 : inf P0 72 = some (1, false) := by kernel_rfl
@[simp] theorem ixi60 : ixi P0 60 = some (none, 1, false) := by kernel_rfl
@[simp] theorem len60 : lenK P0 60 = .slice := by kernel_rfl
@[simp] theorem elem60 : elemB P0 60 = some (8, [.lit .nilFunc]) := by kernel_rfl
@[simp] theorem elemOk60 : elemOk P0 60 = true := by kernel_rfl

/-! ### Tasks -/
def taskC (a : List Int) (s h : Int) (p : List Int) : List PV := [encI false a, num s, num h, encI false p]
def t1 (r : List Int → Int → Int → List Int → EV) (args : List PV) : EV := match args with
  | [.agg [a, .lit (.int .i64 s), .lit (.int .i64 h), p]] => ⟨(isI a ∧ isI p) ∧ (r (decI a) s h (decI p)).D, (r (decI a) s h (decI p)).V⟩
  | _ => .no
@[simp] theorem t1_mk (r : List Int → Int → Int → List Int → EV) (a p : PV) (s h : Int) : t1 r [.agg [a, num s, num h, p]] = gEV (isI a ∧ isI p) (r (decI a) s h (decI p)) := rfl
theorem t1_fun {f : FuncId} {r : List Int → Int → Int → List Int → EV} (k : ∀ l s h m, l.length ≤ maxLen → m.length ≤ maxLen → (r l s h m).D → PFun P0 f [.agg (taskC l s h m)] (r l s h m).V) (args : List PV) (hd : (t1 r args).D) : PFun P0 f args (t1 r args).V := by
  unfold t1 at hd ⊢
  split at hd
  · obtain ⟨h1, h2⟩ := isI_le hd.1.1
    obtain ⟨h3, h4⟩ := isI_le hd.1.2
    exact pcalls.args (k _ _ _ _ h2 h4 hd.2) (.cons (.agg (.cons h1 (.cons (.refl _) (.cons (.refl _) (.cons h3 .nil))))) .nil)
  · exact hd.elim
def t2 (r : List Int → Int → Int → List Int → Int → EV) (args : List PV) : EV := match args with
  | [.agg [a, .lit (.int .i64 s), .lit (.int .i64 h), p], .lit (.int .i64 t)] => ⟨(isI a ∧ isI p) ∧ (r (decI a) s h (decI p) t).D, (r (decI a) s h (decI p) t).V⟩
  | _ => .no
@[simp] theorem t2_mk (r : List Int → Int → Int → List Int → Int → EV) (a p : PV) (s h t : Int) : t2 r [.agg [a, num s, num h, p], num t] = gEV (isI a ∧ isI p) (r (decI a) s h (decI p) t) := rfl
theorem t2_fun {f : FuncId} {r : List Int → Int → Int → List Int → Int → EV} (k : ∀ l s h m t, l.length ≤ maxLen → m.length ≤ maxLen → (r l s h m t).D → PFun P0 f [.agg (taskC l s h m), num t] (r l s h m t).V) (args : List PV) (hd : (t2 r args).D) : PFun P0 f args (t2 r args).V := by
  unfold t2 at hd ⊢
  split at hd
  · obtain ⟨h1, h2⟩ := isI_le hd.1.1
    obtain ⟨h3, h4⟩ := isI_le hd.1.2
    exact pcalls.args (k _ _ _ _ _ h2 h4 hd.2) (.cons (.agg (.cons h1 (.cons (.refl _) (.cons (.refl _) (.cons h3 .nil))))) (.cons (.refl _) .nil))
  · exact hd.elim

/-! ### F -/
def fS (p : List Int) (t : Nat) : Int := if t = 0 then 0 else nf p (t - 1)
theorem fS_zero (p : List Int) : fS p 0 = 0 := rfl
theorem fS_succ (p : List Int) (t : Nat) : fS p (t + 1) = nf p t := rfl
theorem f45_ok (a : List Int) (s h : Int) (p : List Int) (t : Int) (hp : p.length ≤ maxLen) (h0 : 0 ≤ t ∧ t ≤ p.length) : PFun P0 45 [.agg (taskC a s h p), num t] (num (fS p t.toNat)) := by
  refine pcalls_body Try.func45 rfl rfl rfl (by show 2 ≤ _; decide) (pwp_go n_ok ?_)
  unfold maxLen at hp
  unfold fS taskC
  by_cases ht : t = 0
  · simp (config := { contextual := true }) [ht]
  · have hk : t.toNat - 1 < p.length := by omega
    have hne : ¬ t.toNat = 0 := by omega
    have w1 : IntKind.i64.wrap (t - 1) = ((t.toNat - 1 : Nat) : Int) := by rw [wrap_i64 (by omega) (by omega)]; omega
    simp (config := { contextual := true }) [ht, w1, IAx_encI, hk, hne, nf_get hk]

/-! ### Valid -/
theorem fits_self {need : List Int} {s h : Int} (hv : validS need s h = true) : fitsS need need = true := by
  simp only [validS, Bool.and_eq_true, List.all_eq_true, decide_eq_true_eq] at hv
  simp only [fitsS, Bool.and_eq_true, List.all_eq_true, decide_eq_true_eq]
  refine ⟨fun x hx => ?_, trivial⟩
  have := hv.1 x hx
  simp only [inV, inL, inS, Bool.and_eq_true, decide_eq_true_eq] at this ⊢
  omega
theorem S_self (need : List Int) (k : Nat) : S_ need need k = 0 := sumTo_zero fun i _ => by omega
theorem covers_self (need : List Int) : coversS need need = true := by
  unfold coversS covTo
  rw [List.all_eq_true]
  intro d _
  rw [S_self]; rfl
theorem cost_self {need : List Int} {s h : Int} (hv : validS need s h = true) : costR need need s h = .tup [num (C_ need need s h need.length), num 0] := by
  unfold costR; rw [if_pos (by rw [hv, fits_self hv, covers_self]; rfl)]
theorem cost_not {need l : List Int} {s h : Int} (hv : ¬ validS need s h = true) : costR need l s h = .tup [num 0, num 220] := by
  unfold costR; rw [if_neg (by simp [hv])]
theorem cover_self {need : List Int} {s h : Int} (hv : validS need s h = true) : coverR need need = .tup [bo true, num 0] := by
  unfold coverR; rw [if_pos (by rw [valid00 hv, fits_self hv]; rfl), covers_self]
theorem coverR_some (need l : List Int) : ∃ b e, coverR need l = .tup [bo b, num e] := by
  unfold coverR; split <;> exact ⟨_, _, rfl⟩

def TD : Tab := (TC.add 18 fun a _ => e4 (fun l m s h => ⟨True, costR l m s h⟩) a).add 45 fun a _ => t2 (fun l s h m t => ⟨0 ≤ t ∧ t ≤ m.length, num (fS m t.toNat)⟩) a
theorem TD_ok : TD.ok P0 := by
  refine Tab.add_fun (Tab.add_fun TC_ok Try.call18 ?_) Try.call45 ?_
  · exact e4_fun fun l m s t hl hm _ => cost17_ok l m s t hl hm
  · exact t2_fun fun l s h m t _ hm h0 => f45_ok l s h m t hm h0
@[simp] theorem TD_dom38 : TD.dom 38 = true := rfl
@[simp] theorem TD_dom18 : TD.dom 18 = true := rfl
@[simp] theorem TD_dom45 : TD.dom 45 = true := rfl
@[simp] theorem TD_ev38 (a : List PV) (σ : Heap) : TD.ev 38 a σ = e2 (fun l m => ⟨True, coverR l m⟩) a := rfl
@[simp] theorem TD_ev18 (a : List PV) (σ : Heap) : TD.ev 18 a σ = e4 (fun l m s h => ⟨True, costR l m s h⟩) a := rfl
@[simp] theorem TD_ev45 (a : List PV) (σ : Heap) : TD.ev 45 a σ = t2 (fun l s h m t => ⟨0 ≤ t ∧ t ≤ m.length, num (fS m t.toNat)⟩) a := rfl

theorem valid22_ok (a : List Int) (s h : Int) (p : List Int) (ha : a.length ≤ maxLen) : PFun P0 22 [.agg (taskC a s h p)] (bo (validS a s h)) := by
  refine pcalls_body Try.func22 rfl rfl rfl (by show 1 ≤ _; decide) (pwp_go TD_ok ?_)
  unfold taskC
  by_cases hv : validS a s h = true
  · simp (config := { contextual := true }) [ha, hv, cover_self hv, cost_self hv]
  · obtain ⟨b, e, h1⟩ := coverR_some a a
    simp (config := { contextual := true }) [ha, hv, h1, cost_not hv]

/-! ### The first place -/
def ixF (p : Int → Bool) : List Int → Nat → Int
  | [], _ => -1
  | x :: l, k => if p x then (k : Int) else ixF p l (k + 1)
theorem ixF_any (p : Int → Bool) : ∀ (l : List Int) (k : Nat), decide (0 ≤ ixF p l k) = l.any p := by
  intro l
  induction l with
  | nil => intro k; rfl
  | cons x l ih =>
    intro k
    simp only [ixF, List.any_cons]
    by_cases hx : p x = true
    · simp [hx]
    · simp [hx]; simpa using ih (k + 1)
theorem ixF_drop {p : Int → Bool} {l : List Int} {k : Nat} (h : k < l.length) : ixF p (l.drop k) k = if p l[k] then (k : Int) else ixF p (l.drop (k + 1)) (k + 1) := by
  rw [List.drop_eq_getElem_cons h]; rfl
theorem ixF_end {p : Int → Bool} {l : List Int} {k : Nat} (h : ¬ k < l.length) : ixF p (l.drop k) k = -1 := by
  rw [List.drop_eq_nil_of_le (by omega)]; rfl

/-! ### Priced -/
def greatS (x : Int) : Bool := decide (x < -1152921504606846976) || decide (1152921504606846976 < x)
theorem great43_ok (x : Int) : PFun P0 43 [num x] (bo (greatS x)) := by
  refine pcalls_body Try.func43 rfl rfl rfl (by show 1 ≤ _; decide) (pwp_go n_ok ?_)
  unfold greatS
  by_cases h1 : x < -1152921504606846976
  · simp [h1]
  · simp [h1]
def TG : Tab := TD.add 43 fun a _ => match a with | [.lit (.int .i64 x)] => ⟨True, bo (greatS x)⟩ | _ => .no
theorem TG_ok : TG.ok P0 := Tab.add_fun TD_ok Try.call43 fun args hd => by
  split at hd
  · exact great43_ok _
  · exact hd.elim
@[simp] theorem TG_dom43 : TG.dom 43 = true := rfl
@[simp] theorem TG_ev43 (x : Int) (σ : Heap) : TG.ev 43 [num x] σ = ⟨True, bo (greatS x)⟩ := rfl
theorem ixFunc57_ok (l : List Int) (hl : l.length ≤ maxLen) : PFun P0 57 [encI false l, .fn (.func 43) [] []] (num (ixF greatS l 0)) := by
  refine pcalls_body Try.func57 rfl rfl rfl (by show 2 ≤ _; decide) (pwp_go TG_ok ?_)
  simp
  refine pwp_loop (fun N fr σ => ∃ k : Nat, N = l.length - k ∧ k ≤ l.length ∧ fr 0 = encI false l ∧ fr 1 = .fn (.func 43) [] [] ∧ fr 7 = num l.length ∧ fr 8 = num k ∧ ixF greatS l 0 = ixF greatS (l.drop k) k)
    (N := l.length) ⟨0, by simp⟩ ?_
  rintro N fr σ ⟨k, rfl, hk, e0, e1, e7, e8, hi⟩
  refine pwp_go TG_ok ?_
  unfold maxLen at hl
  by_cases hlt : k < l.length
  · rw [ixF_drop hlt] at hi
    simp [e0, e1, e7, e8, hlt, IAx_encI]
    refine ⟨fun hb => ?_, fun hb => ⟨l.length - (k + 1), by omega, k + 1, rfl, by omega, wrap_succ (by omega), ?_⟩⟩
    · rw [hi, hb]; rfl
    · rw [hi, hb]; rfl
  · rw [ixF_end hlt] at hi
    simp [e0, e1, e7, e8, hlt, hi]
def isGr : PV → Prop
  | .fn (.func g) [] [] => g = 43
  | _ => False
@[simp] theorem isGr43 : isGr (.fn (.func 43) [] []) = True := eq_true rfl
theorem isGr_is {v : PV} (h : isGr v) : v = .fn (.func 43) [] [] := by
  unfold isGr at h
  split at h
  · rw [h]
  · exact h.elim
def g2 (r : List Int → EV) (args : List PV) : EV := match args with
  | [a, f] => ⟨isI a ∧ isGr f ∧ (r (decI a)).D, (r (decI a)).V⟩
  | _ => .no
@[simp] theorem g2_mk (r : List Int → EV) (a f : PV) : g2 r [a, f] = ⟨isI a ∧ isGr f ∧ (r (decI a)).D, (r (decI a)).V⟩ := rfl
theorem g2_fun {f : FuncId} {r : List Int → EV} (k : ∀ l, l.length ≤ maxLen → (r l).D → PFun P0 f [encI false l, .fn (.func 43) [] []] (r l).V) (args : List PV) (hd : (g2 r args).D) : PFun P0 f args (g2 r args).V := by
  unfold g2 at hd ⊢
  split at hd
  · obtain ⟨h1, h2⟩ := isI_le hd.1
    have := isGr_is hd.2.1
    subst this
    exact pcalls.args (k _ h2 hd.2.2) (.cons h1 (.cons (.refl _) .nil))
  · exact hd.elim
def TH : Tab := TG.add 57 fun a _ => g2 (fun l => ⟨True, num (ixF greatS l 0)⟩) a
theorem TH_ok : TH.ok P0 := Tab.add_fun TG_ok Try.call57 (g2_fun fun l hl _ => ixFunc57_ok l hl)
@[simp] theorem TH_dom57 : TH.dom 57 = true := rfl
@[simp] theorem TH_ev57 (a : List PV) (σ : Heap) : TH.ev 57 a σ = g2 (fun l => ⟨True, num (ixF greatS l 0)⟩) a := rfl
theorem contF44_ok (l : List Int) (hl : l.length ≤ maxLen) : PFun P0 44 [encI false l, .fn (.func 43) [] []] (bo (l.any greatS)) := by
  refine pcalls_body Try.func44 rfl rfl rfl (by show 2 ≤ _; decide) (pwp_go TH_ok ?_)
  have := ixF_any greatS l 0
  simp [hl, this]
def pricedS (a p : List Int) : Bool := decide ((p.length : Int) = a.length) && !p.any greatS
def TI : Tab := TH.add 44 fun a _ => g2 (fun l => ⟨True, bo (l.any greatS)⟩) a
theorem TI_ok : TI.ok P0 := Tab.add_fun TH_ok Try.call44 (g2_fun fun l hl _ => contF44_ok l hl)
@[simp] theorem TI_dom44 : TI.dom 44 = true := rfl
@[simp] theorem TI_ev44 (a : List PV) (σ : Heap) : TI.ev 44 a σ = g2 (fun l => ⟨True, bo (l.any greatS)⟩) a := rfl
theorem priced23_ok (a : List Int) (s h : Int) (p : List Int) (hp : p.length ≤ maxLen) : PFun P0 23 [.agg (taskC a s h p)] (bo (pricedS a p)) := by
  refine pcalls_body Try.func23 rfl rfl rfl (by show 1 ≤ _; decide) (pwp_go TI_ok ?_)
  unfold taskC pricedS
  by_cases hq : (p.length : Int) = a.length
  · simp (config := { contextual := true }) [hp, hq]
  · simp (config := { contextual := true }) [hp, hq]
end Go.Proofs.Ytnnablbdakomlaa
