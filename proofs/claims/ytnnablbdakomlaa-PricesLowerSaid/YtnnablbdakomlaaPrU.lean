/-
  Prices: what the functions compute, part U: Check.
-/
import Derived.Test.YtnnablbdakomlaaPrT
set_option linter.unusedSimpArgs false
set_option linter.unusedVariables false
namespace Go.Proofs.Ytnnablbdakomlaa
open Go.Lo

def costB (a L : List Int) (s h c : Int) : Bool := validS a s h && fitsS a L && coversS a L && decide (C_ a L s h L.length = c)
theorem costB_cases (a L : List Int) (s h c : Int) : (∃ n, costR a L s h = .tup [num n, num 0] ∧ costB a L s h c = decide (n = c)) ∨ costR a L s h = .tup [num 0, num 220] ∧ costB a L s h c = false := by
  unfold costR costB
  cases e : validS a s h && fitsS a L && coversS a L with
  | true => exact .inl ⟨_, rfl, by simp⟩
  | false => exact .inr ⟨rfl, by simp⟩
def lastB (a p : List Int) (s h c : Int) : Bool := boundS a s h p && decide (fS p a.length = c)
def checkB (a : List Int) (s h : Int) (L : List Int) (c : Int) (p : List Int) : Bool := pricedS a p && costB a L s h c && lastB a p s h c
def checkR (a : List Int) (s h : Int) (L : List Int) (c : Int) (p : List Int) : PV := if validS a s h then .tup [bo (checkB a s h L c p), num 0] else .tup [bo false, num 230]

theorem cond33_ok (a L : List Int) (s h c : Int) (p : PV) (ha : a.length ≤ maxLen) (hL : L.length ≤ maxLen) : PFun P0 33 [.ref [encI false a], .ref [encI false L, num c, p], .ref [num s], .ref [num h]] (bo (costB a L s h c)) := by
  refine pcalls_body Try.func33 rfl rfl rfl (by show 4 ≤ _; decide) (pwp_go TD_ok ?_)
  rcases costB_cases a L s h c with ⟨n, h1, h2⟩ | ⟨h1, h2⟩
  · by_cases hz : n = c
    · simp [ha, hL, h1, h2, hz]
    · simp [ha, hL, h1, h2, hz]
  · simp [ha, hL, h1, h2]
theorem cond34_ok (a p : List Int) (s h c : Int) (L q : PV) (H : Ok a s h) (hp : Prc a p) : PFun P0 34 [.ref (taskC a s h p), .ref [L, num c, q]] (bo (lastB a p s h c)) := by
  have hf := H.few
  have hpl := hp.len
  have hal : a.length ≤ maxLen := by unfold maxLen; omega
  have hpm : p.length ≤ maxLen := by unfold maxLen; omega
  refine pcalls_body Try.func34 rfl rfl rfl (by show 2 ≤ _; decide) (pwp_go TN_ok ?_)
  unfold lastB taskC
  rcases boundR_cases a s h p with ⟨b1, b2⟩ | ⟨b1, b2⟩
  · by_cases hz : fS p a.length = c
    · simp [hal, hpm, H, hp, b1, b2, hz]
    · simp [hal, hpm, H, hp, b1, b2, hz]
  · simp [hal, hpm, H, hp, b1, b2]

def c33 : List PV → EV
  | [.ref [a], .ref [L, .lit (.int .i64 c), p], .ref [.lit (.int .i64 s)], .ref [.lit (.int .i64 h)]] => ⟨isI a ∧ isI L, bo (costB (decI a) (decI L) s h c)⟩
  | _ => .no
@[simp] theorem c33_mk (a L p : PV) (s h c : Int) : c33 [.ref [a], .ref [L, num c, p], .ref [num s], .ref [num h]] = ⟨isI a ∧ isI L, bo (costB (decI a) (decI L) s h c)⟩ := rfl
theorem c33_fun (args : List PV) (hd : (c33 args).D) : PFun P0 33 args (c33 args).V := by
  unfold c33 at hd ⊢
  split at hd
  · obtain ⟨k1, l1⟩ := isI_le hd.1
    obtain ⟨k2, l2⟩ := isI_le hd.2
    exact pcalls.args (cond33_ok _ _ _ _ _ _ l1 l2) (.cons (.ref (.cons k1 .nil)) (.cons (.ref (.cons k2 (.cons (.refl _) (.cons (.refl _) .nil)))) (.cons (.refl _) (.cons (.refl _) .nil))))
  · exact hd.elim
def c34 : List PV → EV
  | [.ref [a, .lit (.int .i64 s), .lit (.int .i64 h), p], .ref [L, .lit (.int .i64 c), q]] => ⟨isI a ∧ isI p ∧ Ok (decI a) s h ∧ Prc (decI a) (decI p), bo (lastB (decI a) (decI p) s h c)⟩
  | _ => .no
@[simp] theorem c34_mk (a L p q : PV) (s h c : Int) : c34 [.ref [a, num s, num h, p], .ref [L, num c, q]] = ⟨isI a ∧ isI p ∧ Ok (decI a) s h ∧ Prc (decI a) (decI p), bo (lastB (decI a) (decI p) s h c)⟩ := rfl
theorem c34_fun (args : List PV) (hd : (c34 args).D) : PFun P0 34 args (c34 args).V := by
  unfold c34 at hd ⊢
  split at hd
  · obtain ⟨k1, l1⟩ := isI_le hd.1
    obtain ⟨k2, l2⟩ := isI_le hd.2.1
    exact pcalls.args (cond34_ok _ _ _ _ _ _ _ hd.2.2.1 hd.2.2.2) (.cons (.ref (.cons k1 (.cons (.refl _) (.cons (.refl _) (.cons k2 .nil))))) (.cons (.refl _) .nil))
  · exact hd.elim

def TV : Tab := (TN.add 33 fun a _ => c33 a).add 34 fun a _ => c34 a
theorem TV_ok : TV.ok P0 := Tab.add_fun (Tab.add_fun TN_ok Try.call33 c33_fun) Try.call34 c34_fun
@[simp] theorem TV_dom22 : TV.dom 22 = true := rfl
@[simp] theorem TV_dom23 : TV.dom 23 = true := rfl
@[simp] theorem TV_dom33 : TV.dom 33 = true := rfl
@[simp] theorem TV_dom34 : TV.dom 34 = true := rfl
@[simp] theorem TV_ev22 (a : List PV) (σ : Heap) : TV.ev 22 a σ = t1 (fun a s h p => ⟨True, bo (validS a s h)⟩) a := rfl
@[simp] theorem TV_ev23 (a : List PV) (σ : Heap) : TV.ev 23 a σ = t1 (fun a s h p => ⟨True, bo (pricedS a p)⟩) a := rfl
@[simp] theorem TV_ev33 (a : List PV) (σ : Heap) : TV.ev 33 a σ = c33 a := rfl
@[simp] theorem TV_ev34 (a : List PV) (σ : Heap) : TV.ev 34 a σ = c34 a := rfl

/-- A condition: a closure that yields b. -/
structure Cond (f : PV) (b : Bool) : Prop where
  ex : ∃ g first cap, f = .fn (.func g) first cap ∧ TV.dom g = true ∧ ∀ σ, TV.ev g (first ++ cap) σ = ⟨True, bo b⟩
theorem Cond.sv {f : PV} {b : Bool} (h : Cond f b) : Lo.sv f = f ∧ avt f = True := by
  obtain ⟨g, first, cap, rfl, _⟩ := h.ex; exact ⟨rfl, rfl⟩
theorem not36_ok {f : PV} {b : Bool} (h : Cond f b) : PFun P0 36 [f] (bo !b) := by
  obtain ⟨g, first, cap, rfl, hg, he⟩ := h.ex
  refine pcalls_body Try.func36 rfl rfl rfl (by show 1 ≤ _; decide) (pwp_go TV_ok ?_)
  simp [hg, he]
theorem Cond.inj {f : PV} {b c : Bool} (h : Cond f b) (k : Cond f c) : b = c := by
  obtain ⟨g, first, cap, rfl, hg, he⟩ := h.ex
  obtain ⟨g', first', cap', e, hg', he'⟩ := k.ex
  cases e
  have := (he Heap.empty).symm.trans (he' Heap.empty)
  simpa using this
open Classical in
noncomputable def condV (f : PV) : Bool := if Cond f true then true else false
theorem Cond.val {f : PV} {b : Bool} (h : Cond f b) : condV f = b := by
  unfold condV
  cases b with
  | true => rw [if_pos h]
  | false => rw [if_neg fun k => by cases h.inj k]
noncomputable def c36 : List PV → EV
  | [f] => ⟨Cond f (condV f), bo !condV f⟩
  | _ => .no
theorem c36_mk {f : PV} {b : Bool} (h : Cond f b) : c36 [f] = ⟨True, bo !b⟩ := by
  show (⟨Cond f (condV f), bo !condV f⟩ : EV) = _
  rw [h.val]; simp [h]
noncomputable def TX : Tab := TV.add 36 fun a _ => c36 a
theorem TX_ok : TX.ok P0 := Tab.add_fun TV_ok Try.call36 fun args hd => by
  unfold c36 at hd ⊢
  split at hd
  · exact not36_ok hd
  · exact hd.elim
@[simp] theorem TX_dom36 : TX.dom 36 = true := rfl
@[simp] theorem TX_dom49 : TX.dom 49 = false := rfl
@[simp] theorem TX_dom35 : TX.dom 35 = false := rfl
@[simp] theorem TX_dom22 : TX.dom 22 = true := rfl
@[simp] theorem TX_ev22 (a : List PV) (σ : Heap) : TX.ev 22 a σ = t1 (fun a s h p => ⟨True, bo (validS a s h)⟩) a := rfl
@[simp] theorem TX_ev36 (a : List PV) (σ : Heap) : TX.ev 36 a σ = c36 a := rfl
def ixB (b1 b2 b3 : Bool) : Int := if b1 then (if b2 then (if b3 then -1 else 2) else 1) else 0
theorem ixFunc49_ok {f1 f2 f3 : PV} {b1 b2 b3 : Bool} (h1 : Cond f1 b1) (h2 : Cond f2 b2) (h3 : b1 = true → Cond f3 b3) (a3 : sv f3 = f3 ∧ avt f3 = True) : PFun P0 49 [.slice true [[f1], [f2], [f3]], .fn (.func 36) [] []] (num (ixB b1 b2 b3)) := by
  refine pcalls_body Try.func49 rfl rfl rfl (by show 2 ≤ _; decide) (pwp_go TX_ok ?_)
  simp
  refine pwp_loop (fun N fr σ => ∃ k : Nat, N = 3 - k ∧ k ≤ 3 ∧ fr 0 = .slice true [[f1], [f2], [f3]] ∧ fr 1 = .fn (.func 36) [] [] ∧ fr 7 = num 3 ∧ fr 8 = num k ∧ (1 ≤ k → b1 = true) ∧ (2 ≤ k → b2 = true) ∧ (3 ≤ k → b3 = true))
    (N := 3) ⟨0, by simp⟩ ?_
  rintro N fr σ ⟨k, rfl, hk, e0, e1, e7, e8, i1, i2, i3⟩
  refine pwp_go TX_ok ?_
  obtain ⟨s1, t1⟩ := h1.sv
  obtain ⟨s2, t2⟩ := h2.sv
  obtain ⟨s3, t3⟩ := a3
  rcases (show k = 0 ∨ k = 1 ∨ k = 2 ∨ k = 3 by omega) with rfl | rfl | rfl | rfl
  · cases b1 with
    | true =>
      simp [e0, e1, e7, e8, s1, t1, c36_mk h1]
      exact ⟨2, by omega, 1, rfl, by omega, by decide, by simp⟩
    | false => simp [e0, e1, e7, e8, s1, t1, c36_mk h1, ixB]
  · have q1 := i1 (by omega)
    subst q1
    cases b2 with
    | true =>
      simp [e0, e1, e7, e8, s2, t2, c36_mk h2]
      exact ⟨1, by omega, 2, rfl, by omega, by decide, by simp⟩
    | false => simp [e0, e1, e7, e8, s2, t2, c36_mk h2, ixB]
  · have q1 := i1 (by omega)
    have q2 := i2 (by omega)
    subst q1 q2
    have h3 := h3 rfl
    cases b3 with
    | true =>
      simp [e0, e1, e7, e8, s3, t3, c36_mk h3]
      exact ⟨3, by omega, by omega, by decide⟩
    | false => simp [e0, e1, e7, e8, s3, t3, c36_mk h3, ixB]
  · have q1 := i1 (by omega)
    have q2 := i2 (by omega)
    have q3 := i3 (by omega)
    subst q1 q2 q3
    simp [e0, e1, e7, e8, ixB]

theorem contF35_ok {f1 f2 f3 : PV} {b1 b2 b3 : Bool} (h1 : Cond f1 b1) (h2 : Cond f2 b2) (h3 : b1 = true → Cond f3 b3) (a3 : sv f3 = f3 ∧ avt f3 = True) : PFun P0 35 [.slice true [[f1], [f2], [f3]], .fn (.func 36) [] []] (bo !(b1 && b2 && b3)) := by
  refine pcalls_body Try.func35 rfl rfl rfl (by show 2 ≤ _; decide) (pwp_go TX_ok ?_)
  simp
  refine popsT_call TX_ok Try.call49 (ixFunc49_ok h1 h2 h3 a3).calls rfl (by simp) (by simp) (by simp) ?_
  rintro o' σ' ⟨rfl, rfl⟩
  simp
  unfold ixB
  cases b1 <;> cases b2 <;> cases b3 <;> simp

@[simp] theorem frzN_slice (n : Nat) (σ : Heap) (b : Bool) (rows : List (List PV)) : frzN (n + 1) σ (.slice b rows) = .slice b (rows.map fun r => r.map (frzN n σ)) := (rfl)
theorem check16_ok (a : List Int) (s h : Int) (L : List Int) (c : Int) (p : List Int) (ha : a.length ≤ maxLen) (hL : L.length ≤ maxLen) (hp : p.length ≤ maxLen) : PFun P0 16 [encI false a, num s, num h, .agg [encI false L, num c, encI false p]] (checkR a s h L c p) := by
  refine pcalls_body Try.func16 rfl rfl rfl (by show 4 ≤ _; decide) (pwp_goK TX_ok [5] ?_)
  unfold checkR
  by_cases hv : validS a s h = true
  · have H := ok_of hv
    simp (config := { contextual := true }) [ha, hp, hv]
    intro id4 id5 a1 id6 a2 a3 id7 a4 a5 a6 id10 a7 a8 a9 a10
    obtain ⟨f1, hf1⟩ : ∃ f : PV, f = .fn (.func 23) [.agg (taskC a s h p)] [] := ⟨_, rfl⟩
    obtain ⟨f2, hf2⟩ : ∃ f : PV, f = .fn (.func 33) [] [.ref [encI false a], .ref [encI false L, num c, encI false p], .ref [num s], .ref [num h]] := ⟨_, rfl⟩
    obtain ⟨f3, hf3⟩ : ∃ f : PV, f = .fn (.func 34) [] [.ref (taskC a s h p), .ref [encI false L, num c, encI false p]] := ⟨_, rfl⟩
    refine pwpT_go (pwp_frz 5 (((((Heap.empty.set id4 (.cells [encI false a])).set id5 (.cells [num s])).set id6 (.cells [num h])).set id7 (.cells [encI false L, num c, encI false p])).set id10 (.cells (taskC a s h p))) ?_ ?_)
    · refine Frz.set (Frz.set (Frz.set (Frz.set (Frz.set Frz.none ?_) ?_) ?_) ?_) ?_ <;> simp [taskC, a1, a2, a3, a4, a5, a6, a7, a8, a9, a10]
    refine pwp_gen (I := fun fr σ => fr 11 = .slice true [[f1], [f2], [f3]]) ?_ ?_
    · simp [taskC, a1, a2, a3, a4, a5, a6, a7, a8, a9, a10, hf1, hf2, hf3]
    clear a1 a2 a3 a4 a5 a6 a7 a8 a9 a10
    rintro fr σ e11
    refine pwp_go TX_ok ?_
    have k1 : Cond f1 (pricedS a p) := ⟨⟨23, [.agg (taskC a s h p)], [], hf1, rfl, fun σ => by simp [taskC, ha, hp]⟩⟩
    have k2 : Cond f2 (costB a L s h c) := ⟨⟨33, [], _, hf2, rfl, fun σ => by simp [ha, hL]⟩⟩
    have k3 : pricedS a p = true → Cond f3 (lastB a p s h c) := fun hq => ⟨⟨34, [], _, hf3, rfl, fun σ => by simp [taskC, ha, hp, H, prc_of hq]⟩⟩
    have k4 : sv f3 = f3 ∧ avt f3 = True := by rw [hf3]; exact ⟨rfl, rfl⟩
    simp [e11]
    refine popsT_call TX_ok Try.call35 (contF35_ok k1 k2 k3 k4).calls rfl (by simp) (by simp [e11]) (by simp [e11]) ?_
    rintro o' σ' ⟨rfl, rfl⟩
    simp [hv, checkB]
  · simp (config := { contextual := true }) [ha, hp, hv]
end Go.Proofs.Ytnnablbdakomlaa
