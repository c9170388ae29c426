/-
  Prices: what the functions compute, part R: Bound, Tight: the program's and the reference's.
-/
import Derived.Test.YtnnablbdakomlaaPrQ
set_option linter.unusedSimpArgs false
set_option linter.unusedVariables false
namespace Go.Proofs.Ytnnablbdakomlaa
open Go.Lo

def q4 (r : List Int → Int → Int → List Int → EV) (args : List PV) : EV := match args with
  | [a, .lit (.int .i64 s), .lit (.int .i64 h), p] => ⟨(isI a ∧ isI p) ∧ (r (decI a) s h (decI p)).D, (r (decI a) s h (decI p)).V⟩
  | _ => .no
@[simp] theorem q4_mk (r : List Int → Int → Int → List Int → EV) (a p : PV) (s h : Int) : q4 r [a, num s, num h, p] = gEV (isI a ∧ isI p) (r (decI a) s h (decI p)) := rfl
theorem q4_fun {f : FuncId} {r : List Int → Int → Int → List Int → EV} (k : ∀ l s h m, l.length ≤ maxLen → m.length ≤ maxLen → (r l s h m).D → PFun P0 f [encI false l, num s, num h, encI false m] (r l s h m).V) (args : List PV) (hd : (q4 r args).D) : PFun P0 f args (q4 r args).V := by
  unfold q4 at hd ⊢
  split at hd
  · obtain ⟨h1, h2⟩ := isI_le hd.1.1
    obtain ⟨h3, h4⟩ := isI_le hd.1.2
    exact pcalls.args (k _ _ _ _ h2 h4 hd.2) (.cons h1 (.cons (.refl _) (.cons (.refl _) (.cons h3 .nil))))
  · exact hd.elim
def l1 (r : List Int → Int → EV) (args : List PV) : EV := match args with
  | [a, .lit (.int .i64 s)] => ⟨isI a ∧ (r (decI a) s).D, (r (decI a) s).V⟩
  | _ => .no
@[simp] theorem l1_mk (r : List Int → Int → EV) (a : PV) (s : Int) : l1 r [a, num s] = gEV (isI a) (r (decI a) s) := rfl
theorem l1_fun {f : FuncId} {r : List Int → Int → EV} (k : ∀ l s, l.length ≤ maxLen → (r l s).D → PFun P0 f [encI false l, num s] (r l s).V) (args : List PV) (hd : (l1 r args).D) : PFun P0 f args (l1 r args).V := by
  unfold l1 at hd ⊢
  split at hd
  · obtain ⟨h1, h2⟩ := isI_le hd.1
    exact pcalls.args (k _ _ h2 hd.2) (.cons h1 (.cons (.refl _) .nil))
  · exact hd.elim
def l2 (r : List Int → Int → Int → EV) (args : List PV) : EV := match args with
  | [a, .lit (.int .i64 s), .lit (.int .i64 t)] => ⟨isI a ∧ (r (decI a) s t).D, (r (decI a) s t).V⟩
  | _ => .no
@[simp] theorem l2_mk (r : List Int → Int → Int → EV) (a : PV) (s t : Int) : l2 r [a, num s, num t] = gEV (isI a) (r (decI a) s t) := rfl
theorem l2_fun {f : FuncId} {r : List Int → Int → Int → EV} (k : ∀ l s t, l.length ≤ maxLen → (r l s t).D → PFun P0 f [encI false l, num s, num t] (r l s t).V) (args : List PV) (hd : (l2 r args).D) : PFun P0 f args (l2 r args).V := by
  unfold l2 at hd ⊢
  split at hd
  · obtain ⟨h1, h2⟩ := isI_le hd.1
    exact pcalls.args (k _ _ _ h2 hd.2) (.cons h1 (.cons (.refl _) (.cons (.refl _) .nil)))
  · exact hd.elim

/-! ### The program's Bound -/
def bndR (a : List Int) (s h : Int) (p : List Int) : PV := if validS a s h && pricedS a p then (if boundS a s h p then .tup [num (fS p a.length), bo true, num 0] else .tup [num 0, bo false, num 0]) else .tup [num 0, bo false, num 230]
theorem boundR_cases (a : List Int) (s h : Int) (p : List Int) : (boundS a s h p = true ∧ boundR a s h p = .tup [num (fS p a.length), bo true]) ∨ (boundS a s h p = false ∧ boundR a s h p = .tup [num 0, bo false]) := by
  unfold boundR
  cases boundS a s h p <;> simp
def TN : Tab := TL.add 24 fun a _ => t1 (fun a s h p => ⟨Ok a s h ∧ Prc a p, boundR a s h p⟩) a
theorem TN_ok : TN.ok P0 := Tab.add_fun TL_ok Try.call24 (t1_fun fun a s h p _ _ hd => bound24_ok a s h p hd.1 hd.2)
@[simp] theorem TN_dom24 : TN.dom 24 = true := rfl
@[simp] theorem TN_dom22 : TN.dom 22 = true := rfl
@[simp] theorem TN_dom23 : TN.dom 23 = true := rfl
@[simp] theorem TN_ev24 (a : List PV) (σ : Heap) : TN.ev 24 a σ = t1 (fun a s h p => ⟨Ok a s h ∧ Prc a p, boundR a s h p⟩) a := rfl
@[simp] theorem TN_ev22 (a : List PV) (σ : Heap) : TN.ev 22 a σ = t1 (fun a s h p => ⟨True, bo (validS a s h)⟩) a := rfl
@[simp] theorem TN_ev23 (a : List PV) (σ : Heap) : TN.ev 23 a σ = t1 (fun a s h p => ⟨True, bo (pricedS a p)⟩) a := rfl
theorem bound11_ok (a : List Int) (s h : Int) (p : List Int) (ha : a.length ≤ maxLen) (hp : p.length ≤ maxLen) : PFun P0 11 [encI false a, num s, num h, encI false p] (bndR a s h p) := by
  refine pcalls_body Try.func11 rfl rfl rfl (by show 4 ≤ _; decide) (pwp_go TN_ok ?_)
  unfold bndR
  by_cases hv : validS a s h = true
  · by_cases hq : pricedS a p = true
    · have H := ok_of hv
      have hP := prc_of hq
      rcases boundR_cases a s h p with ⟨b1, b2⟩ | ⟨b1, b2⟩
      · simp (config := { contextual := true }) [ha, hp, hv, hq, H, hP, b1, b2]
      · simp (config := { contextual := true }) [ha, hp, hv, hq, H, hP, b1, b2]
    · simp (config := { contextual := true }) [ha, hp, hv, hq]
  · simp (config := { contextual := true }) [ha, hp, hv]

/-! ### The reference -/
theorem f28_ok (p : List Int) (t : Int) (hp : p.length ≤ maxLen) (h0 : 0 ≤ t ∧ t ≤ p.length) : PFun P0 28 [encI false p, num t] (num (fS p t.toNat)) := by
  refine pcalls_body Try.func28 rfl rfl rfl (by show 2 ≤ _; decide) (pwp_go n_ok ?_)
  unfold maxLen at hp
  unfold fS
  by_cases ht : t = 0
  · simp [ht]
  · have hk : t.toNat - 1 < p.length := by omega
    have hne : ¬ t.toNat = 0 := by omega
    have w1 : IntKind.i64.wrap (t - 1) = ((t.toNat - 1 : Nat) : Int) := by rw [wrap_i64 (by omega) (by omega)]; omega
    simp [ht, w1, IAx_encI, hk, hne, nf_get hk]
theorem valid26_ok (a p : List Int) (ha : a.length ≤ maxLen) (hp : p.length ≤ maxLen) : PFun P0 26 [encI false a, encI false p] (bo (pricedS a p)) := by
  refine pcalls_body Try.func26 rfl rfl rfl (by show 2 ≤ _; decide) (pwp_go n_ok ?_)
  simp
  refine pwp_loop (fun N fr σ => ∃ k : Nat, N = p.length - k ∧ k ≤ p.length ∧ fr 0 = encI false a ∧ fr 1 = encI false p ∧ fr 5 = num k ∧ anyTo greatS p k = false)
    (N := p.length) ⟨0, by simp [anyTo_zero]⟩ ?_
  rintro N fr σ ⟨k, rfl, hk, e0, e1, e5, hi⟩
  refine pwp_go n_ok ?_
  unfold maxLen at hp
  by_cases hlt : k < p.length
  · have wk := wrap_succ (k := k) (by omega)
    have hs := anyTo_succ (p := greatS) hlt
    have fin : greatS p[k] = false → ∃ N', N' < p.length - k ∧ ∃ k' : Nat, N' = p.length - k' ∧ k' ≤ p.length ∧ ((k + 1 : Nat) : Int) = (k' : Int) ∧ anyTo greatS p k' = false := fun hg => ⟨p.length - (k + 1), by omega, k + 1, rfl, by omega, rfl, by rw [hs, hi, hg]; rfl⟩
    have bad : greatS p[k] = true → pricedS a p = false := fun hg => by
      unfold pricedS; rw [any_yes hlt hg]; simp
    by_cases h1 : p[k] < -1152921504606846976
    · have := bad (by simp [greatS, h1])
      simp [e0, e1, e5, hlt, IAx_encI, h1, this]
    · by_cases h2 : (1152921504606846976 : Int) < p[k]
      · have := bad (by simp [greatS, h2])
        simp [e0, e1, e5, hlt, IAx_encI, h1, h2, this]
      · have := fin (by simp [greatS, h1, h2])
        simp [e0, e1, e5, hlt, IAx_encI, h1, h2, wk]
        simpa using this
  · rw [anyTo_all hlt] at hi
    simp [e0, e1, e5, hlt, pricedS, hi]
    rfl
theorem some31_ok (a : List Int) (s h : Int) (H : Ok a s h) (x t : Nat) (hxt : x ≤ t) (ht : t < a.length) : PFun P0 31 [encI false a, num x, num t] (bo (some_ (nf a) x (t + 1 - x))) := by
  refine pcalls_body Try.func31 rfl rfl rfl (by show 3 ≤ _; decide) (pwp_go n_ok ?_)
  simp
  have hf := H.few
  refine pwp_loop (fun N fr σ => ∃ u : Nat, N = t + 1 - u ∧ x ≤ u ∧ u ≤ t + 1 ∧ fr 0 = encI false a ∧ fr 1 = num x ∧ fr 2 = num t ∧ fr 7 = num u ∧ some_ (nf a) x (u - x) = false)
    (N := t + 1 - x) ⟨x, by simp [some_zero]; omega⟩ ?_
  rintro N fr σ ⟨u, rfl, hxu, hu, e0, e1, e2, e7, hi⟩
  refine pwp_go n_ok ?_
  by_cases hlt : u ≤ t
  · have hua : u < a.length := by omega
    have wu := wrap_succ (k := u) (by omega)
    have hn := H.need u
    rw [nf_get hua] at hn
    have hs := some_succ (nf a) x (u - x)
    rw [show u - x + 1 = u + 1 - x by omega, show x + (u - x) = u by omega, hi, nf_get hua] at hs
    by_cases hz : a[u] = 0
    · simp [e0, e1, e2, e7, hlt, IAx_encI, hua, hz, wu]
      exact ⟨t + 1 - (u + 1), by omega, u + 1, rfl, by omega, by omega, by omega, by rw [hs, hz]; rfl⟩
    · have hr : some_ (nf a) x (t + 1 - x) = true := by
        rw [some_iff]; exact ⟨u - x, by omega, by rw [show x + (u - x) = u by omega, nf_get hua]; omega⟩
      simp [e0, e1, e2, e7, hlt, IAx_encI, hua, hz, wu, hr]
  · have hut : u = t + 1 := by omega
    subst hut
    have hn1 : ¬ ((t : Int) + 1 ≤ t) := by omega
    simp [e0, e1, e2, e7, hn1, hi]

def TRef : Tab := (((((Tab.nil.add 28 fun a _ => l1 (fun p t => ⟨0 ≤ t ∧ t ≤ p.length, num (fS p t.toNat)⟩) a).add 26 fun a _ => e2 (fun a p => ⟨True, bo (pricedS a p)⟩) a).add 31 fun a _ => l2 (fun a x t => ⟨(∃ s h, Ok a s h) ∧ 0 ≤ x ∧ x ≤ t ∧ t < a.length, bo (some_ (nf a) x.toNat (t.toNat + 1 - x.toNat))⟩) a).add 32
  fun a _ => btE a).add 25 fun a _ => e3 (fun l s h => ⟨True, bo (validS l s h)⟩) a)
theorem TRef_ok : TRef.ok P0 := by
  refine Tab.add_fun (Tab.add_fun (Tab.add_fun (Tab.add_fun (Tab.add_fun n_ok Try.call28 ?_) Try.call26 ?_) Try.call31 ?_) Try.call32 btE_fun) Try.call25 ?_
  · exact l1_fun fun p t hp h0 => f28_ok p t hp h0
  · exact e2_fun fun a p ha hp _ => valid26_ok a p ha hp
  · refine l2_fun fun a x t _ hd => ?_
    obtain ⟨⟨s, h, H⟩, h1, h2, h3⟩ := hd
    have := some31_ok a s h H x.toNat t.toNat (by omega) (by omega)
    rw [show ((x.toNat : Nat) : Int) = x by omega, show ((t.toNat : Nat) : Int) = t by omega] at this
    exact this
  · exact e3_fun fun l s h hl _ => valid19_ok false l s h hl
@[simp] theorem TRef_dom28 : TRef.dom 28 = true := rfl
@[simp] theorem TRef_dom26 : TRef.dom 26 = true := rfl
@[simp] theorem TRef_dom31 : TRef.dom 31 = true := rfl
@[simp] theorem TRef_dom32 : TRef.dom 32 = true := rfl
@[simp] theorem TRef_dom25 : TRef.dom 25 = true := rfl
@[simp] theorem TRef_ev28 (a : List PV) (σ : Heap) : TRef.ev 28 a σ = l1 (fun p t => ⟨0 ≤ t ∧ t ≤ p.length, num (fS p t.toNat)⟩) a := rfl
@[simp] theorem TRef_ev26 (a : List PV) (σ : Heap) : TRef.ev 26 a σ = e2 (fun a p => ⟨True, bo (pricedS a p)⟩) a := rfl
@[simp] theorem TRef_ev31 (a : List PV) (σ : Heap) : TRef.ev 31 a σ = l2 (fun a x t => ⟨(∃ s h, Ok a s h) ∧ 0 ≤ x ∧ x ≤ t ∧ t < a.length, bo (some_ (nf a) x.toNat (t.toNat + 1 - x.toNat))⟩) a := rfl
@[simp] theorem TRef_ev32 (a : List PV) (σ : Heap) : TRef.ev 32 a σ = btE a := rfl
@[simp] theorem TRef_ev25 (a : List PV) (σ : Heap) : TRef.ev 25 a σ = e3 (fun l s h => ⟨True, bo (validS l s h)⟩) a := rfl

theorem proof27_ok (a : List Int) (s h : Int) (p : List Int) (H : Ok a s h) (hP : Prc a p) : PFun P0 27 [encI false a, num s, num h, encI false p] (bo (boundS a s h p)) := by
  have hf := H.few
  have hpl := hP.len
  have hal : a.length ≤ maxLen := by unfold maxLen; omega
  have hpm : p.length ≤ maxLen := by unfold maxLen; omega
  refine pcalls_body Try.func27 rfl rfl rfl (by show 4 ≤ _; decide) (pwp_go TRef_ok ?_)
  simp
  refine pwp_loop (fun N fr σ => ∃ t : Nat, N = a.length - t ∧ t ≤ a.length ∧ fr 0 = encI false a ∧ fr 1 = num s ∧ fr 2 = num h ∧ fr 3 = encI false p ∧ fr 9 = num t ∧ ∀ u, u < t → ∀ x, x ≤ u → 0 ≤ sl a s h p x u)
    (N := a.length) ⟨0, by simp⟩ ?_
  rintro N fr σ ⟨t, rfl, ht, e0, e1, e2, e3, e9, hi⟩
  refine pwp_go TRef_ok ?_
  by_cases hlt : t < a.length
  · simp [e0, e1, e2, e3, e9, hlt]
    refine pwp_loop (fun N fr σ => ∃ x : Nat, N = t + 1 - x ∧ x ≤ t + 1 ∧ fr 0 = encI false a ∧ fr 1 = num s ∧ fr 2 = num h ∧ fr 3 = encI false p ∧ fr 9 = num t ∧ fr 10 = num x ∧ ∀ y, y < x → 0 ≤ sl a s h p y t)
      (N := t + 1) ⟨0, by simp [e0, e1, e2, e3, e9]⟩ ?_
    clear e0 e1 e2 e3 e9
    rintro N fr σ ⟨x, rfl, hx, e0, e1, e2, e3, e9, e10, hj⟩
    refine pwp_go TRef_ok ?_
    by_cases hxt : x ≤ t
    · have f1 := hP.f x
      have f2 := hP.f (t + 1)
      have b2 := H.lot x (t + 1) (by omega)
      have wx := wrap_succ (k := x) (by omega)
      have w7 : IntKind.i64.wrap ((t : Int) + 1) = (t : Int) + 1 := wrap_i64 (by omega) (by omega)
      have ht1 : ((t : Int) + 1).toNat = t + 1 := by omega
      have w1 : IntKind.i64.wrap (fS p x + lotC (nf a) s h x (t + 1)) = fS p x + lotC (nf a) s h x (t + 1) := wrap_i64 (by omega) (by omega)
      have c1 : (t : Int) + 1 ≤ p.length := by omega
      have c2 : (0 : Int) ≤ (t : Int) + 1 := by omega
      have c3 : (x : Int) ≤ p.length := by omega
      have hsl : sl a s h p x t = fS p x + lotC (nf a) s h x (t + 1) - fS p (t + 1) := rfl
      by_cases hz : fS p x + lotC (nf a) s h x (t + 1) < fS p (t + 1)
      · have hb : boundS a s h p = false := by
          unfold boundS
          rw [List.all_eq_false]
          exact ⟨(x, t), prs_mem.2 ⟨hxt, hlt⟩, by simp only [okQ, decide_eq_true_eq]; omega⟩
        simp [e0, e1, e2, e3, e9, e10, hlt, hxt, w7, ht1, hal, hpm, c1, c2, c3, H, w1, hz, hb]
      · simp [e0, e1, e2, e3, e9, e10, hlt, hxt, w7, ht1, hal, hpm, c1, c2, c3, H, w1, hz, wx]
        refine ⟨t + 1 - (x + 1), by omega, x + 1, rfl, by omega, by omega, fun y hy => ?_⟩
        rcases Nat.lt_or_ge y x with q | q
        · exact hj y q
        · rw [show y = x by omega]; omega
    · have hxt' : x = t + 1 := by omega
      subst hxt'
      have wt := wrap_succ (k := t) (by omega)
      have hn1 : ¬ ((t : Int) + 1 ≤ t) := by omega
      simp [e0, e1, e2, e3, e9, e10, hn1, wt]
      refine ⟨a.length - (t + 1), by omega, t + 1, rfl, by omega, by omega, fun u hu y hy => ?_⟩
      rcases Nat.lt_or_ge u t with q | q
      · exact hi u q y hy
      · rw [show u = t by omega] at hy ⊢; exact hj y (by omega)
  · have hb : boundS a s h p = true := boundS_iff.2 fun x u hx hu => hi u (by omega) x hx
    simp [e0, e1, e2, e3, e9, hlt, hb]

def TS : Tab := TRef.add 27 fun a _ => q4 (fun a s h p => ⟨Ok a s h ∧ Prc a p, bo (boundS a s h p)⟩) a
theorem TS_ok : TS.ok P0 := Tab.add_fun TRef_ok Try.call27 (q4_fun fun a s h p _ _ hd => proof27_ok a s h p hd.1 hd.2)
@[simp] theorem TS_dom28 : TS.dom 28 = true := rfl
@[simp] theorem TS_dom26 : TS.dom 26 = true := rfl
@[simp] theorem TS_dom27 : TS.dom 27 = true := rfl
@[simp] theorem TS_dom25 : TS.dom 25 = true := rfl
@[simp] theorem TS_ev28 (a : List PV) (σ : Heap) : TS.ev 28 a σ = l1 (fun p t => ⟨0 ≤ t ∧ t ≤ p.length, num (fS p t.toNat)⟩) a := rfl
@[simp] theorem TS_ev26 (a : List PV) (σ : Heap) : TS.ev 26 a σ = e2 (fun a p => ⟨True, bo (pricedS a p)⟩) a := rfl
@[simp] theorem TS_ev27 (a : List PV) (σ : Heap) : TS.ev 27 a σ = q4 (fun a s h p => ⟨Ok a s h ∧ Prc a p, bo (boundS a s h p)⟩) a := rfl
@[simp] theorem TS_ev25 (a : List PV) (σ : Heap) : TS.ev 25 a σ = e3 (fun l s h => ⟨True, bo (validS l s h)⟩) a := rfl
theorem bound12_ok (a : List Int) (s h : Int) (p : List Int) (ha : a.length ≤ maxLen) (hp : p.length ≤ maxLen) : PFun P0 12 [encI false a, num s, num h, encI false p] (bndR a s h p) := by
  refine pcalls_body Try.func12 rfl rfl rfl (by show 4 ≤ _; decide) (pwp_go TS_ok ?_)
  unfold bndR
  by_cases hv : validS a s h = true
  · by_cases hq : pricedS a p = true
    · have H := ok_of hv
      have hP := prc_of hq
      have hpl := hP.len
      by_cases hb : boundS a s h p = true
      · simp (config := { contextual := true }) [ha, hp, hv, hq, H, hP, hb, hpl]
      · simp (config := { contextual := true }) [ha, hp, hv, hq, H, hP, hb]
    · simp (config := { contextual := true }) [ha, hp, hv, hq]
  · simp (config := { contextual := true }) [ha, hp, hv]
end Go.Proofs.Ytnnablbdakomlaa
