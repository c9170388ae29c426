/-
  Network: what the functions compute, part F: indices, cut links, Send.
-/
import Derived.Test.YtgcoikbgpkfcnaaNwE
set_option linter.unusedSimpArgs false
set_option linter.unusedVariables false
namespace Go.Proofs.Ytgcoikbgpkfcnaa
open Go.Lo

def pkZ : PV := .agg [num 0, num 0, .lit (.slice none 0 0)]
def atR (n : Nt) (i : Int) : PV := if askN n i = 0 then .tup [.agg (rowK (atN n i)), num 0] else .tup [pkZ, num (askN n i)]
theorem at35_ok (n : Nt) (i : Int) (hn : okN n) : PFun P0 35 [.agg (netC n), num i] (atR n i) := by
  refine pcalls_body Try.func35 rfl rfl rfl (by show 2 ≤ _; decide) (pwp_go TG_ok ?_)
  unfold atR
  have hok := hn
  unfold okN at hn
  by_cases h1 : vN n = true
  · by_cases h2 : i < 0
    · have ha : askN n i = 1 := by unfold askN; rw [if_pos h1, if_neg (by omega)]
      simp (config := { contextual := true }) [netC, hn, chkR, h1, h2, ha, pkZ]
    · by_cases h3 : (n.q.length : Int) ≤ i
      · have ha : askN n i = 1 := by unfold askN; rw [if_pos h1, if_neg (by omega)]
        simp (config := { contextual := true }) [netC, hn, chkR, h1, h2, h3, ha, pkZ]
      · have ha : askN n i = 0 := by unfold askN; rw [if_pos h1, if_pos (by omega)]
        obtain ⟨k, rfl, hk, e⟩ := atN_get (n := n) (i := i) (by omega)
        have hrl : (rowK n.q[k]).length = 3 := rfl
        simp (config := { contextual := true }) [netC, hn, chkR, h1, h2, h3, ha, e, IAx_encQ, hk, hrl, List.take_of_length_le, rowK]
  · have ha : askN n i = 460 := by unfold askN; rw [if_neg h1]
    simp (config := { contextual := true }) [netC, hn, chkR, h1, ha, pkZ]
theorem asked41_ok (n : Nt) (i : Int) (hn : okN n) : PFun P0 41 [.agg (netC n), num i] (num (askN n i)) := by
  refine pcalls_body Try.func41 rfl rfl rfl (by show 2 ≤ _; decide) (pwp_go TG_ok ?_)
  unfold okN at hn
  by_cases h1 : vN n = true
  · by_cases h2 : i < 0
    · have ha : askN n i = 1 := by unfold askN; rw [if_pos h1, if_neg (by omega)]
      simp (config := { contextual := true }) [netC, hn, chkR, h1, h2, ha]
    · by_cases h3 : (n.q.length : Int) ≤ i
      · have ha : askN n i = 1 := by unfold askN; rw [if_pos h1, if_neg (by omega)]
        simp (config := { contextual := true }) [netC, hn, chkR, h1, h2, h3, ha]
      · have ha : askN n i = 0 := by unfold askN; rw [if_pos h1, if_pos (by omega)]
        simp (config := { contextual := true }) [netC, hn, chkR, h1, h2, h3, ha]
  · have ha : askN n i = 460 := by unfold askN; rw [if_neg h1]
    simp (config := { contextual := true }) [netC, hn, chkR, h1, ha]

/-! ### Whether a link is among others -/
def isC (c d : Lk) : Bool := c.1 == d.1 && c.2 == d.2
theorem isC_iff {c d : Lk} : isC c d = true ↔ c = d := by
  simp only [isC, Bool.and_eq_true, beq_iff_eq]
  exact ⟨fun h => Prod.ext h.1 h.2, fun h => by rw [h]; exact ⟨rfl, rfl⟩⟩
theorem any_isC (l : List Lk) (c : Lk) : l.any (isC c) = l.contains c := by
  rw [Bool.eq_iff_iff, List.any_eq_true, List.contains_iff_mem]
  constructor
  · rintro ⟨d, hd, e⟩; rw [isC_iff.1 e]; exact hd
  · intro h; exact ⟨c, h, isC_iff.2 rfl⟩
theorem index45_ok (l : List Lk) (x y : Int) (hl : l.length ≤ maxLen) : PFun P0 45 [encA false l, .agg [num x, num y]] (num (ixG (isC (x, y)) l 0)) := by
  refine pcalls_body Try.func45 rfl rfl rfl (by show 2 ≤ _; decide) (pwp_go n_ok ?_)
  unfold maxLen at hl
  simp [-NEW_def]
  refine fun id3 hid => ?_
  simp
  refine pwpT_go (pwp_frz 2 (Heap.empty.set id3 (.cells [num x, num y])) (Frz.set Frz.none (by simp)) ?_)
  refine pwp_loop (fun N fr σ => ∃ k : Nat, N = l.length - k ∧ k ≤ l.length ∧ fr 0 = encA false l ∧ fr 3 = .ref [num x, num y] ∧ fr 7 = num l.length ∧ fr 8 = num k ∧ ixG (isC (x, y)) l 0 = ixG (isC (x, y)) (l.drop k) k)
    (N := l.length) ⟨0, by simp⟩ ?_
  rintro N fr σ ⟨k, rfl, hk, e0, e3, e7, e8, hi⟩
  refine pwp_go n_ok ?_
  by_cases hlt : k < l.length
  · rw [ixG_drop hlt] at hi
    have wk := wrap_succ (k := k) (by omega)
    obtain ⟨⟨u, v⟩, huv⟩ : ∃ c : Lk, l[k] = c := ⟨_, rfl⟩
    rw [huv] at hi
    simp [e0, e3, e7, e8, hlt]
    refine pwp_drawT n_ok 5 mixed (by kernel_rfl) ?_
    by_cases hv : x = u ∧ y = v
    · obtain ⟨rfl, rfl⟩ := hv
      rw [if_pos (isC_iff.2 rfl)] at hi
      simp [e0, e3, e7, e8, hlt, IAx_encA, huv, rowL, wk, hi]
    · have hE : isC (x, y) (u, v) = false := by simp [isC]; omega
      have hB : evBin P0 .eql 55 (.agg [num x, num y]) (.agg [num u, num v]) = ⟨True, bo false⟩ := by rw [eq55']; rw [show (x == u && y == v) = false from hE]
      rw [hE, if_neg (by simp)] at hi
      simp [-eq55', e0, e3, e7, e8, hlt, IAx_encA, huv, rowL, wk, hB, hi]
      exact ⟨l.length - (k + 1), by omega, k + 1, rfl, by omega, by omega, rfl⟩
  · rw [ixG_end hlt] at hi
    simp [e0, e3, e7, e8, hlt, hi]
def al (r : List Lk → Int → Int → PV) (args : List PV) : EV := match args with
  | [a, .agg [.lit (.int .i64 x), .lit (.int .i64 y)]] => ⟨isAp a, r (decA a) x y⟩
  | _ => .no
@[simp] theorem al_mk (r : List Lk → Int → Int → PV) (a : PV) (x y : Int) : al r [a, .agg [num x, num y]] = ⟨isAp a, r (decA a) x y⟩ := rfl
theorem al_fun {f : FuncId} {r : List Lk → Int → Int → PV} (k : ∀ l x y, l.length ≤ maxLen → PFun P0 f [encA false l, .agg [num x, num y]] (r l x y)) (args : List PV) (hd : (al r args).D) : PFun P0 f args (al r args).V := by
  unfold al at hd ⊢
  split at hd
  · obtain ⟨h1, h2⟩ := isAp_le hd
    exact pcalls.args (k _ _ _ h2) (.cons h1 (.cons (.refl _) .nil))
  · exact hd.elim
def TH : Tab := TG.add 45 fun a _ => al (fun l x y => num (ixG (isC (x, y)) l 0)) a
theorem TH_ok : TH.ok P0 := Tab.add_fun TG_ok Try.call45 (al_fun index45_ok)
@[simp] theorem TH_dom45 : TH.dom 45 = true := rfl
@[simp] theorem TH_ev45 (a : List PV) (σ : Heap) : TH.ev 45 a σ = al (fun l x y => num (ixG (isC (x, y)) l 0)) a := rfl
theorem contains36_ok (l : List Lk) (x y : Int) (hl : l.length ≤ maxLen) : PFun P0 36 [encA false l, .agg [num x, num y]] (bo (l.contains (x, y))) := by
  refine pcalls_body Try.func36 rfl rfl rfl (by show 2 ≤ _; decide) (pwp_go TH_ok ?_)
  have := ixG_any (isC (x, y)) l 0
  rw [any_isC] at this
  simp (config := { contextual := true }) [hl, this]
theorem isCut40_ok (n : Nt) (a b : Int) (hn : okN n) : PFun P0 40 [.agg (netC n), num a, num b] (bo (n.a.contains (btw a b))) := by
  refine pcalls_body Try.func40 rfl rfl rfl (by show 3 ≤ _; decide) (pwp_go n_ok ?_)
  have hal := hn.2
  unfold maxLen at hal
  rw [← any_isC]
  simp [-NEW_def, netC]
  refine fun id3 hid => ?_
  simp
  refine pwpT_go (pwp_frz 2 (Heap.empty.set id3 (.cells [encQ false n.q, encA false n.a])) (Frz.set Frz.none (by simp)) ?_)
  refine pwp_loop (fun N fr σ => ∃ k : Nat, N = n.a.length - k ∧ k ≤ n.a.length ∧ fr 1 = num a ∧ fr 2 = num b ∧ fr 3 = .ref [encQ false n.q, encA false n.a] ∧ fr 7 = num k ∧ anyTo (isC (btw a b)) n.a k = false)
    (N := n.a.length) ⟨0, by simp [anyTo_zero]⟩ ?_
  rintro N fr σ ⟨k, rfl, hk, e1, e2, e3, e7, hi⟩
  refine pwp_go n_ok ?_
  by_cases hlt : k < n.a.length
  · have wk := wrap_succ (k := k) (by omega)
    obtain ⟨⟨u, v⟩, huv⟩ : ∃ c : Lk, n.a[k] = c := ⟨_, rfl⟩
    have hs := anyTo_succ (p := isC (btw a b)) hlt
    rw [huv, hi] at hs
    by_cases c1 : u = min a b
    · by_cases c2 : v = max a b
      · have := any_yes (p := isC (btw a b)) hlt (by rw [huv, isC_iff]; simp [btw, c1, c2])
        simp [e1, e2, e3, e7, hlt, IAx_encA, huv, rowL, c1, c2, this]
      · have c2' : (v == max a b) = false := by simp [c2]
        have hE : isC (btw a b) (u, v) = false := by simp [isC, btw]; omega
        simp [e1, e2, e3, e7, hlt, IAx_encA, huv, rowL, c1, c2', wk]
        exact ⟨n.a.length - (k + 1), by omega, k + 1, rfl, by omega, by omega, by rw [hs, hE]; rfl⟩
    · have c1' : (u == min a b) = false := by simp [c1]
      have hE : isC (btw a b) (u, v) = false := by simp [isC, btw]; omega
      simp [e1, e2, e3, e7, hlt, IAx_encA, huv, rowL, c1', wk]
      exact ⟨n.a.length - (k + 1), by omega, k + 1, rfl, by omega, by omega, by rw [hs, hE]; rfl⟩
  · rw [anyTo_all hlt] at hi
    simp [e1, e2, e3, e7, hlt, hi]
end Go.Proofs.Ytgcoikbgpkfcnaa
