/-
  Network: what the functions compute, part C: links, packets, Check.
-/
import Derived.Test.YtgcoikbgpkfcnaaNwB
set_option linter.unusedSimpArgs false
set_option linter.unusedVariables false
namespace Go.Proofs.Ytgcoikbgpkfcnaa
open Go.Lo

theorem pwp_gen {P : Program} {rd : Bool} {n : Nat} {c : Code} {Q : PX → Fr → Heap → Prop} {fr : Fr} {σ : Heap} {I : Fr → Heap → Prop} (h : I fr σ) (k : ∀ fr σ, I fr σ → pwp P rd n c Q fr σ) : pwp P rd n c Q fr σ := k _ _ h

/-- A whole array as a slice. -/
@[simp] theorem Slx_ref2 (σ : Heap) (ag : Bool) (x y : PV) : Slx (some (some 2, 1, ag)) σ (.ref [x, y]) none none none = ⟨True, .slice true [[x], [y]]⟩ := by
  simp [Slx, bnd, maxLen]
theorem wrap1 : IntKind.i64.wrap 1 = 1 := by decide

/-! ### The first place -/
def ixG {α : Type} (p : α → Bool) : List α → Nat → Int
  | [], _ => -1
  | x :: l, k => if p x then (k : Int) else ixG p l (k + 1)
theorem ixG_any {α : Type} (p : α → Bool) : ∀ (l : List α) (k : Nat), decide (0 ≤ ixG p l k) = l.any p := by
  intro l
  induction l with
  | nil => intro k; rfl
  | cons x l ih =>
    intro k
    simp only [ixG, List.any_cons]
    by_cases hx : p x = true
    · simp [hx]
    · simp [hx]; simpa using ih (k + 1)
theorem ixG_drop {α : Type} {p : α → Bool} {l : List α} {k : Nat} (h : k < l.length) : ixG p (l.drop k) k = if p l[k] then (k : Int) else ixG p (l.drop (k + 1)) (k + 1) := by
  rw [List.drop_eq_getElem_cons h]; rfl
theorem ixG_end {α : Type} {p : α → Bool} {l : List α} {k : Nat} (h : ¬ k < l.length) : ixG p (l.drop k) k = -1 := by
  rw [List.drop_eq_nil_of_le (by omega)]; rfl

/-! ### Links -/
theorem btw37_ok (a b : Int) : PFun P0 37 [num a, num b] (.agg (rowL (btw a b))) := by
  refine pcalls_body Try.func37 rfl rfl rfl (by show 2 ≤ _; decide) (pwp_go n_ok ?_)
  simp [rowL, btw]
theorem valid32_ok (x y : Int) : PFun P0 32 [.agg [num x, num y]] (bo (vL (x, y))) := by
  refine pcalls_body Try.func32 rfl rfl rfl (by show 1 ≤ _; decide) (pwp_go n_ok ?_)
  unfold vL
  by_cases h1 : 0 ≤ x
  · by_cases h2 : x < y
    · simp [h1, h2]
    · simp [h1, h2]
  · simp [h1]
theorem site34_ok (x : Int) : PFun P0 34 [num x] (bo (decide (0 ≤ x) && decide (x < 16))) := by
  refine pcalls_body Try.func34 rfl rfl rfl (by show 1 ≤ _; decide) (pwp_go n_ok ?_)
  by_cases h1 : 0 ≤ x
  · simp [h1]
  · simp [h1]
theorem nan47_ok (x : Int) : PFun P0 47 [num x] (bo false) := by
  refine pcalls_body Try.func47 rfl rfl rfl (by show 1 ≤ _; decide) (pwp_go n_ok ?_)
  simp
def i1 (r : Int → PV) (args : List PV) : EV := match args with
  | [.lit (.int .i64 x)] => ⟨True, r x⟩
  | _ => .no
@[simp] theorem i1_mk (r : Int → PV) (x : Int) : i1 r [num x] = ⟨True, r x⟩ := rfl
theorem i1_fun {f : FuncId} {r : Int → PV} (k : ∀ x, PFun P0 f [num x] (r x)) (args : List PV) (hd : (i1 r args).D) : PFun P0 f args (i1 r args).V := by
  unfold i1 at hd ⊢
  split at hd
  · exact k _
  · exact hd.elim
def i2 (r : Int → Int → PV) (args : List PV) : EV := match args with
  | [.lit (.int .i64 x), .lit (.int .i64 y)] => ⟨True, r x y⟩
  | _ => .no
@[simp] theorem i2_mk (r : Int → Int → PV) (x y : Int) : i2 r [num x, num y] = ⟨True, r x y⟩ := rfl
theorem i2_fun {f : FuncId} {r : Int → Int → PV} (k : ∀ x y, PFun P0 f [num x, num y] (r x y)) (args : List PV) (hd : (i2 r args).D) : PFun P0 f args (i2 r args).V := by
  unfold i2 at hd ⊢
  split at hd
  · exact k _ _
  · exact hd.elim
def g1 (r : Int → Int → PV) (args : List PV) : EV := match args with
  | [.agg [.lit (.int .i64 x), .lit (.int .i64 y)]] => ⟨True, r x y⟩
  | _ => .no
@[simp] theorem g1_mk (r : Int → Int → PV) (x y : Int) : g1 r [.agg [num x, num y]] = ⟨True, r x y⟩ := rfl
theorem g1_fun {f : FuncId} {r : Int → Int → PV} (k : ∀ x y, PFun P0 f [.agg [num x, num y]] (r x y)) (args : List PV) (hd : (g1 r args).D) : PFun P0 f args (g1 r args).V := by
  unfold g1 at hd ⊢
  split at hd
  · exact k _ _
  · exact hd.elim
def TA : Tab := ((((Tab.nil.add 37 fun a _ => i2 (fun x y => .agg (rowL (btw x y))) a).add 32 fun a _ => g1 (fun x y => bo (vL (x, y))) a).add 34 fun a _ => i1 (fun x => bo (decide (0 ≤ x) && decide (x < 16))) a).add 47 fun a _ => i1 (fun x => bo false) a)
theorem TA_ok : TA.ok P0 := Tab.add_fun (Tab.add_fun (Tab.add_fun (Tab.add_fun n_ok Try.call37 (i2_fun btw37_ok)) Try.call32 (g1_fun valid32_ok)) Try.call34 (i1_fun site34_ok)) Try.call47 (i1_fun nan47_ok)
@[simp] theorem TA_dom37 : TA.dom 37 = true := rfl
@[simp] theorem TA_dom32 : TA.dom 32 = true := rfl
@[simp] theorem TA_dom34 : TA.dom 34 = true := rfl
@[simp] theorem TA_dom47 : TA.dom 47 = true := rfl
@[simp] theorem TA_ev37 (a : List PV) (σ : Heap) : TA.ev 37 a σ = i2 (fun x y => .agg (rowL (btw x y))) a := rfl
@[simp] theorem TA_ev32 (a : List PV) (σ : Heap) : TA.ev 32 a σ = g1 (fun x y => bo (vL (x, y))) a := rfl
@[simp] theorem TA_ev34 (a : List PV) (σ : Heap) : TA.ev 34 a σ = i1 (fun x => bo (decide (0 ≤ x) && decide (x < 16))) a := rfl
@[simp] theorem TA_ev47 (a : List PV) (σ : Heap) : TA.ev 47 a σ = i1 (fun x => bo false) a := rfl

/-! ### Packets -/
theorem packet28_ok (p : Pk) (hp : okP p) : PFun P0 28 [.agg (rowK p)] (bo (vP p)) := by
  refine pcalls_body Try.func28 rfl rfl rfl (by show 1 ≤ _; decide) (pwp_go TA_ok ?_)
  unfold vP rowK
  by_cases h1 : vL (btw p.f p.t) = true
  · simp (config := { contextual := true }) [h1, rowL]
  · simp (config := { contextual := true }) [h1, rowL]
theorem rpacket29_ok (p : Pk) (hp : okP p) : PFun P0 29 [.agg (rowK p)] (bo (vP p)) := by
  refine pcalls_body Try.func29 rfl rfl rfl (by show 1 ≤ _; decide) (pwp_go TA_ok ?_)
  have hv : vL (btw p.f p.t) = (((decide (0 ≤ p.f) && decide (p.f < 16)) && (decide (0 ≤ p.t) && decide (p.t < 16))) && (p.f != p.t)) := by
    rw [Bool.eq_iff_iff]
    simp only [vL_iff, btw, Bool.and_eq_true, decide_eq_true_eq, bne_iff_ne]
    constructor
    · intro h; refine ⟨⟨⟨?_, ?_⟩, ?_, ?_⟩, ?_⟩ <;> omega
    · rintro ⟨⟨⟨q1, q2⟩, q3, q4⟩, q5⟩; refine ⟨?_, ?_, ?_⟩ <;> omega
  unfold vP rowK
  rw [hv]
  by_cases h1 : 0 ≤ p.f ∧ p.f < 16
  · by_cases h2 : 0 ≤ p.t ∧ p.t < 16
    · by_cases h3 : p.f = p.t
      · simp (config := { contextual := true }) [h1, h2, h3]
      · simp (config := { contextual := true }) [h1, h2, h3]
    · have : (decide (0 ≤ p.t) && decide (p.t < 16)) = false := by simpa using h2
      simp (config := { contextual := true }) [h1, this]
  · have : (decide (0 ≤ p.f) && decide (p.f < 16)) = false := by simpa using h1
    simp (config := { contextual := true }) [this]
def p1 (r : Pk → PV) (args : List PV) : EV := match args with
  | [.agg c] => ⟨isK c, r (decK c)⟩
  | _ => .no
@[simp] theorem p1_mk (r : Pk → PV) (c : List PV) : p1 r [.agg c] = ⟨isK c, r (decK c)⟩ := rfl
theorem p1_fun {f : FuncId} {r : Pk → PV} (k : ∀ p, okP p → PFun P0 f [.agg (rowK p)] (r p)) (args : List PV) (hd : (p1 r args).D) : PFun P0 f args (p1 r args).V := by
  unfold p1 at hd ⊢
  split at hd
  · obtain ⟨h1, h2⟩ := isK_le hd
    exact pcalls.args (k _ h2) (.cons (.agg h1) .nil)
  · exact hd.elim
def TB : Tab := (TA.add 28 fun a _ => p1 (fun p => bo (vP p)) a).add 29 fun a _ => p1 (fun p => bo (vP p)) a
theorem TB_ok : TB.ok P0 := Tab.add_fun (Tab.add_fun TA_ok Try.call28 (p1_fun packet28_ok)) Try.call29 (p1_fun rpacket29_ok)
@[simp] theorem TB_dom28 : TB.dom 28 = true := rfl
@[simp] theorem TB_dom29 : TB.dom 29 = true := rfl
@[simp] theorem TB_dom32 : TB.dom 32 = true := rfl
@[simp] theorem TB_dom34 : TB.dom 34 = true := rfl
@[simp] theorem TB_dom47 : TB.dom 47 = true := rfl
@[simp] theorem TB_ev28 (a : List PV) (σ : Heap) : TB.ev 28 a σ = p1 (fun p => bo (vP p)) a := rfl
@[simp] theorem TB_ev29 (a : List PV) (σ : Heap) : TB.ev 29 a σ = p1 (fun p => bo (vP p)) a := rfl
@[simp] theorem TB_ev32 (a : List PV) (σ : Heap) : TB.ev 32 a σ = g1 (fun x y => bo (vL (x, y))) a := rfl
@[simp] theorem TB_ev34 (a : List PV) (σ : Heap) : TB.ev 34 a σ = i1 (fun x => bo (decide (0 ≤ x) && decide (x < 16))) a := rfl
@[simp] theorem TB_ev47 (a : List PV) (σ : Heap) : TB.ev 47 a σ = i1 (fun x => bo false) a := rfl
def badP (p : Pk) : Bool := !vP p
theorem not31_ok (p : Pk) (hp : okP p) : PFun P0 31 [.agg (rowK p)] (bo (badP p)) := by
  refine pcalls_body Try.func31 rfl rfl rfl (by show 1 ≤ _; decide) (pwp_go TB_ok ?_)
  have := hp
  unfold okP at this
  unfold badP rowK
  simp (config := { contextual := true }) [this]
def TC : Tab := TB.add 31 fun a _ => p1 (fun p => bo (badP p)) a
theorem TC_ok : TC.ok P0 := Tab.add_fun TB_ok Try.call31 (p1_fun not31_ok)
@[simp] theorem TC_dom31 : TC.dom 31 = true := rfl
@[simp] theorem TC_ev31 (a : List PV) (σ : Heap) : TC.ev 31 a σ = p1 (fun p => bo (badP p)) a := rfl
theorem ixFunc43_ok (l : List Pk) (hl : okQ l) : PFun P0 43 [encQ false l, .fn (.func 31) [] []] (num (ixG badP l 0)) := by
  refine pcalls_body Try.func43 rfl rfl rfl (by show 2 ≤ _; decide) (pwp_go TC_ok ?_)
  simp
  refine pwp_loop (fun N fr σ => ∃ k : Nat, N = l.length - k ∧ k ≤ l.length ∧ fr 0 = encQ false l ∧ fr 1 = .fn (.func 31) [] [] ∧ fr 7 = num l.length ∧ fr 8 = num k ∧ ixG badP l 0 = ixG badP (l.drop k) k)
    (N := l.length) ⟨0, by simp⟩ ?_
  rintro N fr σ ⟨k, rfl, hk, e0, e1, e7, e8, hi⟩
  refine pwp_go TC_ok ?_
  have hl2 := hl.2
  unfold maxLen at hl2
  by_cases hlt : k < l.length
  · rw [ixG_drop hlt] at hi
    have wk := wrap_succ (k := k) (by omega)
    have hok := hl.1 _ (List.getElem_mem hlt)
    have hrl : (rowK l[k]).length = 3 := rfl
    simp [e0, e1, e7, e8, hlt, IAx_encQ, hrl, hok, List.take_of_length_le]
    refine ⟨fun hb => ?_, fun hb => ⟨l.length - (k + 1), by omega, k + 1, rfl, by omega, wk, ?_⟩⟩
    · rw [hi, hb]; rfl
    · rw [hi, hb]; rfl
  · rw [ixG_end hlt] at hi
    simp [e0, e1, e7, e8, hlt, hi]
def isBad : PV → Prop
  | .fn (.func g) [] [] => g = 31
  | _ => False
@[simp] theorem isBad31 : isBad (.fn (.func 31) [] []) = True := eq_true rfl
theorem isBad_is {v : PV} (h : isBad v) : v = .fn (.func 31) [] [] := by
  unfold isBad at h
  split at h
  · rw [h]
  · exact h.elim
def q2 (r : List Pk → PV) (args : List PV) : EV := match args with
  | [a, f] => ⟨isQu a ∧ isBad f, r (decQ a)⟩
  | _ => .no
@[simp] theorem q2_mk (r : List Pk → PV) (a f : PV) : q2 r [a, f] = ⟨isQu a ∧ isBad f, r (decQ a)⟩ := rfl
theorem q2_fun {f : FuncId} {r : List Pk → PV} (k : ∀ l, okQ l → PFun P0 f [encQ false l, .fn (.func 31) [] []] (r l)) (args : List PV) (hd : (q2 r args).D) : PFun P0 f args (q2 r args).V := by
  unfold q2 at hd ⊢
  split at hd
  · obtain ⟨h1, h2⟩ := isQu_le hd.1
    have := isBad_is hd.2
    subst this
    exact pcalls.args (k _ h2) (.cons h1 (.cons (.refl _) .nil))
  · exact hd.elim
def TD : Tab := TC.add 43 fun a _ => q2 (fun l => num (ixG badP l 0)) a
theorem TD_ok : TD.ok P0 := Tab.add_fun TC_ok Try.call43 (q2_fun ixFunc43_ok)
@[simp] theorem TD_dom43 : TD.dom 43 = true := rfl
@[simp] theorem TD_ev43 (a : List PV) (σ : Heap) : TD.ev 43 a σ = q2 (fun l => num (ixG badP l 0)) a := rfl
theorem contF30_ok (l : List Pk) (hl : okQ l) : PFun P0 30 [encQ false l, .fn (.func 31) [] []] (bo (l.any badP)) := by
  refine pcalls_body Try.func30 rfl rfl rfl (by show 2 ≤ _; decide) (pwp_go TD_ok ?_)
  have := ixG_any badP l 0
  simp [hl, this]

/-! ### Comparing links -/
def cmpI (x y : Int) : Int := if x < y then -1 else if y < x then 1 else 0
theorem cmp44_ok (x y : Int) : PFun P0 44 [num x, num y] (num (cmpI x y)) := by
  refine pcalls_body Try.func44 rfl rfl rfl (by show 2 ≤ _; decide) (pwp_go TB_ok ?_)
  unfold cmpI
  by_cases h1 : x < y
  · simp [h1]
  · by_cases h2 : y < x
    · simp [h1, h2]
    · simp [h1, h2]
def cmpL (x y : Lk) : Int := if cmpI x.1 y.1 ≠ 0 then cmpI x.1 y.1 else cmpI x.2 y.2
theorem cmpL_ge {x y : Lk} : decide (0 ≤ cmpL x y) = !ltL x y := by
  unfold cmpL cmpI ltL
  by_cases a1 : x.1 < y.1
  · simp [a1]
  · by_cases a2 : y.1 < x.1
    · have : ¬ x.1 = y.1 := by omega
      simp [a1, a2, this]
    · have : x.1 = y.1 := by omega
      by_cases a3 : x.2 < y.2
      · simp [a1, a2, a3, this]
      · by_cases a4 : y.2 < x.2
        · simp [a1, a2, a3, a4, this]
        · simp [a1, a2, a3, a4, this]
def TE : Tab := (TD.add 44 fun a _ => i2 (fun x y => num (cmpI x y)) a).add 30 fun a _ => q2 (fun l => bo (l.any badP)) a
theorem TE_ok : TE.ok P0 := Tab.add_fun (Tab.add_fun TD_ok Try.call44 (i2_fun cmp44_ok)) Try.call30 (q2_fun contF30_ok)
@[simp] theorem TE_dom44 : TE.dom 44 = true := rfl
@[simp] theorem TE_ev44 (a : List PV) (σ : Heap) : TE.ev 44 a σ = i2 (fun x y => num (cmpI x y)) a := rfl
def two2 (x : Lk) : PV := .slice true [[num x.1], [num x.2]]
theorem compare33_ok (x y : Lk) : PFun P0 33 [two2 x, two2 y] (num (cmpL x y)) := by
  refine pcalls_body Try.func33 rfl rfl rfl (by show 2 ≤ _; decide) (pwp_go TE_ok ?_)
  unfold two2
  simp
  refine pwp_loop (fun N fr σ => ∃ k : Nat, N = 2 - k ∧ k ≤ 2 ∧ fr 0 = two2 x ∧ fr 1 = two2 y ∧ fr 9 = two2 x ∧ fr 10 = num 2 ∧ fr 11 = num k ∧ (1 ≤ k → cmpI x.1 y.1 = 0) ∧ (2 ≤ k → cmpI x.2 y.2 = 0))
    (N := 2) ⟨0, by simp [two2]⟩ ?_
  rintro N fr σ ⟨k, rfl, hk, e0, e1, e9, e10, e11, i1, i2⟩
  refine pwp_go TE_ok ?_
  unfold two2 at e0 e1 e9
  rcases (show k = 0 ∨ k = 1 ∨ k = 2 by omega) with rfl | rfl | rfl
  · by_cases hz : cmpI x.1 y.1 = 0
    · simp [e0, e1, e9, e10, e11, hz, two2]
      exact ⟨1, by omega, 1, rfl, by omega, by decide, by simp⟩
    · simp [e0, e1, e9, e10, e11, hz, cmpL]
  · have z1 := i1 (by omega)
    by_cases hz : cmpI x.2 y.2 = 0
    · simp [e0, e1, e9, e10, e11, hz, two2]
      exact ⟨2, by omega, by omega, by decide, fun _ => z1⟩
    · simp [e0, e1, e9, e10, e11, hz, cmpL, z1]
  · have z1 := i1 (by omega)
    have z2 := i2 (by omega)
    simp [e0, e1, e9, e10, e11, cmpL, z1, z2]
def c2 : List PV → EV
  | [.slice true [[.lit (.int .i64 a)], [.lit (.int .i64 b)]], .slice true [[.lit (.int .i64 c)], [.lit (.int .i64 d)]]] => ⟨True, num (cmpL (a, b) (c, d))⟩
  | _ => .no
@[simp] theorem c2_mk (a b c d : Int) : c2 [.slice true [[num a], [num b]], .slice true [[num c], [num d]]] = ⟨True, num (cmpL (a, b) (c, d))⟩ := rfl
theorem c2_fun (args : List PV) (hd : (c2 args).D) : PFun P0 33 args (c2 args).V := by
  unfold c2 at hd ⊢
  split at hd
  · rename_i a b c d
    exact compare33_ok (a, b) (c, d)
  · exact hd.elim
def TF : Tab := TE.add 33 fun a _ => c2 a
theorem TF_ok : TF.ok P0 := Tab.add_fun TE_ok Try.call33 c2_fun
@[simp] theorem TF_dom33 : TF.dom 33 = true := rfl
@[simp] theorem TF_dom30 : TF.dom 30 = true := rfl
@[simp] theorem TF_dom32 : TF.dom 32 = true := rfl
@[simp] theorem TF_dom29 : TF.dom 29 = true := rfl
@[simp] theorem TF_dom34 : TF.dom 34 = true := rfl
@[simp] theorem TF_ev33 (a : List PV) (σ : Heap) : TF.ev 33 a σ = c2 a := rfl
@[simp] theorem TF_ev30 (a : List PV) (σ : Heap) : TF.ev 30 a σ = q2 (fun l => bo (l.any badP)) a := rfl
@[simp] theorem TF_ev32 (a : List PV) (σ : Heap) : TF.ev 32 a σ = g1 (fun x y => bo (vL (x, y))) a := rfl
@[simp] theorem TF_ev29 (a : List PV) (σ : Heap) : TF.ev 29 a σ = p1 (fun p => bo (vP p)) a := rfl
@[simp] theorem TF_ev34 (a : List PV) (σ : Heap) : TF.ev 34 a σ = i1 (fun x => bo (decide (0 ≤ x) && decide (x < 16))) a := rfl
end Go.Proofs.Ytgcoikbgpkfcnaa
