/-
  Prices: what the functions compute, part V: the reference's Check; one table of all; sane.
-/
import Derived.Test.YtnnablbdakomlaaPrU
set_option linter.unusedSimpArgs false
set_option linter.unusedVariables false
namespace Go.Proofs.Ytnnablbdakomlaa
open Go.Lo

def k5 (r : List Int → Int → Int → List Int → Int → List Int → EV) (args : List PV) : EV := match args with
  | [a, .lit (.int .i64 s), .lit (.int .i64 h), .agg [L, .lit (.int .i64 c), p]] => ⟨(isI a ∧ isI L ∧ isI p) ∧ (r (decI a) s h (decI L) c (decI p)).D, (r (decI a) s h (decI L) c (decI p)).V⟩
  | _ => .no
@[simp] theorem k5_mk (r : List Int → Int → Int → List Int → Int → List Int → EV) (a L p : PV) (s h c : Int) : k5 r [a, num s, num h, .agg [L, num c, p]] = gEV (isI a ∧ isI L ∧ isI p) (r (decI a) s h (decI L) c (decI p)) := rfl
theorem k5_fun {f : FuncId} {r : List Int → Int → Int → List Int → Int → List Int → EV} (k : ∀ a s h L c p, a.length ≤ maxLen → L.length ≤ maxLen → p.length ≤ maxLen → (r a s h L c p).D → PFun P0 f [encI false a, num s, num h, .agg [encI false L, num c, encI false p]] (r a s h L c p).V) (args : List PV) (hd : (k5 r args).D) : PFun P0 f args (k5 r args).V := by
  unfold k5 at hd ⊢
  split at hd
  · obtain ⟨h1, h2⟩ := isI_le hd.1.1
    obtain ⟨h3, h4⟩ := isI_le hd.1.2.1
    obtain ⟨h5, h6⟩ := isI_le hd.1.2.2
    exact pcalls.args (k _ _ _ _ _ _ h2 h4 h6 hd.2) (.cons h1 (.cons (.refl _) (.cons (.refl _) (.cons (.agg (.cons h3 (.cons (.refl _) (.cons h5 .nil)))) .nil))))
  · exact hd.elim

def TY : Tab := (TS.add 12 fun a _ => q4 (fun a s h p => ⟨True, bndR a s h p⟩) a).add 37 fun a _ => e4 (fun l m s h => ⟨True, costR l m s h⟩) a
theorem TY_ok : TY.ok P0 := by
  refine Tab.add_fun (Tab.add_fun TS_ok Try.call12 ?_) Try.call37 ?_
  · exact q4_fun fun a s h p ha hp _ => bound12_ok a s h p ha hp
  · exact e4_fun fun l m s t hl hm _ => cost18_ok l m s t hl hm
@[simp] theorem TY_dom12 : TY.dom 12 = true := rfl
@[simp] theorem TY_dom37 : TY.dom 37 = true := rfl
@[simp] theorem TY_dom25 : TY.dom 25 = true := rfl
@[simp] theorem TY_ev12 (a : List PV) (σ : Heap) : TY.ev 12 a σ = q4 (fun a s h p => ⟨True, bndR a s h p⟩) a := rfl
@[simp] theorem TY_ev37 (a : List PV) (σ : Heap) : TY.ev 37 a σ = e4 (fun l m s h => ⟨True, costR l m s h⟩) a := rfl
@[simp] theorem TY_ev25 (a : List PV) (σ : Heap) : TY.ev 25 a σ = e3 (fun l s h => ⟨True, bo (validS l s h)⟩) a := rfl
theorem bndR_cases {a : List Int} {s h : Int} (p : List Int) (hv : validS a s h = true) : (pricedS a p = true ∧ boundS a s h p = true ∧ bndR a s h p = .tup [num (fS p a.length), bo true, num 0]) ∨ (pricedS a p = true ∧ boundS a s h p = false ∧ bndR a s h p = .tup [num 0, bo false, num 0]) ∨ (pricedS a p = false ∧ bndR a s h p = .tup [num 0, bo false, num 230]) := by
  unfold bndR
  cases pricedS a p <;> cases boundS a s h p <;> simp [hv]
theorem check17_ok (a : List Int) (s h : Int) (L : List Int) (c : Int) (p : List Int) (ha : a.length ≤ maxLen) (hL : L.length ≤ maxLen) (hp : p.length ≤ maxLen) : PFun P0 17 [encI false a, num s, num h, .agg [encI false L, num c, encI false p]] (checkR a s h L c p) := by
  refine pcalls_body Try.func17 rfl rfl rfl (by show 4 ≤ _; decide) (pwp_go TY_ok ?_)
  unfold checkR checkB lastB
  by_cases hv : validS a s h = true
  · rcases costB_cases a L s h c with ⟨n, h1, h2⟩ | ⟨h1, h2⟩
    · by_cases hz : n = c
      · rcases bndR_cases p hv with ⟨b1, b2, b3⟩ | ⟨b1, b2, b3⟩ | ⟨b1, b3⟩
        · by_cases hq : fS p a.length = c
          · simp (config := { contextual := true }) [ha, hL, hp, hv, h1, h2, hz, b1, b2, b3, hq]
          · simp (config := { contextual := true }) [ha, hL, hp, hv, h1, h2, hz, b1, b2, b3, hq]
        · simp (config := { contextual := true }) [ha, hL, hp, hv, h1, h2, hz, b1, b2, b3]
        · simp (config := { contextual := true }) [ha, hL, hp, hv, h1, h2, hz, b1, b3]
      · obtain ⟨x, y, e, b3⟩ : ∃ x y e, bndR a s h p = .tup [num x, bo y, num e] := by unfold bndR; split; split <;> exact ⟨_, _, _, rfl⟩; exact ⟨_, _, _, rfl⟩
        simp (config := { contextual := true }) [ha, hL, hp, hv, h1, h2, hz, b3]
    · obtain ⟨x, y, e, b3⟩ : ∃ x y e, bndR a s h p = .tup [num x, bo y, num e] := by unfold bndR; split; split <;> exact ⟨_, _, _, rfl⟩; exact ⟨_, _, _, rfl⟩
      simp (config := { contextual := true }) [ha, hL, hp, hv, h1, h2, b3]
  · simp (config := { contextual := true }) [ha, hL, hp, hv]

theorem has21_ok (l : List Int) (x : Int) (hl : l.length ≤ maxLen) : PFun P0 21 [encI false l, num x] (bo (l.any fun y => decide (y = x))) := by
  refine pcalls_body Try.func21 rfl rfl rfl (by show 2 ≤ _; decide) (pwp_go n_ok ?_)
  simp
  refine pwp_loop (fun N fr σ => ∃ k : Nat, N = l.length - k ∧ k ≤ l.length ∧ fr 0 = encI false l ∧ fr 1 = num x ∧ fr 5 = num k ∧ anyTo (fun y => decide (y = x)) l k = false)
    (N := l.length) ⟨0, by simp [anyTo_zero]⟩ ?_
  rintro N fr σ ⟨k, rfl, hk, e0, e1, e5, hi⟩
  refine pwp_go n_ok ?_
  unfold maxLen at hl
  by_cases hlt : k < l.length
  · have wk := wrap_succ (k := k) (by omega)
    have hs := anyTo_succ (p := fun y => decide (y = x)) hlt
    by_cases hz : l[k] = x
    · have := any_yes (p := fun y => decide (y = x)) hlt (decide_eq_true hz)
      simp [e0, e1, e5, hlt, IAx_encI, hz, this]
    · simp [e0, e1, e5, hlt, IAx_encI, hz, wk]
      exact ⟨l.length - (k + 1), by omega, k + 1, rfl, by omega, by omega, by rw [hs, hi]; simp [hz]⟩
  · rw [anyTo_all hlt] at hi
    simp [e0, e1, e5, hlt, hi]

/-! ### One table -/
noncomputable def TT : Tab := ((((((((((TX.add 11 fun a _ => q4 (fun a s h p => ⟨True, bndR a s h p⟩) a).add 12 fun a _ => q4 (fun a s h p => ⟨True, bndR a s h p⟩) a).add 13 fun a _ => q4 (fun a s h p => ⟨True, tightR a s h p⟩) a).add 14 fun a _ => q4 (fun a s h p => ⟨True, tightR a s h p⟩) a).add 16 fun a _ => k5 (fun a s h L c p => ⟨True, checkR a s h L c p⟩) a).add 17
  fun a _ => k5 (fun a s h L c p => ⟨True, checkR a s h L c p⟩) a).add 19 fun a _ => e1 (fun l => ⟨True, bo (fewS l)⟩) a).add 20 fun a _ => e3 (fun l s h => ⟨True, sizeR l s h⟩) a).add 21 fun a _ => l1 (fun l x => ⟨True, bo (l.any fun y => decide (y = x))⟩) a).add 15 fun a _ => e2 (fun l m => ⟨True, bo (decide (l = m))⟩) a).add 18 fun a _ => e4 (fun l m s h => ⟨True, costR l m s h⟩) a
theorem TT_ok : TT.ok P0 := by
  refine Tab.add_fun (Tab.add_fun (Tab.add_fun (Tab.add_fun (Tab.add_fun (Tab.add_fun (Tab.add_fun (Tab.add_fun (Tab.add_fun (Tab.add_fun (Tab.add_fun TX_ok Try.call11 ?_) Try.call12 ?_) Try.call13 ?_) Try.call14 ?_) Try.call16 ?_) Try.call17 ?_) Try.call19 ?_) Try.call20 ?_) Try.call21 ?_) Try.call15 ?_) Try.call18 ?_
  · exact q4_fun fun a s h p ha hp _ => bound11_ok a s h p ha hp
  · exact q4_fun fun a s h p ha hp _ => bound12_ok a s h p ha hp
  · exact q4_fun fun a s h p ha hp _ => tight13_ok a s h p ha hp
  · exact q4_fun fun a s h p ha hp _ => tight14_ok a s h p ha hp
  · exact k5_fun fun a s h L c p ha hL hp _ => check16_ok a s h L c p ha hL hp
  · exact k5_fun fun a s h L c p ha hL hp _ => check17_ok a s h L c p ha hL hp
  · exact e1_fun fun l hl _ => few_ok false l
  · exact e3_fun fun l s h hl _ => size12_ok l s h hl
  · exact l1_fun fun l x hl _ => has21_ok l x hl
  · exact e2_fun fun l m hl hm _ => sameInts_ok false false l m hl hm
  · exact e4_fun fun l m s t hl hm _ => cost17_ok l m s t hl hm
@[simp] theorem TT_dom11 : TT.dom 11 = true := rfl
@[simp] theorem TT_dom12 : TT.dom 12 = true := rfl
@[simp] theorem TT_dom13 : TT.dom 13 = true := rfl
@[simp] theorem TT_dom14 : TT.dom 14 = true := rfl
@[simp] theorem TT_dom15 : TT.dom 15 = true := rfl
@[simp] theorem TT_dom16 : TT.dom 16 = true := rfl
@[simp] theorem TT_dom17 : TT.dom 17 = true := rfl
@[simp] theorem TT_dom18 : TT.dom 18 = true := rfl
@[simp] theorem TT_dom19 : TT.dom 19 = true := rfl
@[simp] theorem TT_dom20 : TT.dom 20 = true := rfl
@[simp] theorem TT_dom21 : TT.dom 21 = true := rfl
@[simp] theorem TT_ev11 (a : List PV) (σ : Heap) : TT.ev 11 a σ = q4 (fun a s h p => ⟨True, bndR a s h p⟩) a := rfl
@[simp] theorem TT_ev12 (a : List PV) (σ : Heap) : TT.ev 12 a σ = q4 (fun a s h p => ⟨True, bndR a s h p⟩) a := rfl
@[simp] theorem TT_ev13 (a : List PV) (σ : Heap) : TT.ev 13 a σ = q4 (fun a s h p => ⟨True, tightR a s h p⟩) a := rfl
@[simp] theorem TT_ev14 (a : List PV) (σ : Heap) : TT.ev 14 a σ = q4 (fun a s h p => ⟨True, tightR a s h p⟩) a := rfl
@[simp] theorem TT_ev15 (a : List PV) (σ : Heap) : TT.ev 15 a σ = e2 (fun l m => ⟨True, bo (decide (l = m))⟩) a := rfl
@[simp] theorem TT_ev16 (a : List PV) (σ : Heap) : TT.ev 16 a σ = k5 (fun a s h L c p => ⟨True, checkR a s h L c p⟩) a := rfl
@[simp] theorem TT_ev17 (a : List PV) (σ : Heap) : TT.ev 17 a σ = k5 (fun a s h L c p => ⟨True, checkR a s h L c p⟩) a := rfl
@[simp] theorem TT_ev18 (a : List PV) (σ : Heap) : TT.ev 18 a σ = e4 (fun l m s h => ⟨True, costR l m s h⟩) a := rfl
@[simp] theorem TT_ev19 (a : List PV) (σ : Heap) : TT.ev 19 a σ = e1 (fun l => ⟨True, bo (fewS l)⟩) a := rfl
@[simp] theorem TT_ev20 (a : List PV) (σ : Heap) : TT.ev 20 a σ = e3 (fun l s h => ⟨True, sizeR l s h⟩) a := rfl
@[simp] theorem TT_ev21 (a : List PV) (σ : Heap) : TT.ev 21 a σ = l1 (fun l x => ⟨True, bo (l.any fun y => decide (y = x))⟩) a := rfl

/-! ### sane -/
def rowsOk : List (List PV) → Prop
  | [] => True
  | [.lit (.int .i64 _)] :: r => rowsOk r
  | _ => False
@[simp] theorem rowsOk_nil : rowsOk [] = True := (rfl)
@[simp] theorem rowsOk_cons (x : Int) (r : List (List PV)) : rowsOk ([num x] :: r) = rowsOk r := (rfl)
theorem rowsOk_iff : ∀ rows, rowsOk rows → ∃ l : List Int, rows = l.map (fun x => [num x]) := by
  intro rows
  induction rows with
  | nil => exact fun _ => ⟨[], rfl⟩
  | cons r rows ih =>
    intro h
    unfold rowsOk at h
    split at h
    · rename_i e; cases e
    · rename_i x r' e
      cases e
      obtain ⟨l, hl⟩ := ih h
      exact ⟨x :: l, by rw [hl]; rfl⟩
    · exact h.elim
theorem isI_rows {b : Bool} {rows : List (List PV)} (h : rowsOk rows) (hl : rows.length ≤ maxLen) : isI (.slice b rows) = True := by
  obtain ⟨l, rfl⟩ := rowsOk_iff rows h
  exact eq_true ⟨l, rfl, by simpa using hl⟩
theorem isI_few {b : Bool} {rows : List (List PV)} (h : rowsOk rows) (hl : rows.length ≤ 1000) : isI (.slice b rows) = True := isI_rows h (Nat.le_trans hl (by decide))
@[simp] theorem decI_cons (b : Bool) (x : Int) (r : List (List PV)) : decI (.slice b ([num x] :: r)) = x :: decI (.slice b r) := rfl
@[simp] theorem decI_snil (b : Bool) : decI (.slice b []) = [] := rfl
theorem bn1 : bndR [] 5 1 [] = .tup [num 0, bo true, num 0] := by unfold bndR; rw [if_pos (by decide), if_pos (by decide +kernel)]; rfl
theorem bn2 : bndR [3] 5 1 [5] = .tup [num 5, bo true, num 0] := by unfold bndR; rw [if_pos (by decide), if_pos (by decide +kernel)]; rfl
theorem bn3 : bndR [3] 5 1 [6] = .tup [num 0, bo false, num 0] := by unfold bndR; rw [if_pos (by decide), if_neg (by decide +kernel)]
theorem bn4 : bndR [3, 4] 5 1 [0, 0] = .tup [num 0, bo true, num 0] := by unfold bndR; rw [if_pos (by decide), if_pos (by decide +kernel)]; rfl
theorem bn5 : bndR [-1] 5 1 [0] = .tup [num 0, bo false, num 230] := by unfold bndR; rw [if_neg (by decide)]
theorem ck1 : checkR [3] 5 1 [] 0 [] = .tup [bo false, num 0] := by unfold checkR; rw [if_pos (by decide), show checkB [3] 5 1 [] 0 [] = false by decide +kernel]
theorem ck2 : checkR [3, 4, 2] 5 1 [3, 6, 0] 12 [5, 9, 12] = .tup [bo true, num 0] := by unfold checkR; rw [if_pos (by decide), show checkB [3, 4, 2] 5 1 [3, 6, 0] 12 [5, 9, 12] = true by decide +kernel]
theorem tg1 : tightR [3, 4, 2] 5 1 [5, 9, 12] = .tup [encI false [0, 1], num 0] := by unfold tightR; rw [if_pos (by decide), show tiS [3, 4, 2] 5 1 [5, 9, 12] = [0, 1] by decide +kernel]; rfl

set_option maxRecDepth 8000 in
theorem sane_ok : PFun P0 10 [] (bo true) := by
  refine pcalls_body Try.func10 rfl rfl rfl (by show 0 ≤ _; decide) (pwp_go TT_ok ?_)
  simp (config := { contextual := true }) [bn1, bn2, bn3, bn4, bn5, ck1, ck2, tg1, isI_few]
  decide
end Go.Proofs.Ytnnablbdakomlaa
