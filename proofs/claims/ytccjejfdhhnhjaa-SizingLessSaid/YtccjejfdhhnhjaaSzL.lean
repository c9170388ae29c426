/-
  Sizing: what the functions compute, part L: Size; one table of all; sane.
-/
import Derived.Test.YtccjejfdhhnhjaaSzK
set_option linter.unusedSimpArgs false
set_option linter.unusedVariables false
namespace Go.Proofs.Ytccjejfdhhnhjaa
open Go.Lo

theorem size12_ok (need : List Int) (s h : Int) (hl : need.length ≤ maxLen) : PFun P0 12 [encI false need, num s, num h] (sizeR need s h) := by
  by_cases hv : validS need s h = true
  · have H := ok_of hv
    have hf := H.few
    refine pcalls.wk (pcalls_frz ((size12_raw need s h hl hv).mono ?_))
    rintro o σ' ⟨id, id2, full, rfl, hne, h1, g, h2, hg⟩
    refine ⟨3, (Heap.empty.set id (.cells (rowP need.length fun d => num (lotsTo (nf need) (bestS need s h) need.length d)))).set id2 (.cells (rowP 17 g)), Frz.set (Frz.set Frz.none h1) h2, ?_⟩
    have e1 : ∀ (n : Nat) (σ : Heap), (rowP need.length fun d => num (lotsTo (nf need) (bestS need s h) need.length d)).map (frzN n σ) = rowP need.length fun d => num (lotsTo (nf need) (bestS need s h) need.length d) := fun n σ => by rw [rowP_map]; exact rowP_congr fun i _ => frzN_num n σ _
    have e2 : ∀ (n : Nat) (σ : Heap), chunks 1 need.length (((rowP 17 g).drop 1).map (frzN n σ)) = (pricesL need s h).map fun x => [num x] := fun n σ => by
      unfold chunks pricesL
      rw [List.map_map]
      refine List.map_congr_left fun i hi => ?_
      have hi := List.mem_range.1 hi
      have hlen : i < ((List.drop 1 (rowP 17 g)).map (frzN n σ)).length := by simp; omega
      rw [Nat.mul_one, List.drop_eq_getElem_cons hlen]
      simp only [List.getElem_map, List.getElem_drop, rowP_getElem, List.take_succ_cons, List.take_zero, Function.comp]
      rw [hg (1 + i) (by omega), Nat.add_comm 1 i]; simp
    refine ⟨.tup [.agg [encI true (lotsL need (bestS need s h)), num (price (nf need) s h need.length), encI full (pricesL need s h)], num 0], ?_, ?_⟩
    · have e3 : ((List.range need.length).map fun i => [num (lotsTo (nf need) (bestS need s h) need.length i)]) = (lotsL need (bestS need s h)).map fun x => [num x] := by simp [lotsL]
      simp only [frzO, frzN_tup, frzN_agg, List.map_cons, List.map_nil, frzN_msl, frzN_num, frzN_zero]
      rw [Heap.set_at, Heap.set_at, Heap.set_at, if_neg (show ¬ SameId id id2 from hne), if_pos (show SameId id id from rfl), if_pos (show SameId id2 id2 from rfl)]
      simp only [cellsO_some, FZM_some, e1, List.drop_zero, e2]
      rw [if_pos (by simp), if_pos (by simp; omega), chunks_row, e3]
      rfl
    · unfold sizeR
      rw [if_pos hv]
      exact .tup (.cons (.agg (.cons (.refl _) (.cons (.refl _) (.cons (PLe.encI_full _ _) .nil)))) (.cons (.refl _) .nil))
  · refine pcalls_body Try.func12 rfl rfl rfl (by show 3 ≤ _; decide) (pwp_go TR_ok ?_)
    unfold sizeR
    simp (config := { contextual := true }) [hl, hv, nilS]

/-! ### One table -/
def TT : Tab := ((((((((TB.add 12 fun a _ => e3 (fun l s h => ⟨True, sizeR l s h⟩) a).add 13 fun a _ => e3 (fun l s h => ⟨True, sizeR l s h⟩) a).add 14 fun a _ => sameE a).add 15 fun a _ => e2 (fun l m => ⟨True, coverR l m⟩) a).add 16 fun a _ => e2 (fun l m => ⟨True, coverR l m⟩) a).add 17 fun a _ => e4 (fun l m s h => ⟨True, costR l m s h⟩) a).add 18 fun a _ => e4 (fun l m s h => ⟨True, costR l m s h⟩) a).add 20 fun a _ => ofE a)
theorem TT_ok : TT.ok P0 := by
  refine Tab.add_fun (Tab.add_fun (Tab.add_fun (Tab.add_fun (Tab.add_fun (Tab.add_fun (Tab.add_fun (Tab.add_fun TB_ok Try.call12 ?_) Try.call13 ?_) Try.call14 sameE_fun) Try.call15 ?_) Try.call16 ?_) Try.call17 ?_) Try.call18 ?_) Try.call20 ofE_fun
  · exact e3_fun fun l s h hl _ => size12_ok l s h hl
  · exact e3_fun fun l s h hl _ => size13_ok l s h hl
  · exact e2_fun fun l m hl hm _ => covers15_ok l m hl hm
  · exact e2_fun fun l m hl hm _ => covers16_ok l m hl hm
  · exact e4_fun fun l m s t hl hm _ => cost17_ok l m s t hl hm
  · exact e4_fun fun l m s t hl hm _ => cost18_ok l m s t hl hm
@[simp] theorem TT_dom11 : TT.dom 11 = true := rfl
@[simp] theorem TT_dom12 : TT.dom 12 = true := rfl
@[simp] theorem TT_dom13 : TT.dom 13 = true := rfl
@[simp] theorem TT_dom14 : TT.dom 14 = true := rfl
@[simp] theorem TT_dom15 : TT.dom 15 = true := rfl
@[simp] theorem TT_dom16 : TT.dom 16 = true := rfl
@[simp] theorem TT_dom17 : TT.dom 17 = true := rfl
@[simp] theorem TT_dom18 : TT.dom 18 = true := rfl
@[simp] theorem TT_dom19 : TT.dom 19 = true := rfl
@[simp] theorem TT_dom20 : TT.dom 20 = true := rfl
@[simp] theorem TT_dom21 : TT.dom 21 = true := rfl
@[simp] theorem TT_ev11 (a : List PV) (σ : Heap) : TT.ev 11 a σ = e1 (fun l => ⟨True, bo (fewS l)⟩) a := rfl
@[simp] theorem TT_ev12 (a : List PV) (σ : Heap) : TT.ev 12 a σ = e3 (fun l s h => ⟨True, sizeR l s h⟩) a := rfl
@[simp] theorem TT_ev13 (a : List PV) (σ : Heap) : TT.ev 13 a σ = e3 (fun l s h => ⟨True, sizeR l s h⟩) a := rfl
@[simp] theorem TT_ev14 (a : List PV) (σ : Heap) : TT.ev 14 a σ = sameE a := rfl
@[simp] theorem TT_ev15 (a : List PV) (σ : Heap) : TT.ev 15 a σ = e2 (fun l m => ⟨True, coverR l m⟩) a := rfl
@[simp] theorem TT_ev16 (a : List PV) (σ : Heap) : TT.ev 16 a σ = e2 (fun l m => ⟨True, coverR l m⟩) a := rfl
@[simp] theorem TT_ev17 (a : List PV) (σ : Heap) : TT.ev 17 a σ = e4 (fun l m s h => ⟨True, costR l m s h⟩) a := rfl
@[simp] theorem TT_ev18 (a : List PV) (σ : Heap) : TT.ev 18 a σ = e4 (fun l m s h => ⟨True, costR l m s h⟩) a := rfl
@[simp] theorem TT_ev19 (a : List PV) (σ : Heap) : TT.ev 19 a σ = e3 (fun l s h => ⟨True, bo (validS l s h)⟩) a := rfl
@[simp] theorem TT_ev20 (a : List PV) (σ : Heap) : TT.ev 20 a σ = ofE a := rfl
@[simp] theorem TT_ev21 (a : List PV) (σ : Heap) : TT.ev 21 a σ = e2 (fun l m => ⟨True, bo (decide (l = m))⟩) a := rfl

/-! ### sane -/
def rowsOk : List (List PV) → Prop
  | [] => True
  | [.lit (.int .i64 _)] :: r => rowsOk r
  | _ => False
@[simp] theorem rowsOk_nil : rowsOk [] = True := (rfl)
@[simp] theorem rowsOk_cons (x : Int) (r : List (List PV)) : rowsOk ([num x] :: r) = rowsOk r := (rfl)
theorem rowsOk_iff : ∀ rows, rowsOk rows → ∃ l : List Int, rows = l.map (fun x => [num x]) := by
  intro rows
  induction rows with
  | nil => exact fun _ => ⟨[], rfl⟩
  | cons r rows ih =>
    intro h
    unfold rowsOk at h
    split at h
    · rename_i e; cases e
    · rename_i x r' e
      cases e
      obtain ⟨l, hl⟩ := ih h
      exact ⟨x :: l, by rw [hl]; rfl⟩
    · exact h.elim
theorem isI_rows {b : Bool} {rows : List (List PV)} (h : rowsOk rows) (hl : rows.length ≤ maxLen) : isI (.slice b rows) = True := by
  obtain ⟨l, rfl⟩ := rowsOk_iff rows h
  exact eq_true ⟨l, rfl, by simpa using hl⟩
theorem isI_few {b : Bool} {rows : List (List PV)} (h : rowsOk rows) (hl : rows.length ≤ 1000) : isI (.slice b rows) = True := isI_rows h (Nat.le_trans hl (by decide))
@[simp] theorem decI_cons (b : Bool) (x : Int) (r : List (List PV)) : decI (.slice b ([num x] :: r)) = x :: decI (.slice b r) := rfl
@[simp] theorem decI_snil (b : Bool) : decI (.slice b []) = [] := rfl

def bestFu (need : Nat → Int) (s h : Int) : Nat → Nat → Nat → Bool
  | 0, _, _ => false
  | n + 1, t, d => match pick need s h t with
    | none => false
    | some r => d == r || bestFu need s h n r d
theorem bestFu_eq (need : Nat → Int) (s h : Int) : ∀ n t, t ≤ n → ∀ d, bestFu need s h n t d = best need s h t d := by
  intro n
  induction n with
  | zero =>
    intro t ht d
    have : t = 0 := by omega
    subst this
    exact (best_none rfl d).symm
  | succ n ih =>
    intro t ht d
    simp only [bestFu]
    cases hp : pick need s h t with
    | none => exact (best_none hp d).symm
    | some r =>
      have := pick_lt hp
      rw [best_some hp, ← ih r (by omega)]
theorem sizeR_eval {need L Q : List Int} {s h c : Int} (hv : validS need s h = true) (h1 : lotsL need (bestFu (nf need) s h need.length need.length) = L) (h2 : price (nf need) s h need.length = c) (h3 : pricesL need s h = Q) :
    sizeR need s h = .tup [.agg [encI true L, num c, encI false Q], num 0] := by
  unfold sizeR
  have e : bestFu (nf need) s h need.length need.length = bestS need s h := funext fun d => bestFu_eq _ _ _ _ _ (Nat.le_refl _) d
  rw [if_pos hv, ← h1, ← h2, ← h3, e]
theorem san1 : sizeR [] 5 1 = .tup [.agg [encI true [], num 0, encI false []], num 0] := sizeR_eval (by decide) (by decide +kernel) (by decide +kernel) (by decide +kernel)
theorem san2 : sizeR [0, 3] 5 1 = .tup [.agg [encI true [0, 3], num 5, encI false [0, 5]], num 0] := sizeR_eval (by decide) (by decide +kernel) (by decide +kernel) (by decide +kernel)
theorem san3 : sizeR [2, 3] 5 1 = .tup [.agg [encI true [5, 0], num 8, encI false [5, 8]], num 0] := sizeR_eval (by decide) (by decide +kernel) (by decide +kernel) (by decide +kernel)
theorem san4 : sizeR [2, 0, 3] 5 2 = .tup [.agg [encI true [2, 0, 3], num 10, encI false [5, 5, 10]], num 0] := sizeR_eval (by decide) (by decide +kernel) (by decide +kernel) (by decide +kernel)
theorem san5 : sizeR [-1] 0 0 = .tup [.agg [nilS, num 0, nilS], num 220] := by unfold sizeR; rw [if_neg (by decide)]
theorem san6 : coverR [2, 3] [1, 9] = .tup [bo false, num 0] := by unfold coverR; rw [if_pos (by decide), show coversS [2, 3] [1, 9] = false by decide +kernel]
theorem san7 : coverR [2] [] = .tup [bo false, num 220] := by unfold coverR; rw [if_neg (by decide)]
theorem san8 : costR [2, 3] [3, 3] 5 2 = .tup [num 14, num 0] := by
  unfold costR
  rw [if_pos (by decide +kernel)]
  have : C_ ([2, 3] : List Int) [3, 3] 5 2 ([3, 3] : List Int).length = 14 := by decide +kernel
  exact congrArg (fun x => PV.tup [num x, num 0]) this
theorem san9 : costR [2, 3] [1, 9] 5 2 = .tup [num 0, num 220] := by unfold costR; rw [if_neg (by decide +kernel)]

end Go.Proofs.Ytccjejfdhhnhjaa
