/-
  Sizing: what the functions compute, part I: the reference's prices and lots of least cost.
-/
import Derived.Test.YtccjejfdhhnhjaaSzH
set_option linter.unusedSimpArgs false
set_option linter.unusedVariables false
namespace Go.Proofs.Ytccjejfdhhnhjaa
open Go.Lo

def rowI (l : List Int) : List (List PV) := l.map fun x => [num x]
theorem rowI_one (l : List Int) : ∀ r ∈ rowI l, r.length = 1 := fun r hr => by
  obtain ⟨x, _, rfl⟩ := List.mem_map.1 hr; rfl
theorem rowI_flat (l : List Int) : (rowI l).flatten = l.map num := by
  unfold rowI
  induction l with
  | nil => rfl
  | cons x l ih => simp [ih]
/-- Reading a list that grows. -/
theorem own_read {σ : Heap} {v : PV} {l : List Int} (h : Own 1 σ v (rowI l)) : ∃ pp : Nat → PV, ∀ i (hi : i < l.length), IAx (some (none, 1, false)) v (num (i : Int)) = ⟨True, pp i⟩ ∧ avt (pp i) = True ∧ sv (pp i) = pp i ∧ Lx (some (1, false)) σ (pp i) = ⟨True, num l[i]⟩ := by
  obtain ⟨_, h | ⟨id, fl, h1, h2⟩ | h⟩ := h
  · refine ⟨fun _ => .any, fun i hi => ?_⟩
    have : l = [] := by simpa [rowI] using h.2
    subst this; simp at hi
  · refine ⟨fun i => .ptr id i, fun i hi => ?_⟩
    subst h1
    rw [rowI_flat] at h2
    have hl : (rowI l).length = l.length := by simp [rowI]
    refine ⟨?_, rfl, rfl, ?_⟩
    · simp [hl, hi]
    · simp [h2, hi]
  · refine ⟨fun i => .ref [num (l.getD i 0)], fun i hi => ?_⟩
    subst h
    refine ⟨?_, rfl, rfl, ?_⟩
    · simp [rowI, hi]
    · simp [hi]

/-! ### Prices -/
theorem Ok.price {need : List Int} {s h : Int} (H : Ok need s h) : ∀ t, t ≤ 16 → 0 ≤ price (nf need) s h t ∧ price (nf need) s h t ≤ 281474977759232 := by
  intro t ht
  refine ⟨price_nonneg H.nonneg H.paid.s.1 H.paid.h.1 t, ?_⟩
  rcases Nat.eq_zero_or_pos t with rfl | h0
  · rw [price_zero]; omega
  · have h1 := price_le (nf need) s h h0
    have h2 := H.lot 0 t ht
    rw [price_zero] at h1; omega
def pricesL (need : List Int) (s h : Int) : List Int := (List.range need.length).map fun t => price (nf need) s h (t + 1)
theorem pricesL_length (need : List Int) (s h : Int) : (pricesL need s h).length = need.length := by simp [pricesL]
theorem prL_eq (need : Nat → Int) (s h : Int) (t : Nat) : prL need s h t = (List.range (t + 1)).map (price need s h) := by
  refine List.ext_getElem? fun i => ?_
  rcases Nat.lt_or_ge i (t + 1) with hi | hi
  · have h1 := prL_get need s h t i (by omega)
    rw [List.getD_eq_getElem?_getD, List.getElem?_eq_getElem (by rw [prL_length]; exact hi)] at h1
    rw [List.getElem?_eq_getElem (by rw [prL_length]; exact hi)]
    simp [hi]
    simpa using h1
  · rw [List.getElem?_eq_none (by rw [prL_length]; exact hi), List.getElem?_eq_none (by simpa using hi)]

def btE : List PV → EV
  | [a, .lit (.int .i64 s), .lit (.int .i64 h), .lit (.int .i64 x), .lit (.int .i64 y)] => ⟨isI a ∧ Ok (decI a) s h ∧ 0 ≤ x ∧ x ≤ y ∧ y < (decI a).length, num (lotC (nf (decI a)) s h x.toNat (y.toNat + 1))⟩
  | _ => .no
@[simp] theorem btE_mk (a : PV) (s h x y : Int) : btE [a, num s, num h, num x, num y] = ⟨isI a ∧ Ok (decI a) s h ∧ 0 ≤ x ∧ x ≤ y ∧ y < (decI a).length, num (lotC (nf (decI a)) s h x.toNat (y.toNat + 1))⟩ := rfl
theorem btE_fun (args : List PV) (hd : (btE args).D) : PFun P0 35 args (btE args).V := by
  unfold btE at hd ⊢
  split at hd
  · rename_i a s h x y
    obtain ⟨h0, h1, h2, h3, h4⟩ := hd
    obtain ⟨k1, k2⟩ := isI_le h0
    have := between35_ok (decI a) s h h1 x.toNat y.toNat (by omega) (by omega)
    rw [show ((x.toNat : Nat) : Int) = x by omega, show ((y.toNat : Nat) : Int) = y by omega] at this
    exact pcalls.args this (.cons k1 (.cons (.refl _) (.cons (.refl _) (.cons (.refl _) (.cons (.refl _) .nil)))))
  · exact hd.elim
def TP : Tab := Tab.nil.add 35 fun a _ => btE a
theorem TP_ok : TP.ok P0 := Tab.add_fun n_ok Try.call35 btE_fun
@[simp] theorem TP_dom35 : TP.dom 35 = true := rfl
@[simp] theorem TP_ev35 (a : List PV) (σ : Heap) : TP.ev 35 a σ = btE a := rfl

theorem prices27_raw (need : List Int) (s h : Int) (H : Ok need s h) (hl : need.length ≤ maxLen) : pcalls P0 27 [encI false need, num s, num h] Heap.empty fun o σ' => (∃ full, o = .val (.slice full (rowI (pricesL need s h)))) ∨
    (∃ id full, o = .val (.msl id 1 1 need.length full) ∧ σ' id = some (.cells (rowI (prL (nf need) s h need.length)).flatten)) := by
  have hf := H.few
  refine pcalls_body Try.func27 rfl rfl rfl (by show 3 ≤ _; decide) (pwp_go TP_ok ?_)
  simp
  refine pwp_loop (fun N fr σ => ∃ (t : Nat) (v : PV), N = need.length - t ∧ t ≤ need.length ∧ fr 0 = encI false need ∧ fr 1 = num s ∧ fr 2 = num h ∧ fr 7 = v ∧ fr 8 = num t ∧ Own 1 σ v (rowI (prL (nf need) s h t)))
    (N := need.length) ⟨0, .slice true [[num 0]], by simp; show Own 1 _ (.slice true (rowI [0])) (rowI [0]); exact Own.full 1 _ (rowI_one [0])⟩ ?_
  rintro N fr σ ⟨t, v, rfl, ht, e0, e1, e2, e7, e8, ho⟩
  refine pwp_go TP_ok ?_
  obtain ⟨o1, o2⟩ := ho.sv
  obtain ⟨pp, hpp⟩ := own_read ho
  have hpl : (prL (nf need) s h t).length = t + 1 := prL_length _ _ _ _
  have hread : ∀ i, i ≤ t → IAx (some (none, 1, false)) v (num (i : Int)) = ⟨True, pp i⟩ ∧ avt (pp i) = True ∧ sv (pp i) = pp i ∧ Lx (some (1, false)) σ (pp i) = ⟨True, num (price (nf need) s h i)⟩ := fun i hi => by
    have := hpp i (by omega)
    rw [← prL_get (nf need) s h t i hi, List.getD_eq_getElem?_getD, List.getElem?_eq_getElem (by omega)]
    exact this
  by_cases hlt : t < need.length
  · have w5 := wrap_succ (k := t) (by omega)
    simp [e0, e1, e2, e7, e8, hlt]
    refine pwp_drawT TP_ok 9 mixed (by kernel_rfl) ?_
    obtain ⟨r1, r2, r3, r4⟩ := hread 0 (by omega)
    have b1 := H.price 0 (by omega)
    have b2 := H.lot 0 (t + 1) (by omega)
    have w1 : IntKind.i64.wrap (price (nf need) s h 0 + lotC (nf need) s h 0 (t + 1)) = price (nf need) s h 0 + lotC (nf need) s h 0 (t + 1) := wrap_i64 (by omega) (by omega)
    have r1' : IAx (some (none, 1, false)) v (num 0) = ⟨True, pp 0⟩ := r1
    simp [e0, e1, e2, e7, e8, hlt, o1, o2, r1', r2, r3, r4, H, hl, w1]
    refine pwp_loop (fun N fr σ' => ∃ c : Nat, N = t + 1 - c ∧ 1 ≤ c ∧ c ≤ t + 1 ∧ fr 0 = encI false need ∧ fr 1 = num s ∧ fr 2 = num h ∧ fr 7 = v ∧ fr 8 = num t ∧ fr 9 = num (minF (fun s' => price (nf need) s h s' + lotC (nf need) s h s' (t + 1)) (c - 1)) ∧ fr 10 = num c ∧ σ' = σ)
      (N := t) ⟨1, by simp [e0, e1, e2, e7, e8, minF]⟩ ?_
    clear e0 e1 e2 e7 e8
    rintro N fr σ' ⟨c, rfl, hc1, hc2, e0, e1, e2, e7, e8, e9, e10, rfl⟩
    refine pwp_go TP_ok ?_
    by_cases hct : c ≤ t
    · obtain ⟨r1, r2, r3, r4⟩ := hread c hct
      have b1 := H.price c (by omega)
      have b2 := H.lot c (t + 1) (by omega)
      have w1 : IntKind.i64.wrap (price (nf need) s h c + lotC (nf need) s h c (t + 1)) = price (nf need) s h c + lotC (nf need) s h c (t + 1) := wrap_i64 (by omega) (by omega)
      have w6 := wrap_succ (k := c) (by omega)
      simp [e0, e1, e2, e7, e8, e9, e10, hct]
      refine pwp_drawT TP_ok 13 mixed (by kernel_rfl) ?_
      simp [e0, e1, e2, e7, e8, e9, e10, hlt, hct, o1, o2, r1, r2, r3, r4, H, hl, w1, w6]
      refine ⟨t + 1 - (c + 1), by omega, c + 1, rfl, by omega, by omega, ?_, by omega⟩
      obtain ⟨k, rfl⟩ : ∃ k, c = k + 1 := ⟨c - 1, by omega⟩
      rfl
    · have hct' : c = t + 1 := by omega
      subst hct'
      have hn1 : ¬ ((t : Int) + 1 ≤ t) := by omega
      simp [e0, e1, e2, e7, e8, e9, e10, hn1, o1, o2]
      refine own_append (k := 1) (b := 8) (rows := rowI (prL (nf need) s h t)) (new := [[num (price (nf need) s h (t + 1))]]) (zs := [num 0]) ho elem22 (by decide) rfl (by decide) isl22 (by
        rw [price_succ]; exact ⟨fun r hr => by simp at hr; subst hr; rfl, rfl, rfl⟩) (by simp [isCell1]) (by simp [rowI, hpl]; omega) ?_
      intro V σ2 hV hK _
      obtain ⟨v1, v2⟩ := hV.sv
      simp [e0, e1, e2, e8, v1, v2, w5]
      refine ⟨need.length - (t + 1), by omega, t + 1, rfl, by omega, by omega, ?_⟩
      have e : rowI (prL (nf need) s h t) ++ [[num (price (nf need) s h (t + 1))]] = rowI (prL (nf need) s h (t + 1)) := by
        rw [prL_eq, prL_eq, List.range_succ (n := t + 1)]; simp [rowI]
      rw [e] at hV
      exact hV
  · have htn : t = need.length := by omega
    subst htn
    have hrl : (rowI (prL (nf need) s h need.length)).length = need.length + 1 := by simp [rowI, hpl]
    have hdrop : (rowI (prL (nf need) s h need.length)).drop 1 = rowI (pricesL need s h) := by
      rw [prL_eq]
      simp only [rowI, pricesL, List.range_succ_eq_map, List.map_cons, List.drop_succ_cons, List.drop_zero, List.map_map]
      rfl
    rcases ho.2 with ⟨_, hnil⟩ | ⟨id, full, rfl, hs⟩ | rfl
    · rw [hnil] at hrl; simp at hrl
    · simp [e0, e1, e2, e7, e8, hrl]
      exact ⟨by omega, hs⟩
    · simp [e0, e1, e2, e7, e8, hrl]
      refine ⟨⟨by omega, rowI_one _⟩, ?_⟩
      rw [← List.drop_one, hdrop, List.take_of_length_le (by simp [rowI, pricesL])]
theorem prices27_ok (need : List Int) (s h : Int) (H : Ok need s h) (hl : need.length ≤ maxLen) : PFun P0 27 [encI false need, num s, num h] (encI false (pricesL need s h)) := by
  refine pcalls.weak (pcalls_frz ((prices27_raw need s h H hl).mono ?_))
  rintro o σ' (⟨full, rfl⟩ | ⟨id, full, rfl, hs⟩)
  · exact ⟨0, Heap.empty, Frz.none, rowI (pricesL need s h), full, rfl, rfl⟩
  · have hlen : (rowI (prL (nf need) s h need.length)).flatten.length = need.length + 1 := by rw [rowI_flat]; simp [prL_length]
    refine ⟨1, Heap.empty.set id (.cells (rowI (prL (nf need) s h need.length)).flatten), Frz.set Frz.none hs, rowI (pricesL need s h), full, rfl, ?_⟩
    have hm : (((rowI (prL (nf need) s h need.length)).flatten.drop 1).map fun x => x) = rowP need.length fun t => num (price (nf need) s h (t + 1)) := by
      rw [List.map_id', rowI_flat, prL_eq, List.range_succ_eq_map]
      simp only [List.map_cons, List.drop_succ_cons, List.drop_zero, List.map_map, rowP]
      rfl
    simp only [frzO, frzN]
    rw [Heap.set_at, if_pos (by simp)]
    simp only
    rw [if_pos (by omega), hm, chunks_row]
    simp [rowI, pricesL]

/-! ### Same -/
def sameE : List PV → EV
  | [.agg [a, .lit (.int .i64 c), p], .agg [a', .lit (.int .i64 c'), p']] => ⟨(isI a ∧ isI p) ∧ isI a' ∧ isI p', bo (decide (decI a = decI a') && decide (c = c') && decide (decI p = decI p'))⟩
  | _ => .no
@[simp] theorem sameE_mk (a p a' p' : PV) (c c' : Int) : sameE [.agg [a, num c, p], .agg [a', num c', p']] = ⟨(isI a ∧ isI p) ∧ isI a' ∧ isI p', bo (decide (decI a = decI a') && decide (c = c') && decide (decI p = decI p'))⟩ := rfl
theorem same14_ok (a p a' p' : List Int) (c c' : Int) (h1 : a.length ≤ maxLen) (h2 : p.length ≤ maxLen) (h3 : a'.length ≤ maxLen) (h4 : p'.length ≤ maxLen) :
    PFun P0 14 [.agg [encI false a, num c, encI false p], .agg [encI false a', num c', encI false p']] (bo (decide (a = a') && decide (c = c') && decide (p = p'))) := by
  refine pcalls_body Try.func14 rfl rfl rfl (by show 2 ≤ _; decide) (pwp_go TB_ok ?_)
  by_cases e1 : a = a'
  · by_cases e2 : c = c'
    · simp (config := { contextual := true }) [h1, h2, h3, h4, e1, e2]
    · simp (config := { contextual := true }) [h1, h2, h3, h4, e1, e2]
  · simp (config := { contextual := true }) [h1, h2, h3, h4, e1]
theorem sameE_fun (args : List PV) (hd : (sameE args).D) : PFun P0 14 args (sameE args).V := by
  unfold sameE at hd ⊢
  split at hd
  · rename_i a c p a' c' p'
    obtain ⟨⟨k1, k2⟩, k3, k4⟩ := hd
    obtain ⟨l1, m1⟩ := isI_le k1
    obtain ⟨l2, m2⟩ := isI_le k2
    obtain ⟨l3, m3⟩ := isI_le k3
    obtain ⟨l4, m4⟩ := isI_le k4
    exact pcalls.args (same14_ok _ _ _ _ c c' m1 m2 m3 m4) (.cons (.agg (.cons l1 (.cons (.refl _) (.cons l2 .nil)))) (.cons (.agg (.cons l3 (.cons (.refl _) (.cons l4 .nil)))) .nil))
  · exact hd.elim
end Go.Proofs.Ytccjejfdhhnhjaa
