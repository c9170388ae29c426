/-
  Network: what the functions compute, part M: the reference's Cut.
-/
import Derived.Test.YtgcoikbgpkfcnaaNwL
set_option linter.unusedSimpArgs false
set_option linter.unusedVariables false
namespace Go.Proofs.Ytgcoikbgpkfcnaa
open Go.Lo

def rowsTo (P : Lk → Bool) (a b : Nat) : List Lk := (preL a b).filter P
theorem rowsTo_zero (P : Lk → Bool) : rowsTo P 0 1 = [] := by unfold rowsTo; rw [preL_zero]; rfl
theorem rowsTo_step {P : Lk → Bool} {a b : Nat} (hb : b < 16) (hab : a < b) : rowsTo P a (b + 1) = rowsTo P a b ++ if P ((a : Int), (b : Int)) then [((a : Int), (b : Int))] else [] := by
  unfold rowsTo
  rw [preL_step ⟨a, by omega⟩ ⟨b, hb⟩ hab, List.filter_append]
  congr 1
  simp only [List.filter_cons, List.filter_nil]
theorem rowsTo_row {P : Lk → Bool} {a : Nat} (ha : a < 16) : rowsTo P a 16 = rowsTo P (a + 1) (a + 2) := by
  unfold rowsTo; rw [preL_row ⟨a, ha⟩]
theorem rowsTo_all (A : List Lk) (l : Lk) (on : Bool) : rowsTo (cutP A l on) 16 17 = cutS A l on := by
  unfold rowsTo; rw [preL_all]; rfl
theorem rowsTo_few (P : Lk → Bool) (a b : Nat) : (rowsTo P a b).length ≤ 120 := by
  unfold rowsTo preL
  refine Nat.le_trans (List.length_filter_le _ _) (Nat.le_trans (List.length_filter_le _ _) ?_)
  decide +kernel
theorem vL_sides {a b : Int} : vL (btw a b) = (decide (0 ≤ a) && decide (a < 16) && (decide (0 ≤ b) && decide (b < 16)) && !decide (a = b)) := by
  rw [Bool.eq_iff_iff, vL_iff]
  simp only [btw, Bool.and_eq_true, decide_eq_true_eq, Bool.not_eq_true', decide_eq_false_iff_not]
  omega

theorem rcut21_ok (n : Nt) (a b : Int) (on : Bool) (hn : okN n) : PFun P0 21 [.agg (netC n), num a, num b, bo on] (cutR n a b on) := by
  have hq := hn.1
  have hal := hn.2
  unfold cutR
  by_cases hv : vN n = true
  · rw [if_pos hv]
    by_cases hl : vL (btw a b) = true
    · rw [if_pos hl]
      refine pcalls_ownC (m := ⟨n.q, cutS n.a (btw a b) on⟩) ?_
      refine pcalls_body Try.func21 rfl rfl rfl (by show 4 ≤ _; decide) (pwp_goK TJ_ok [13] ?_)
      rw [vL_sides] at hl
      simp only [Bool.and_eq_true, decide_eq_true_eq, Bool.not_eq_true', decide_eq_false_iff_not] at hl
      obtain ⟨⟨⟨ha0, ha1⟩, hb0, hb1⟩, hne⟩ := hl
      simp (config := { contextual := true }) [netC, hq, hal, hv, chkR, ha0, ha1, hb0, hb1, hne]
      intro id4 id8 a1
      refine pwp_loop (fun N fr σ => ∃ (i : Nat) (v : PV), N = 16 - i ∧ i ≤ 16 ∧ fr 1 = num a ∧ fr 2 = num b ∧ fr 3 = bo on ∧ fr 4 = .ptr id4 0 ∧ fr 8 = .ptr id8 0 ∧ fr 9 = num 0 ∧ fr 10 = v ∧ fr 11 = num i ∧ σ id4 = some (.cells [encQ false n.q, encA false n.a]) ∧ σ id8 = some (.cells [.lit (.slice none 0 0), .lit (.slice none 0 0)]) ∧ Own 2 σ v ((rowsTo (cutP n.a (btw a b) on) i (i + 1)).map rowL))
        (N := 16) ⟨0, .lit (.slice none 0 0), by simp [a1, rowsTo_zero, Own.nil]⟩ ?_
      rintro N fr σ ⟨i, v, rfl, hi, e1, e2, e3, e4, e8, e9, e10, e11, s4, s8, ho⟩
      refine pwp_go TJ_ok ?_
      by_cases hlt : i < 16
      · have hltI : (i : Int) < 16 := by omega
        have wa : IntKind.i64.wrap ((i : Int) + 1) = (i : Int) + 1 := wrap_i64 (by omega) (by omega)
        simp [e1, e2, e3, e4, e8, e9, e10, e11, hltI, wa]
        refine pwp_loop (fun N fr σ => ∃ (j : Nat) (v : PV), N = 16 - j ∧ i < j ∧ j ≤ 16 ∧ fr 1 = num a ∧ fr 2 = num b ∧ fr 3 = bo on ∧ fr 4 = .ptr id4 0 ∧ fr 8 = .ptr id8 0 ∧ fr 9 = num 0 ∧ fr 10 = v ∧ fr 11 = num i ∧ fr 12 = num j ∧ σ id4 = some (.cells [encQ false n.q, encA false n.a]) ∧ σ id8 = some (.cells [.lit (.slice none 0 0), .lit (.slice none 0 0)]) ∧ Own 2 σ v ((rowsTo (cutP n.a (btw a b) on) i j).map rowL))
          (N := 15 - i) ⟨i + 1, v, by simp [e1, e2, e3, e4, e8, e9, e10, e11, s4, s8, ho]; omega⟩ ?_
        clear e1 e2 e3 e4 e8 e9 e10 e11 s4 s8 ho
        rintro N fr σ ⟨j, v, rfl, hij, hj, e1, e2, e3, e4, e8, e9, e10, e11, e12, s4, s8, ho⟩
        refine pwp_go TJ_ok ?_
        by_cases hjt : j < 16
        · have hjI : (j : Int) < 16 := by omega
          have wb : IntKind.i64.wrap ((j : Int) + 1) = (j : Int) + 1 := wrap_i64 (by omega) (by omega)
          have hst := rowsTo_step (P := cutP n.a (btw a b) on) hjt hij
          have hbt : btw (i : Int) (j : Int) = ((i : Int), (j : Int)) := by unfold btw; rw [Int.min_eq_left (by omega), Int.max_eq_right (by omega)]
          have hcp : cutP n.a (btw a b) on ((i : Int), (j : Int)) = if (i : Int) = min a b ∧ (j : Int) = max a b then on else n.a.contains ((i : Int), (j : Int)) := by
            unfold cutP btw; simp [Prod.ext_iff]
          have hfew := rowsTo_few (cutP n.a (btw a b) on) i j
          obtain ⟨o1, o2⟩ := ho.sv
          by_cases hx : (i : Int) = min a b ∧ (j : Int) = max a b
          · obtain ⟨x1, x2⟩ := hx
            rw [if_pos ⟨x1, x2⟩] at hcp
            rw [hcp] at hst
            cases on with
            | true =>
              replace hst : rowsTo (cutP n.a (btw a b) true) i (j + 1) = rowsTo (cutP n.a (btw a b) true) i j ++ [((i : Int), (j : Int))] := hst
              simp [-List.contains_eq_mem, e1, e2, e3, e4, e8, e9, e10, e11, e12, s4, s8, o1, o2, hjI, wb, hn, hq, hal, hbt, ← x1, ← x2]
              refine own_append (k := 2) (b := 16) (rows := (rowsTo (cutP n.a (btw a b) true) i j).map rowL) (new := [rowL ((i : Int), (j : Int))]) (zs := [num 0, num 0]) ho elem23 (by decide) rfl (by decide) isl23 (yv_row fun r hr => by simp at hr; subst hr; rfl) (by simpa using rowsL_new [((i : Int), (j : Int))]) (by simp; omega) ?_
              intro V σ2 hV hK _
              obtain ⟨v1, v2⟩ := hV.sv
              obtain ⟨q1, q2, q3⟩ := hV.cell
              have t4 : σ2 id4 = some (.cells [encQ false n.q, encA false n.a]) := by rw [hK id4 (by rw [s4]; simp) (ho.ne s4 (neL (c := encQ false n.q) (by simp) (encQ_ne _))), s4]
              have t8 : σ2 id8 = some (.cells [.lit (.slice none 0 0), .lit (.slice none 0 0)]) := by rw [hK id8 (by rw [s8]; simp) (ho.ne s8 (neL (c := .lit (.slice none 0 0)) (by simp) fun z e => by cases e)), s8]
              have hrow : (rowsTo (cutP n.a (btw a b) true) i j).map rowL ++ [rowL ((i : Int), (j : Int))] = (rowsTo (cutP n.a (btw a b) true) i (j + 1)).map rowL := by rw [hst]; simp
              rw [hrow] at hV
              simp [e1, e2, e3, e4, e8, e9, e10, e11, e12, v1, v2, wb]
              exact ⟨16 - (j + 1), by omega, j + 1, rfl, by omega, by omega, by omega, t4, t8, hV⟩
            | false =>
              replace hst : rowsTo (cutP n.a (btw a b) false) i (j + 1) = rowsTo (cutP n.a (btw a b) false) i j ++ [] := hst
              rw [List.append_nil] at hst
              rw [← hst] at ho
              simp [-List.contains_eq_mem, e1, e2, e3, e4, e8, e9, e10, e11, e12, s4, s8, o1, o2, hjI, wb, hn, hq, hal, hbt, ← x1, ← x2]
              exact ⟨16 - (j + 1), by omega, j + 1, rfl, by omega, by omega, by omega, ho⟩
          · rw [if_neg hx] at hcp
            rw [hcp] at hst
            by_cases x1 : (i : Int) = min a b
            · have x2 : ((j : Int) == max a b) = false := by simp; exact fun h => hx ⟨x1, h⟩
              cases hc : n.a.contains ((i : Int), (j : Int)) with
              | true =>
                rw [hc] at hst
                replace hst : rowsTo (cutP n.a (btw a b) on) i (j + 1) = rowsTo (cutP n.a (btw a b) on) i j ++ [((i : Int), (j : Int))] := hst
                simp [-List.contains_eq_mem, e1, e2, e3, e4, e8, e9, e10, e11, e12, s4, s8, o1, o2, hjI, wb, hn, hq, hal, hbt, hc, ← x1, x2]
                refine own_append (k := 2) (b := 16) (rows := (rowsTo (cutP n.a (btw a b) on) i j).map rowL) (new := [rowL ((i : Int), (j : Int))]) (zs := [num 0, num 0]) ho elem23 (by decide) rfl (by decide) isl23 (yv_row fun r hr => by simp at hr; subst hr; rfl) (by simpa using rowsL_new [((i : Int), (j : Int))]) (by simp; omega) ?_
                intro V σ2 hV hK _
                obtain ⟨v1, v2⟩ := hV.sv
                obtain ⟨q1, q2, q3⟩ := hV.cell
                have t4 : σ2 id4 = some (.cells [encQ false n.q, encA false n.a]) := by rw [hK id4 (by rw [s4]; simp) (ho.ne s4 (neL (c := encQ false n.q) (by simp) (encQ_ne _))), s4]
                have t8 : σ2 id8 = some (.cells [.lit (.slice none 0 0), .lit (.slice none 0 0)]) := by rw [hK id8 (by rw [s8]; simp) (ho.ne s8 (neL (c := .lit (.slice none 0 0)) (by simp) fun z e => by cases e)), s8]
                have hrow : (rowsTo (cutP n.a (btw a b) on) i j).map rowL ++ [rowL ((i : Int), (j : Int))] = (rowsTo (cutP n.a (btw a b) on) i (j + 1)).map rowL := by rw [hst]; simp
                rw [hrow] at hV
                simp [e1, e2, e3, e4, e8, e9, e10, e11, e12, v1, v2, wb]
                exact ⟨16 - (j + 1), by omega, j + 1, rfl, by omega, by omega, by omega, t4, t8, hV⟩
              | false =>
                rw [hc] at hst
                replace hst : rowsTo (cutP n.a (btw a b) on) i (j + 1) = rowsTo (cutP n.a (btw a b) on) i j ++ [] := hst
                rw [List.append_nil] at hst
                rw [← hst] at ho
                simp [-List.contains_eq_mem, e1, e2, e3, e4, e8, e9, e10, e11, e12, s4, s8, o1, o2, hjI, wb, hn, hq, hal, hbt, hc, ← x1, x2]
                exact ⟨16 - (j + 1), by omega, j + 1, rfl, by omega, by omega, by omega, ho⟩
            · have x1 : ((i : Int) == min a b) = false := by simpa using x1
              cases hc : n.a.contains ((i : Int), (j : Int)) with
              | true =>
                rw [hc] at hst
                replace hst : rowsTo (cutP n.a (btw a b) on) i (j + 1) = rowsTo (cutP n.a (btw a b) on) i j ++ [((i : Int), (j : Int))] := hst
                simp [-List.contains_eq_mem, e1, e2, e3, e4, e8, e9, e10, e11, e12, s4, s8, o1, o2, hjI, wb, hn, hq, hal, hbt, hc, x1]
                refine own_append (k := 2) (b := 16) (rows := (rowsTo (cutP n.a (btw a b) on) i j).map rowL) (new := [rowL ((i : Int), (j : Int))]) (zs := [num 0, num 0]) ho elem23 (by decide) rfl (by decide) isl23 (yv_row fun r hr => by simp at hr; subst hr; rfl) (by simpa using rowsL_new [((i : Int), (j : Int))]) (by simp; omega) ?_
                intro V σ2 hV hK _
                obtain ⟨v1, v2⟩ := hV.sv
                obtain ⟨q1, q2, q3⟩ := hV.cell
                have t4 : σ2 id4 = some (.cells [encQ false n.q, encA false n.a]) := by rw [hK id4 (by rw [s4]; simp) (ho.ne s4 (neL (c := encQ false n.q) (by simp) (encQ_ne _))), s4]
                have t8 : σ2 id8 = some (.cells [.lit (.slice none 0 0), .lit (.slice none 0 0)]) := by rw [hK id8 (by rw [s8]; simp) (ho.ne s8 (neL (c := .lit (.slice none 0 0)) (by simp) fun z e => by cases e)), s8]
                have hrow : (rowsTo (cutP n.a (btw a b) on) i j).map rowL ++ [rowL ((i : Int), (j : Int))] = (rowsTo (cutP n.a (btw a b) on) i (j + 1)).map rowL := by rw [hst]; simp
                rw [hrow] at hV
                simp [e1, e2, e3, e4, e8, e9, e10, e11, e12, v1, v2, wb]
                exact ⟨16 - (j + 1), by omega, j + 1, rfl, by omega, by omega, by omega, t4, t8, hV⟩
              | false =>
                rw [hc] at hst
                replace hst : rowsTo (cutP n.a (btw a b) on) i (j + 1) = rowsTo (cutP n.a (btw a b) on) i j ++ [] := hst
                rw [List.append_nil] at hst
                rw [← hst] at ho
                simp [-List.contains_eq_mem, e1, e2, e3, e4, e8, e9, e10, e11, e12, s4, s8, o1, o2, hjI, wb, hn, hq, hal, hbt, hc, x1]
                exact ⟨16 - (j + 1), by omega, j + 1, rfl, by omega, by omega, by omega, ho⟩
        · have hj16 : j = 16 := by omega
          subst hj16
          rw [rowsTo_row hlt] at ho
          obtain ⟨o1, o2⟩ := ho.sv
          simp [e1, e2, e3, e4, e8, e9, e10, e11, e12, o1, o2, wa, s4, s8]
          exact ⟨16 - (i + 1), by omega, i + 1, rfl, by omega, by omega, ho⟩
      · have hi16 : i = 16 := by omega
        subst hi16
        rw [rowsTo_all] at ho
        obtain ⟨o1, o2⟩ := ho.sv
        obtain ⟨q1, q2, q3⟩ := ho.cell
        simp [e1, e2, e3, e4, e8, e9, e10, e11, o1, o2, q1, q2, q3, s4, s8, a1]
        refine Own.set (Own.set ho fun cs e => ?_) fun cs e => ?_
        · rw [s4] at e; cases e; exact neL (c := encQ false n.q) (by simp) (encQ_ne _)
        · simp [a1, s8] at e; subst e; exact neL (c := .lit (.slice none 0 0)) (by simp) fun z e => by cases e
    · rw [if_neg hl]
      rw [vL_sides] at hl
      refine pcalls_body Try.func21 rfl rfl rfl (by show 4 ≤ _; decide) (pwp_go TJ_ok ?_)
      cases hsa : decide (0 ≤ a) && decide (a < 16) with
      | false => simp (config := { contextual := true }) [netC, hq, hal, hv, chkR, hsa, netZ]
      | true =>
        cases hsb : decide (0 ≤ b) && decide (b < 16) with
        | false => simp (config := { contextual := true }) [netC, hq, hal, hv, chkR, hsa, hsb, netZ]
        | true =>
          rw [hsa, hsb] at hl
          have hab : a = b := by simpa using hl
          simp (config := { contextual := true }) [netC, hq, hal, hv, chkR, hsa, hsb, netZ, hab]
  · rw [if_neg hv]
    refine pcalls_body Try.func21 rfl rfl rfl (by show 4 ≤ _; decide) (pwp_go TJ_ok ?_)
    simp (config := { contextual := true }) [netC, hq, hal, hv, chkR, netZ]
end Go.Proofs.Ytgcoikbgpkfcnaa
