/-
  Network: what the functions compute, part H: without a packet.
-/
import Derived.Test.YtgcoikbgpkfcnaaNwG
set_option linter.unusedSimpArgs false
set_option linter.unusedVariables false
namespace Go.Proofs.Ytgcoikbgpkfcnaa
open Go.Lo

theorem without38_ok (n : Nt) (i : Nat) (hn : okN n) (hi : i < n.q.length) (hq : n.q.length ≤ 5000) : PFun P0 38 [.agg (netC n), num i] (.agg (netC ⟨without n.q i, n.a⟩)) := by
  refine pcalls_ownA (m := ⟨without n.q i, n.a⟩) ?_
  refine pcalls_body Try.func38 rfl rfl rfl (by show 2 ≤ _; decide) (pwp_go n_ok ?_)
  have hql := hn.1.2
  unfold maxLen at hql
  have wi : IntKind.i64.wrap ((i : Int) + 1) = (i : Int) + 1 := wrap_i64 (by omega) (by omega)
  have hi1 : i ≤ n.q.length := by omega
  have hi2 : i + 1 ≤ n.q.length := by omega
  have hsuf : ∀ σ, Slx (some (none, 3, true)) σ (encQ false n.q) (some (.lit (.int .i64 ((i : Int) + 1)))) none none = ⟨True, encQ false (n.q.drop (i + 1))⟩ := fun σ => by
    rw [show (i : Int) + 1 = ((i + 1 : Nat) : Int) by omega]; exact Slx_encQ_suf σ false n.q .i64 (i + 1) hi2
  simp [-NEW_def, netC]
  refine fun id2 h2 => ?_
  simp [-NEW_def]
  refine fun id4 h4 => ?_
  have a42 : Apart id4 id2 := frs.ne h4 (x := .cells [encQ false n.q, encA false n.a]) (by simp)
  simp [a42]
  refine pwp_drawT n_ok 10 mixed (by kernel_rfl) ?_
  simp [a42, Slx_encQ_pre, hsuf, hi1, wi]
  refine own_append (k := 3) (b := 40) (rows := (n.q.take i).map rowK) (new := (n.q.drop (i + 1)).map rowK) (zs := [num 0, num 0, .lit (.slice none 0 0)]) (ownK_full _ _) elem22 (by decide) rfl (by decide) isl22 (yv_row (rowsK_three _)) (rowsK_new _) (by simp; omega) ?_
  intro V σ2 hV hK _
  have t2 := keeps_full hK (j := id2) (x := .cells [encQ false n.q, encA false n.a]) (by simp [a42])
  have t4 := keeps_full hK (j := id4) (x := .cells [.lit (.slice none 0 0), .lit (.slice none 0 0)]) (by simp)
  obtain ⟨v1, v2⟩ := hV.sv
  obtain ⟨c1, c2, c3⟩ := hV.cell
  have hrow : (n.q.take i).map rowK ++ (n.q.drop (i + 1)).map rowK = (without n.q i).map rowK := by simp [without]
  rw [hrow] at hV
  simp [a42, t2, t4, v1, v2, c1, c2, c3]
  refine (hV.set fun cs e => ?_).set fun cs e => ?_
  · rw [t2] at e; cases e; exact neRows (c := encA false n.a) rfl
  · simp [a42, t4] at e; subst e; exact neRows (c := encA false n.a) rfl
def I42 (n : Nt) (i : Nat) (id2 id4 : Nat) (L : Nat → Bool) (fr : Fr) (σ : Heap) : Prop :=
  (fr 2 = .ptr id2 0) ∧ (fr 4 = .ptr id4 0) ∧ (fr 1 = num (i : Int)) ∧ σ id2 = some (.cells [encQ false n.q, encA false n.a]) ∧ σ id4 = some (.cells [.lit (.slice none 0 0), .lit (.slice none 0 0)]) ∧ (L 0 = true → fr 5 = .slice true []) ∧ (L 1 = true → fr 6 = .ptr id2 0) ∧ (L 2 = true → fr 7 = encQ false n.q) ∧ (L 3 = true → fr 8 = num (i : Int)) ∧ (L 4 = true → fr 9 = encQ false (n.q.take i)) ∧ (L 5 = true → Own 3 σ (fr 10) ((n.q.take i).map rowK)) ∧ (L 6 = true → fr 11 = .ptr id2 0) ∧ (L 7 = true → fr 12 = encQ false n.q) ∧ (L 8 = true → fr 13 = num (i : Int)) ∧ (L 9 = true → fr 14 = num ((i : Int) + 1)) ∧ (L 10 = true → fr 15 = encQ false (n.q.drop (i + 1)))
theorem rwithout42_ok (n : Nt) (i : Nat) (hn : okN n) (hi : i < n.q.length) (hq : n.q.length ≤ 5000) : PFun P0 42 [.agg (netC n), num i] (.agg (netC ⟨without n.q i, n.a⟩)) := by
  refine pcalls_ownA (m := ⟨without n.q i, n.a⟩) ?_
  refine pcalls_body Try.func42 rfl rfl rfl (by show 2 ≤ _; decide) (pwp_go n_ok ?_)
  have wi : IntKind.i64.wrap ((i : Int) + 1) = (i : Int) + 1 := wrap_i64 (by omega) (by omega)
  have hi1 : i ≤ n.q.length := by omega
  have hi2 : i + 1 ≤ n.q.length := by omega
  have hsuf : ∀ σ, Slx (some (none, 3, true)) σ (encQ false n.q) (some (.lit (.int .i64 ((i : Int) + 1)))) none none = ⟨True, encQ false (n.q.drop (i + 1))⟩ := fun σ => by
    rw [show (i : Int) + 1 = ((i + 1 : Nat) : Int) by omega]; exact Slx_encQ_suf σ false n.q .i64 (i + 1) hi2
  simp [-NEW_def, netC]
  refine fun id2 h2 => ?_
  simp [-NEW_def]
  refine fun id4 h4 => ?_
  have a42 : Apart id4 id2 := frs.ne h4 (x := .cells [encQ false n.q, encA false n.a]) (by simp)
  simp [a42]
  refine pwpT_go (pwp_gen (I := fun fr σ => fr 2 = .ptr id2 0 ∧ fr 4 = .ptr id4 0 ∧ fr 1 = num (i : Int) ∧ σ id2 = some (.cells [encQ false n.q, encA false n.a]) ∧ σ id4 = some (.cells [.lit (.slice none 0 0), .lit (.slice none 0 0)])) (by simp [a42]) ?_)
  clear h2 h4
  rintro fr σ ⟨e2, e4, e1, s2, s4⟩
  refine pwp_drawI (k := 11) (I := I42 n i id2 id4) mixed (by kernel_rfl) (by kernel_rfl) (by decide) ?_ ?_ ?_
  · exact ⟨e2, e4, e1, by simpa using s2, by simpa using s4, nofun, nofun, nofun, nofun, nofun, nofun, nofun, nofun, nofun, nofun, nofun⟩
  · clear e1 e2 e4 s2 s4
    rintro L fr σ i o hi ho hLi hp ⟨e2, e4, e1, s2, s4, i0, i1, i2, i3, i4, i5, i6, i7, i8, i9, i10⟩
    refine pops_pst n_ok (show pT P0 Tab.nil false 19 _ _ [o] fr σ {} from ?_)
    rcases (show i = 0 ∨ i = 1 ∨ i = 2 ∨ i = 3 ∨ i = 4 ∨ i = 5 ∨ i = 6 ∨ i = 7 ∨ i = 8 ∨ i = 9 ∨ i = 10 by omega) with rfl | rfl | rfl | rfl | rfl | rfl | rfl | rfl | rfl | rfl | rfl
    · simp at ho; subst ho
      simp [e2, e4, e1, s2, s4]
      exact ⟨by simp [e2], by simp [e4], by simp [e1], by simpa [upd] using s2, by simpa [upd] using s4, fun _ => by simp, by simpa [upd] using i1, by simpa [upd] using i2, by simpa [upd] using i3, by simpa [upd] using i4, by simpa [upd] using i5, by simpa [upd] using i6, by simpa [upd] using i7, by simpa [upd] using i8, by simpa [upd] using i9, by simpa [upd] using i10⟩
    · simp at ho; subst ho
      simp [e2, e4, e1, s2, s4]
      exact ⟨by simp [e2], by simp [e4], by simp [e1], by simpa [upd] using s2, by simpa [upd] using s4, by simpa [upd] using i0, fun _ => by simp, by simpa [upd] using i2, by simpa [upd] using i3, by simpa [upd] using i4, by simpa [upd] using i5, by simpa [upd] using i6, by simpa [upd] using i7, by simpa [upd] using i8, by simpa [upd] using i9, by simpa [upd] using i10⟩
    · simp at ho; subst ho
      have l1 := hp 1 (of_decide_eq_true (by kernel_rfl))
      have q1 := i1 l1
      simp [e2, e4, e1, s2, s4, q1]
      exact ⟨by simp [e2], by simp [e4], by simp [e1], by simpa [upd] using s2, by simpa [upd] using s4, by simpa [upd] using i0, by simpa [upd] using i1, fun _ => by simp, by simpa [upd] using i3, by simpa [upd] using i4, by simpa [upd] using i5, by simpa [upd] using i6, by simpa [upd] using i7, by simpa [upd] using i8, by simpa [upd] using i9, by simpa [upd] using i10⟩
    · simp at ho; subst ho
      simp [e2, e4, e1, s2, s4]
      exact ⟨by simp [e2], by simp [e4], by simp [e1], by simpa [upd] using s2, by simpa [upd] using s4, by simpa [upd] using i0, by simpa [upd] using i1, by simpa [upd] using i2, fun _ => by simp, by simpa [upd] using i4, by simpa [upd] using i5, by simpa [upd] using i6, by simpa [upd] using i7, by simpa [upd] using i8, by simpa [upd] using i9, by simpa [upd] using i10⟩
    · simp at ho; subst ho
      have l2 := hp 2 (of_decide_eq_true (by kernel_rfl))
      have q2 := i2 l2
      have l3 := hp 3 (of_decide_eq_true (by kernel_rfl))
      have q3 := i3 l3
      simp [e2, e4, e1, s2, s4, q2, q3, Slx_encQ_to, hi1]
      exact ⟨by simp [e2], by simp [e4], by simp [e1], by simpa [upd] using s2, by simpa [upd] using s4, by simpa [upd] using i0, by simpa [upd] using i1, by simpa [upd] using i2, by simpa [upd] using i3, fun _ => by simp, by simpa [upd] using i5, by simpa [upd] using i6, by simpa [upd] using i7, by simpa [upd] using i8, by simpa [upd] using i9, by simpa [upd] using i10⟩
    · simp at ho; subst ho
      have l0 := hp 0 (of_decide_eq_true (by kernel_rfl))
      have q0 := i0 l0
      have l4 := hp 4 (of_decide_eq_true (by kernel_rfl))
      have q4 := i4 l4
      simp [e2, e4, e1, s2, s4, q0, q4]
      refine own_append (k := 3) (b := 40) (rows := []) (new := (n.q.take i).map rowK) (zs := [num 0, num 0, .lit (.slice none 0 0)]) (Own.full 3 _ (by simp)) elem22 (by decide) rfl (by decide) isl22 (yv_row (rowsK_three _)) (rowsK_new _) (by simp; omega) ?_
      intro V σ2 hV hK _
      rw [List.nil_append] at hV
      have t2 := keeps_full hK s2
      have t4 := keeps_full hK s4
      simp
      exact ⟨by simp [e2], by simp [e4], by simp [e1], t2, t4, by simpa [upd] using i0, by simpa [upd] using i1, by simpa [upd] using i2, by simpa [upd] using i3, by simpa [upd] using i4, fun _ => by simpa using hV, by simpa [upd] using i6, by simpa [upd] using i7, by simpa [upd] using i8, by simpa [upd] using i9, by simpa [upd] using i10⟩
    · simp at ho; subst ho
      simp [e2, e4, e1, s2, s4]
      exact ⟨by simp [e2], by simp [e4], by simp [e1], by simpa [upd] using s2, by simpa [upd] using s4, by simpa [upd] using i0, by simpa [upd] using i1, by simpa [upd] using i2, by simpa [upd] using i3, by simpa [upd] using i4, by simpa [upd] using i5, fun _ => by simp, by simpa [upd] using i7, by simpa [upd] using i8, by simpa [upd] using i9, by simpa [upd] using i10⟩
    · simp at ho; subst ho
      have l6 := hp 6 (of_decide_eq_true (by kernel_rfl))
      have q6 := i6 l6
      simp [e2, e4, e1, s2, s4, q6]
      exact ⟨by simp [e2], by simp [e4], by simp [e1], by simpa [upd] using s2, by simpa [upd] using s4, by simpa [upd] using i0, by simpa [upd] using i1, by simpa [upd] using i2, by simpa [upd] using i3, by simpa [upd] using i4, by simpa [upd] using i5, by simpa [upd] using i6, fun _ => by simp, by simpa [upd] using i8, by simpa [upd] using i9, by simpa [upd] using i10⟩
    · simp at ho; subst ho
      simp [e2, e4, e1, s2, s4]
      exact ⟨by simp [e2], by simp [e4], by simp [e1], by simpa [upd] using s2, by simpa [upd] using s4, by simpa [upd] using i0, by simpa [upd] using i1, by simpa [upd] using i2, by simpa [upd] using i3, by simpa [upd] using i4, by simpa [upd] using i5, by simpa [upd] using i6, by simpa [upd] using i7, fun _ => by simp, by simpa [upd] using i9, by simpa [upd] using i10⟩
    · simp at ho; subst ho
      have l8 := hp 8 (of_decide_eq_true (by kernel_rfl))
      have q8 := i8 l8
      simp [e2, e4, e1, s2, s4, q8, wi]
      exact ⟨by simp [e2], by simp [e4], by simp [e1], by simpa [upd] using s2, by simpa [upd] using s4, by simpa [upd] using i0, by simpa [upd] using i1, by simpa [upd] using i2, by simpa [upd] using i3, by simpa [upd] using i4, by simpa [upd] using i5, by simpa [upd] using i6, by simpa [upd] using i7, by simpa [upd] using i8, fun _ => by simp, by simpa [upd] using i10⟩
    · simp at ho; subst ho
      have l7 := hp 7 (of_decide_eq_true (by kernel_rfl))
      have q7 := i7 l7
      have l9 := hp 9 (of_decide_eq_true (by kernel_rfl))
      have q9 := i9 l9
      simp [e2, e4, e1, s2, s4, q7, q9, hsuf]
      exact ⟨by simp [e2], by simp [e4], by simp [e1], by simpa [upd] using s2, by simpa [upd] using s4, by simpa [upd] using i0, by simpa [upd] using i1, by simpa [upd] using i2, by simpa [upd] using i3, by simpa [upd] using i4, by simpa [upd] using i5, by simpa [upd] using i6, by simpa [upd] using i7, by simpa [upd] using i8, by simpa [upd] using i9, fun _ => by simp⟩
  · clear e1 e2 e4 s2 s4
    rintro L fr σ hall ⟨e2, e4, e1, s2, s4, i0, i1, i2, i3, i4, i5, i6, i7, i8, i9, i10⟩
    have q0 := i0 (hall 0 (by omega))
    have q1 := i1 (hall 1 (by omega))
    have q2 := i2 (hall 2 (by omega))
    have q3 := i3 (hall 3 (by omega))
    have q4 := i4 (hall 4 (by omega))
    have q5 := i5 (hall 5 (by omega))
    have q6 := i6 (hall 6 (by omega))
    have q7 := i7 (hall 7 (by omega))
    have q8 := i8 (hall 8 (by omega))
    have q9 := i9 (hall 9 (by omega))
    have q10 := i10 (hall 10 (by omega))
    obtain ⟨o1, o2⟩ := q5.sv
    refine pops_pst n_ok (show pT P0 Tab.nil false 19 _ _ [_, _, _] fr σ {} from ?_)
    simp [e2, e4, s2, s4, q10, o1, o2]
    refine own_append (k := 3) (b := 40) (rows := (n.q.take i).map rowK) (new := (n.q.drop (i + 1)).map rowK) (zs := [num 0, num 0, .lit (.slice none 0 0)]) q5 elem22 (by decide) rfl (by decide) isl22 (yv_row (rowsK_three _)) (rowsK_new _) (by simp; omega) ?_
    intro V σ2 hV hK _
    have n2 : ∀ k off len full, fr 10 ≠ .msl id2 k off len full := q5.ne s2 (neRows (c := encA false n.a) rfl)
    have n4 : ∀ k off len full, fr 10 ≠ .msl id4 k off len full := q5.ne s4 (neRows (c := encA false n.a) rfl)
    have t2 : σ2 id2 = some (.cells [encQ false n.q, encA false n.a]) := by rw [hK id2 (by rw [s2]; simp) n2, s2]
    have t4 : σ2 id4 = some (.cells [.lit (.slice none 0 0), .lit (.slice none 0 0)]) := by rw [hK id4 (by rw [s4]; simp) n4, s4]
    obtain ⟨v1, v2⟩ := hV.sv
    obtain ⟨c1, c2, c3⟩ := hV.cell
    have hrow : (n.q.take i).map rowK ++ (n.q.drop (i + 1)).map rowK = (without n.q i).map rowK := by simp [without]
    rw [hrow] at hV
    simp [e2, e4, a42, t2, t4, v1, v2, c1, c2, c3]
    refine (hV.set fun cs e => ?_).set fun cs e => ?_
    · rw [t2] at e; cases e; exact neRows (c := encA false n.a) rfl
    · simp [a42, t4] at e; subst e; exact neRows (c := encA false n.a) rfl
end Go.Proofs.Ytgcoikbgpkfcnaa
