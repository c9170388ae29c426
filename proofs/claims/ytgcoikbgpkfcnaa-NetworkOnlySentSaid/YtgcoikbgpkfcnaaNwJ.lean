/-
  Network: what the functions compute, part J: Deliver.
-/
import Derived.Test.YtgcoikbgpkfcnaaNwI
set_option linter.unusedSimpArgs false
set_option linter.unusedVariables false
namespace Go.Proofs.Ytgcoikbgpkfcnaa
open Go.Lo

def I183 (e : Int) (id4 id5 : Nat) (L : Nat → Bool) (fr : Fr) (σ : Heap) : Prop :=
  (fr 4 = .ptr id4 0) ∧ (fr 5 = .ptr id5 0) ∧ (fr 6 = num e) ∧ σ id4 = some (.cells [num 0, num 0, .lit (.slice none 0 0)]) ∧ σ id5 = some (.cells [.lit (.slice none 0 0), .lit (.slice none 0 0)]) ∧ (L 0 = true → fr 15 = .agg [num 0, num 0, .lit (.slice none 0 0)]) ∧ (L 1 = true → fr 16 = .agg [.lit (.slice none 0 0), .lit (.slice none 0 0)]) ∧ (L 2 = true → fr 17 = num e)
def I186a (n : Nt)  (i : Nat) (id2 id4 id5 : Nat) (L : Nat → Bool) (fr : Fr) (σ : Heap) : Prop :=
  (fr 1 = num (i : Int)) ∧ (fr 2 = .ptr id2 0) ∧ (fr 4 = .ptr id4 0) ∧ (fr 5 = .ptr id5 0) ∧ σ id2 = some (.cells [encQ false n.q, encA false n.a]) ∧ σ id4 = some (.cells [num 0, num 0, .lit (.slice none 0 0)]) ∧ σ id5 = some (.cells [.lit (.slice none 0 0), .lit (.slice none 0 0)]) ∧ (L 0 = true → fr 27 = .agg [num 0, num 0, .lit (.slice none 0 0)]) ∧ (L 1 = true → fr 28 = .agg [encQ false n.q, encA false n.a]) ∧ (L 2 = true → fr 29 = num (i : Int)) ∧ (L 3 = true → fr 30 = woR n i)
def I186b (n : Nt) (p : Pk) (i : Nat) (id2 id4 id5 : Nat) (L : Nat → Bool) (fr : Fr) (σ : Heap) : Prop :=
  (fr 1 = num (i : Int)) ∧ (fr 2 = .ptr id2 0) ∧ (fr 4 = .ptr id4 0) ∧ (fr 5 = .ptr id5 0) ∧ σ id2 = some (.cells [encQ false n.q, encA false n.a]) ∧ σ id4 = some (.cells [num p.f, num p.t, encB false p.d]) ∧ σ id5 = some (.cells [.lit (.slice none 0 0), .lit (.slice none 0 0)]) ∧ (L 0 = true → fr 27 = .agg [num p.f, num p.t, encB false p.d]) ∧ (L 1 = true → fr 28 = .agg [encQ false n.q, encA false n.a]) ∧ (L 2 = true → fr 29 = num (i : Int)) ∧ (L 3 = true → fr 30 = woR n i)
def I227a (n : Nt)  (i : Nat) (id2 id4 id5 id8 : Nat) (L : Nat → Bool) (fr : Fr) (σ : Heap) : Prop :=
  (fr 1 = num (i : Int)) ∧ (fr 2 = .ptr id2 0) ∧ (fr 4 = .ptr id4 0) ∧ (fr 5 = .ptr id5 0) ∧ (fr 8 = .ptr id8 0) ∧ σ id2 = some (.cells [encQ false n.q, encA false n.a]) ∧ σ id4 = some (.cells (if L 4 = true then [num 0, num 0, .lit (.slice none 0 0)] else [num 0, num 0, .lit (.slice none 0 0)])) ∧ σ id5 = some (.cells [.lit (.slice none 0 0), .lit (.slice none 0 0)]) ∧ σ id8 = some (.cells [num 0, num 0, .lit (.slice none 0 0)]) ∧ (L 0 = true → fr 29 = .agg [num 0, num 0, .lit (.slice none 0 0)]) ∧ (L 1 = true → fr 30 = .agg [encQ false n.q, encA false n.a]) ∧ (L 2 = true → fr 31 = num (i : Int)) ∧ (L 3 = true → fr 32 = woR n i)
def I227b (n : Nt) (p : Pk) (i : Nat) (id2 id4 id5 id8 : Nat) (L : Nat → Bool) (fr : Fr) (σ : Heap) : Prop :=
  (fr 1 = num (i : Int)) ∧ (fr 2 = .ptr id2 0) ∧ (fr 4 = .ptr id4 0) ∧ (fr 5 = .ptr id5 0) ∧ (fr 8 = .ptr id8 0) ∧ σ id2 = some (.cells [encQ false n.q, encA false n.a]) ∧ σ id4 = some (.cells (if L 4 = true then [num p.f, num p.t, encB false p.d] else [num 0, num 0, .lit (.slice none 0 0)])) ∧ σ id5 = some (.cells [.lit (.slice none 0 0), .lit (.slice none 0 0)]) ∧ σ id8 = some (.cells [num p.f, num p.t, encB false p.d]) ∧ (L 0 = true → fr 29 = .agg [num p.f, num p.t, encB false p.d]) ∧ (L 1 = true → fr 30 = .agg [encQ false n.q, encA false n.a]) ∧ (L 2 = true → fr 31 = num (i : Int)) ∧ (L 3 = true → fr 32 = woR n i)
theorem deliver18_ok (n : Nt) (i : Int) (hn : okN n) : PFun P0 18 [.agg (netC n), num i] (deliverR n i) := by
  refine pcalls_body Try.func18 rfl rfl rfl (by show 2 ≤ _; decide) (pwp_go TI_ok ?_)
  unfold deliverR
  have hq := hn.1
  have hal := hn.2
  by_cases ha : askN n i = 0
  · obtain ⟨f1, f2, f3, f4⟩ := ask_facts hn ha
    have hat : atR n i = .tup [.agg (rowK (atN n i)), num 0] := by unfold atR; rw [if_pos ha]
    obtain ⟨p, hp⟩ : ∃ p, atN n i = p := ⟨_, rfl⟩
    rw [hp] at hat f4
    rw [if_pos ha, hp]
    have hd := f4
    unfold okP at hd
    simp (config := { contextual := true }) [netC, hq, hal, hat, rowK]
    intro id2 id4 a42 id5 a54 a52
    obtain ⟨i, rfl⟩ : ∃ j : Nat, i = (j : Int) := ⟨i.toNat, by omega⟩
    have f1 : i < n.q.length := by omega
    refine pwpT_go (pwp_gen (I := fun fr σ => fr 1 = num (i : Int) ∧ fr 2 = .ptr id2 0 ∧ fr 4 = .ptr id4 0 ∧ fr 5 = .ptr id5 0 ∧ σ id2 = some (.cells [encQ false n.q, encA false n.a]) ∧ σ id4 = some (.cells [num p.f, num p.t, encB false p.d]) ∧ σ id5 = some (.cells [.lit (.slice none 0 0), .lit (.slice none 0 0)])) (by simp [a42, a54, a52]) ?_)
    rintro fr σ ⟨e1, e2, e4, e5, s2, s4, s5⟩
    refine pwp_drawT TI_ok 7 mixed (by kernel_rfl) ?_
    have hbt : rowL (btw p.f p.t) = [num (btw p.f p.t).1, num (btw p.f p.t).2] := rfl
    by_cases hc : n.a.contains (btw p.f p.t) = true
    · have hc' : n.a.contains ((btw p.f p.t).1, (btw p.f p.t).2) = true := hc
      simp [-List.contains_eq_mem, e1, e2, e4, e5, s2, s4, s5, hal, hbt, hc, hc', a42, a52, a54]
      refine pwpT_go (pwp_gen (I := fun fr σ => fr 1 = num (i : Int) ∧ fr 2 = .ptr id2 0 ∧ fr 4 = .ptr id4 0 ∧ fr 5 = .ptr id5 0 ∧ σ id2 = some (.cells [encQ false n.q, encA false n.a]) ∧ σ id4 = some (.cells [num 0, num 0, .lit (.slice none 0 0)]) ∧ σ id5 = some (.cells [.lit (.slice none 0 0), .lit (.slice none 0 0)])) (by simp [e1, e2, e4, e5, s2, s4, s5, a42, a54, a52]) ?_)
      clear e1 e2 e4 e5 s2 s4 s5
      rintro fr σ ⟨e1, e2, e4, e5, s2, s4, s5⟩
      refine pwp_drawI (k := 5) (I := I186a n i id2 id4 id5) mixed (by kernel_rfl) (by kernel_rfl) (by decide) ?_ ?_ ?_
      · exact ⟨e1, e2, e4, e5, by simpa using s2, by simpa using s4, by simpa using s5, nofun, nofun, nofun, nofun⟩
      · clear e1 e2 e4 e5 s2 s4 s5
        rintro L fr σ i o hi ho hLi hp ⟨e1, e2, e4, e5, s2, s4, s5, i0, i1, i2, i3⟩
        refine pops_pst TI_ok (show pT P0 TI false 31 _ _ [o] fr σ {} from ?_)
        rcases (show i = 0 ∨ i = 1 ∨ i = 2 ∨ i = 3 ∨ i = 4 by omega) with rfl | rfl | rfl | rfl | rfl
        · simp at ho; subst ho
          simp [e1, e2, e4, e5, s2, s4, s5, a42, a52, a54, a42.symm, a52.symm, a54.symm]
          exact ⟨by simp [e1], by simp [e2], by simp [e4], by simp [e5], by simpa [upd, a42, a52, a54, a42.symm, a52.symm, a54.symm] using s2, by simpa [upd, a42, a52, a54, a42.symm, a52.symm, a54.symm] using s4, by simpa [upd, a42, a52, a54, a42.symm, a52.symm, a54.symm] using s5, fun _ => by simp, by simpa [upd] using i1, by simpa [upd] using i2, by simpa [upd] using i3⟩
        · simp at ho; subst ho
          simp [e1, e2, e4, e5, s2, s4, s5, a42, a52, a54, a42.symm, a52.symm, a54.symm]
          exact ⟨by simp [e1], by simp [e2], by simp [e4], by simp [e5], by simpa [upd, a42, a52, a54, a42.symm, a52.symm, a54.symm] using s2, by simpa [upd, a42, a52, a54, a42.symm, a52.symm, a54.symm] using s4, by simpa [upd, a42, a52, a54, a42.symm, a52.symm, a54.symm] using s5, by simpa [upd] using i0, fun _ => by simp, by simpa [upd] using i2, by simpa [upd] using i3⟩
        · simp at ho; subst ho
          simp [e1, e2, e4, e5, s2, s4, s5, a42, a52, a54, a42.symm, a52.symm, a54.symm]
          exact ⟨by simp [e1], by simp [e2], by simp [e4], by simp [e5], by simpa [upd, a42, a52, a54, a42.symm, a52.symm, a54.symm] using s2, by simpa [upd, a42, a52, a54, a42.symm, a52.symm, a54.symm] using s4, by simpa [upd, a42, a52, a54, a42.symm, a52.symm, a54.symm] using s5, by simpa [upd] using i0, by simpa [upd] using i1, fun _ => by simp, by simpa [upd] using i3⟩
        · simp at ho; subst ho
          have l1 := hp 1 (of_decide_eq_true (by kernel_rfl))
          have q1 := i1 l1
          have l2 := hp 2 (of_decide_eq_true (by kernel_rfl))
          have q2 := i2 l2
          simp [e1, e2, e4, e5, s2, s4, s5, q1, q2, a42, a52, a54, a42.symm, a52.symm, a54.symm, hq, hal, f1, f3]
          exact ⟨by simp [e1], by simp [e2], by simp [e4], by simp [e5], by simpa [upd, a42, a52, a54, a42.symm, a52.symm, a54.symm] using s2, by simpa [upd, a42, a52, a54, a42.symm, a52.symm, a54.symm] using s4, by simpa [upd, a42, a52, a54, a42.symm, a52.symm, a54.symm] using s5, by simpa [upd] using i0, by simpa [upd] using i1, by simpa [upd] using i2, fun _ => by simp⟩
        · simp at ho; subst ho
          have l0 := hp 0 (of_decide_eq_true (by kernel_rfl))
          have q0 := i0 l0
          simp [e1, e2, e4, e5, s2, s4, s5, q0, a42, a52, a54, a42.symm, a52.symm, a54.symm]
          exact ⟨by simp [e1], by simp [e2], by simp [e4], by simp [e5], by simpa [upd, a42, a52, a54, a42.symm, a52.symm, a54.symm] using s2, by simp [upd], by simpa [upd, a42, a52, a54, a42.symm, a52.symm, a54.symm] using s5, by simpa [upd] using i0, by simpa [upd] using i1, by simpa [upd] using i2, by simpa [upd] using i3⟩
      · clear e1 e2 e4 e5 s2 s4 s5
        rintro L fr σ hall ⟨e1, e2, e4, e5, s2, s4, s5, i0, i1, i2, i3⟩
        have q0 := i0 (hall 0 (by omega))
        have q1 := i1 (hall 1 (by omega))
        have q2 := i2 (hall 2 (by omega))
        have q3 := i3 (hall 3 (by omega))
        refine pops_pst TI_ok (show pT P0 TI false 31 _ _ [_, _] fr σ {} from ?_)
        simp [-List.contains_eq_mem, e1, e2, e4, e5, s2, s4, s5, q3, a42, a52, a54, woR, netC, pkZ, hc]
    · have hc' : ¬ n.a.contains ((btw p.f p.t).1, (btw p.f p.t).2) = true := hc
      simp [-List.contains_eq_mem, e1, e2, e4, e5, s2, s4, s5, hal, hbt, hc, hc', a42, a52, a54]
      refine pwpT_go (pwp_gen (I := fun fr σ => fr 1 = num (i : Int) ∧ fr 2 = .ptr id2 0 ∧ fr 4 = .ptr id4 0 ∧ fr 5 = .ptr id5 0 ∧ σ id2 = some (.cells [encQ false n.q, encA false n.a]) ∧ σ id4 = some (.cells [num p.f, num p.t, encB false p.d]) ∧ σ id5 = some (.cells [.lit (.slice none 0 0), .lit (.slice none 0 0)])) (by simp [e1, e2, e4, e5, s2, s4, s5, a42, a54, a52]) ?_)
      clear e1 e2 e4 e5 s2 s4 s5
      rintro fr σ ⟨e1, e2, e4, e5, s2, s4, s5⟩
      refine pwp_drawI (k := 5) (I := I186b n p i id2 id4 id5) mixed (by kernel_rfl) (by kernel_rfl) (by decide) ?_ ?_ ?_
      · exact ⟨e1, e2, e4, e5, by simpa using s2, by simpa using s4, by simpa using s5, nofun, nofun, nofun, nofun⟩
      · clear e1 e2 e4 e5 s2 s4 s5
        rintro L fr σ i o hi ho hLi hp ⟨e1, e2, e4, e5, s2, s4, s5, i0, i1, i2, i3⟩
        refine pops_pst TI_ok (show pT P0 TI false 31 _ _ [o] fr σ {} from ?_)
        rcases (show i = 0 ∨ i = 1 ∨ i = 2 ∨ i = 3 ∨ i = 4 by omega) with rfl | rfl | rfl | rfl | rfl
        · simp at ho; subst ho
          simp [e1, e2, e4, e5, s2, s4, s5, a42, a52, a54, a42.symm, a52.symm, a54.symm]
          exact ⟨by simp [e1], by simp [e2], by simp [e4], by simp [e5], by simpa [upd, a42, a52, a54, a42.symm, a52.symm, a54.symm] using s2, by simpa [upd, a42, a52, a54, a42.symm, a52.symm, a54.symm] using s4, by simpa [upd, a42, a52, a54, a42.symm, a52.symm, a54.symm] using s5, fun _ => by simp, by simpa [upd] using i1, by simpa [upd] using i2, by simpa [upd] using i3⟩
        · simp at ho; subst ho
          simp [e1, e2, e4, e5, s2, s4, s5, a42, a52, a54, a42.symm, a52.symm, a54.symm]
          exact ⟨by simp [e1], by simp [e2], by simp [e4], by simp [e5], by simpa [upd, a42, a52, a54, a42.symm, a52.symm, a54.symm] using s2, by simpa [upd, a42, a52, a54, a42.symm, a52.symm, a54.symm] using s4, by simpa [upd, a42, a52, a54, a42.symm, a52.symm, a54.symm] using s5, by simpa [upd] using i0, fun _ => by simp, by simpa [upd] using i2, by simpa [upd] using i3⟩
        · simp at ho; subst ho
          simp [e1, e2, e4, e5, s2, s4, s5, a42, a52, a54, a42.symm, a52.symm, a54.symm]
          exact ⟨by simp [e1], by simp [e2], by simp [e4], by simp [e5], by simpa [upd, a42, a52, a54, a42.symm, a52.symm, a54.symm] using s2, by simpa [upd, a42, a52, a54, a42.symm, a52.symm, a54.symm] using s4, by simpa [upd, a42, a52, a54, a42.symm, a52.symm, a54.symm] using s5, by simpa [upd] using i0, by simpa [upd] using i1, fun _ => by simp, by simpa [upd] using i3⟩
        · simp at ho; subst ho
          have l1 := hp 1 (of_decide_eq_true (by kernel_rfl))
          have q1 := i1 l1
          have l2 := hp 2 (of_decide_eq_true (by kernel_rfl))
          have q2 := i2 l2
          simp [e1, e2, e4, e5, s2, s4, s5, q1, q2, a42, a52, a54, a42.symm, a52.symm, a54.symm, hq, hal, f1, f3]
          exact ⟨by simp [e1], by simp [e2], by simp [e4], by simp [e5], by simpa [upd, a42, a52, a54, a42.symm, a52.symm, a54.symm] using s2, by simpa [upd, a42, a52, a54, a42.symm, a52.symm, a54.symm] using s4, by simpa [upd, a42, a52, a54, a42.symm, a52.symm, a54.symm] using s5, by simpa [upd] using i0, by simpa [upd] using i1, by simpa [upd] using i2, fun _ => by simp⟩
        · simp at ho; subst ho
          have l0 := hp 0 (of_decide_eq_true (by kernel_rfl))
          have q0 := i0 l0
          simp [e1, e2, e4, e5, s2, s4, s5, q0, a42, a52, a54, a42.symm, a52.symm, a54.symm]
          exact ⟨by simp [e1], by simp [e2], by simp [e4], by simp [e5], by simpa [upd, a42, a52, a54, a42.symm, a52.symm, a54.symm] using s2, by simp [upd], by simpa [upd, a42, a52, a54, a42.symm, a52.symm, a54.symm] using s5, by simpa [upd] using i0, by simpa [upd] using i1, by simpa [upd] using i2, by simpa [upd] using i3⟩
      · clear e1 e2 e4 e5 s2 s4 s5
        rintro L fr σ hall ⟨e1, e2, e4, e5, s2, s4, s5, i0, i1, i2, i3⟩
        have q0 := i0 (hall 0 (by omega))
        have q1 := i1 (hall 1 (by omega))
        have q2 := i2 (hall 2 (by omega))
        have q3 := i3 (hall 3 (by omega))
        refine pops_pst TI_ok (show pT P0 TI false 31 _ _ [_, _] fr σ {} from ?_)
        simp [-List.contains_eq_mem, e1, e2, e4, e5, s2, s4, s5, q3, a42, a52, a54, woR, netC, pkZ, hc]
  · have hat : atR n i = .tup [pkZ, num (askN n i)] := by unfold atR; rw [if_neg ha]
    rw [if_neg ha]
    obtain ⟨e, he⟩ : ∃ e, askN n i = e := ⟨_, rfl⟩
    rw [he] at ha hat
    rw [he]
    simp (config := { contextual := true }) [netC, hq, hal, hat, ha, pkZ]
    intro id2 id4 a42 id5 a54 a52
    refine pwpT_go (pwp_gen (I := fun fr σ => fr 4 = .ptr id4 0 ∧ fr 5 = .ptr id5 0 ∧ fr 6 = num e ∧ σ id4 = some (.cells [num 0, num 0, .lit (.slice none 0 0)]) ∧ σ id5 = some (.cells [.lit (.slice none 0 0), .lit (.slice none 0 0)])) (by simp [a42, a54, a52]) ?_)
    rintro fr σ ⟨e4, e5, e6, s4, s5⟩
    refine pwp_drawI (k := 5) (I := I183 e id4 id5) mixed (by kernel_rfl) (by kernel_rfl) (by decide) ?_ ?_ ?_
    · exact ⟨e4, e5, e6, by simpa using s4, by simpa using s5, nofun, nofun, nofun⟩
    · clear e4 e5 e6 s4 s5
      rintro L fr σ i o hi ho hLi hp ⟨e4, e5, e6, s4, s5, i0, i1, i2⟩
      refine pops_pst TI_ok (show pT P0 TI false 31 _ _ [o] fr σ {} from ?_)
      rcases (show i = 0 ∨ i = 1 ∨ i = 2 ∨ i = 3 ∨ i = 4 by omega) with rfl | rfl | rfl | rfl | rfl
      · simp at ho; subst ho
        simp [e4, e5, e6, s4, s5, a54, a54.symm]
        exact ⟨by simp [e4], by simp [e5], by simp [e6], by simpa [upd, a54, a54.symm] using s4, by simpa [upd, a54, a54.symm] using s5, fun _ => by simp, by simpa [upd] using i1, by simpa [upd] using i2⟩
      · simp at ho; subst ho
        simp [e4, e5, e6, s4, s5, a54, a54.symm]
        exact ⟨by simp [e4], by simp [e5], by simp [e6], by simpa [upd, a54, a54.symm] using s4, by simpa [upd, a54, a54.symm] using s5, by simpa [upd] using i0, fun _ => by simp, by simpa [upd] using i2⟩
      · simp at ho; subst ho
        simp [e4, e5, e6, s4, s5, a54, a54.symm]
        exact ⟨by simp [e4], by simp [e5], by simp [e6], by simpa [upd, a54, a54.symm] using s4, by simpa [upd, a54, a54.symm] using s5, by simpa [upd] using i0, by simpa [upd] using i1, fun _ => by simp⟩
      · simp at ho; subst ho
        have l0 := hp 0 (of_decide_eq_true (by kernel_rfl))
        have q0 := i0 l0
        simp [e4, e5, e6, s4, s5, q0, a54, a54.symm]
        exact ⟨by simp [e4], by simp [e5], by simp [e6], by simp [upd], by simpa [upd, a54, a54.symm] using s5, by simpa [upd] using i0, by simpa [upd] using i1, by simpa [upd] using i2⟩
      · simp at ho; subst ho
        have l1 := hp 1 (of_decide_eq_true (by kernel_rfl))
        have q1 := i1 l1
        simp [e4, e5, e6, s4, s5, q1, a54, a54.symm]
        exact ⟨by simp [e4], by simp [e5], by simp [e6], by simpa [upd, a54, a54.symm] using s4, by simp [upd], by simpa [upd] using i0, by simpa [upd] using i1, by simpa [upd] using i2⟩
    · clear e4 e5 e6 s4 s5
      rintro L fr σ hall ⟨e4, e5, e6, s4, s5, i0, i1, i2⟩
      have q0 := i0 (hall 0 (by omega))
      have q1 := i1 (hall 1 (by omega))
      have q2 := i2 (hall 2 (by omega))
      refine pops_pst TI_ok (show pT P0 TI false 31 _ _ [_] fr σ {} from ?_)
      simp [e4, e5, e6, s4, s5, q2, a54, netZ]
theorem rdeliver22_ok (n : Nt) (i : Int) (hn : okN n) : PFun P0 22 [.agg (netC n), num i] (deliverR n i) := by
  refine pcalls_body Try.func22 rfl rfl rfl (by show 2 ≤ _; decide) (pwp_go TI_ok ?_)
  unfold deliverR
  have hq := hn.1
  have hal := hn.2
  by_cases ha : askN n i = 0
  · obtain ⟨f1, f2, f3, f4⟩ := ask_facts hn ha
    obtain ⟨k, rfl, hk, e0⟩ := atN_get (n := n) (i := i) ⟨f1, f2⟩
    obtain ⟨p, hp⟩ : ∃ p, n.q[k] = p := ⟨_, rfl⟩
    rw [e0, hp] at f4
    rw [if_pos ha, e0, hp]
    have hd := f4
    unfold okP at hd
    have hbt : rowL (btw p.f p.t) = [num (btw p.f p.t).1, num (btw p.f p.t).2] := rfl
    by_cases hc : n.a.contains (btw p.f p.t) = true
    · simp (config := { contextual := true }) [-List.contains_eq_mem, netC, hq, hal, ha, IAx_encQ, hk, hp, rowK, hc]
      intro id2 id4 a42 id5 a54 a52 id8 a85 a84 a82
      have f1 : k < n.q.length := hk
      refine pwpT_go (pwp_gen (I := fun fr σ => fr 1 = num (k : Int) ∧ fr 2 = .ptr id2 0 ∧ fr 4 = .ptr id4 0 ∧ fr 5 = .ptr id5 0 ∧ fr 8 = .ptr id8 0 ∧ σ id2 = some (.cells [encQ false n.q, encA false n.a]) ∧ σ id4 = some (.cells [num 0, num 0, .lit (.slice none 0 0)]) ∧ σ id5 = some (.cells [.lit (.slice none 0 0), .lit (.slice none 0 0)]) ∧ σ id8 = some (.cells [num 0, num 0, .lit (.slice none 0 0)])) (by simp [a42, a54, a52, a82, a84, a85]) ?_)
      rintro fr σ ⟨e1, e2, e4, e5, e8, s2, s4, s5, s8⟩
      refine pwp_drawI (k := 5) (I := I227a n k id2 id4 id5 id8) mixed (by kernel_rfl) (by kernel_rfl) (by decide) ?_ ?_ ?_
      · exact ⟨e1, e2, e4, e5, e8, by simpa using s2, by simpa using s4, by simpa using s5, by simpa using s8, nofun, nofun, nofun, nofun⟩
      · clear e1 e2 e4 e5 e8 s2 s4 s5 s8
        rintro L fr σ i o hi ho hLi hp ⟨e1, e2, e4, e5, e8, s2, s4, s5, s8, i0, i1, i2, i3⟩
        refine pops_pst TI_ok (show pT P0 TI false 33 _ _ [o] fr σ {} from ?_)
        rcases (show i = 0 ∨ i = 1 ∨ i = 2 ∨ i = 3 ∨ i = 4 by omega) with rfl | rfl | rfl | rfl | rfl
        · simp at ho; subst ho
          simp [-List.contains_eq_mem, e1, e2, e4, e5, e8, s2, s4, s5, s8, a42, a52, a54, a82, a84, a85, a42.symm, a52.symm, a54.symm, a82.symm, a84.symm, a85.symm]
          exact ⟨by simp [e1], by simp [e2], by simp [e4], by simp [e5], by simp [e8], by simpa [upd, a42, a52, a54, a82, a84, a85, a42.symm, a52.symm, a54.symm, a82.symm, a84.symm, a85.symm] using s2, by simpa [upd, a42, a52, a54, a82, a84, a85, a42.symm, a52.symm, a54.symm, a82.symm, a84.symm, a85.symm] using s4, by simpa [upd, a42, a52, a54, a82, a84, a85, a42.symm, a52.symm, a54.symm, a82.symm, a84.symm, a85.symm] using s5, by simpa [upd, a42, a52, a54, a82, a84, a85, a42.symm, a52.symm, a54.symm, a82.symm, a84.symm, a85.symm] using s8, fun _ => by simp, by simpa [upd] using i1, by simpa [upd] using i2, by simpa [upd] using i3⟩
        · simp at ho; subst ho
          simp [-List.contains_eq_mem, e1, e2, e4, e5, e8, s2, s4, s5, s8, a42, a52, a54, a82, a84, a85, a42.symm, a52.symm, a54.symm, a82.symm, a84.symm, a85.symm]
          exact ⟨by simp [e1], by simp [e2], by simp [e4], by simp [e5], by simp [e8], by simpa [upd, a42, a52, a54, a82, a84, a85, a42.symm, a52.symm, a54.symm, a82.symm, a84.symm, a85.symm] using s2, by simpa [upd, a42, a52, a54, a82, a84, a85, a42.symm, a52.symm, a54.symm, a82.symm, a84.symm, a85.symm] using s4, by simpa [upd, a42, a52, a54, a82, a84, a85, a42.symm, a52.symm, a54.symm, a82.symm, a84.symm, a85.symm] using s5, by simpa [upd, a42, a52, a54, a82, a84, a85, a42.symm, a52.symm, a54.symm, a82.symm, a84.symm, a85.symm] using s8, by simpa [upd] using i0, fun _ => by simp, by simpa [upd] using i2, by simpa [upd] using i3⟩
        · simp at ho; subst ho
          simp [-List.contains_eq_mem, e1, e2, e4, e5, e8, s2, s4, s5, s8, a42, a52, a54, a82, a84, a85, a42.symm, a52.symm, a54.symm, a82.symm, a84.symm, a85.symm]
          exact ⟨by simp [e1], by simp [e2], by simp [e4], by simp [e5], by simp [e8], by simpa [upd, a42, a52, a54, a82, a84, a85, a42.symm, a52.symm, a54.symm, a82.symm, a84.symm, a85.symm] using s2, by simpa [upd, a42, a52, a54, a82, a84, a85, a42.symm, a52.symm, a54.symm, a82.symm, a84.symm, a85.symm] using s4, by simpa [upd, a42, a52, a54, a82, a84, a85, a42.symm, a52.symm, a54.symm, a82.symm, a84.symm, a85.symm] using s5, by simpa [upd, a42, a52, a54, a82, a84, a85, a42.symm, a52.symm, a54.symm, a82.symm, a84.symm, a85.symm] using s8, by simpa [upd] using i0, by simpa [upd] using i1, fun _ => by simp, by simpa [upd] using i3⟩
        · simp at ho; subst ho
          have l1 := hp 1 (of_decide_eq_true (by kernel_rfl))
          have q1 := i1 l1
          have l2 := hp 2 (of_decide_eq_true (by kernel_rfl))
          have q2 := i2 l2
          simp [-List.contains_eq_mem, e1, e2, e4, e5, e8, s2, s4, s5, s8, q1, q2, a42, a52, a54, a82, a84, a85, a42.symm, a52.symm, a54.symm, a82.symm, a84.symm, a85.symm, hq, hal, f1, f3]
          exact ⟨by simp [e1], by simp [e2], by simp [e4], by simp [e5], by simp [e8], by simpa [upd, a42, a52, a54, a82, a84, a85, a42.symm, a52.symm, a54.symm, a82.symm, a84.symm, a85.symm] using s2, by simpa [upd, a42, a52, a54, a82, a84, a85, a42.symm, a52.symm, a54.symm, a82.symm, a84.symm, a85.symm] using s4, by simpa [upd, a42, a52, a54, a82, a84, a85, a42.symm, a52.symm, a54.symm, a82.symm, a84.symm, a85.symm] using s5, by simpa [upd, a42, a52, a54, a82, a84, a85, a42.symm, a52.symm, a54.symm, a82.symm, a84.symm, a85.symm] using s8, by simpa [upd] using i0, by simpa [upd] using i1, by simpa [upd] using i2, fun _ => by simp⟩
        · simp at ho; subst ho
          have l0 := hp 0 (of_decide_eq_true (by kernel_rfl))
          have q0 := i0 l0
          rw [hLi] at s4
          simp [-List.contains_eq_mem, e1, e2, e4, e5, e8, s2, s4, s5, s8, q0, a42, a52, a54, a82, a84, a85, a42.symm, a52.symm, a54.symm, a82.symm, a84.symm, a85.symm]
          exact ⟨by simp [e1], by simp [e2], by simp [e4], by simp [e5], by simp [e8], by simpa [upd, a42, a52, a54, a82, a84, a85, a42.symm, a52.symm, a54.symm, a82.symm, a84.symm, a85.symm] using s2, by simp [upd], by simpa [upd, a42, a52, a54, a82, a84, a85, a42.symm, a52.symm, a54.symm, a82.symm, a84.symm, a85.symm] using s5, by simpa [upd, a42, a52, a54, a82, a84, a85, a42.symm, a52.symm, a54.symm, a82.symm, a84.symm, a85.symm] using s8, by simpa [upd] using i0, by simpa [upd] using i1, by simpa [upd] using i2, by simpa [upd] using i3⟩
      · clear e1 e2 e4 e5 e8 s2 s4 s5 s8
        rintro L fr σ hall ⟨e1, e2, e4, e5, e8, s2, s4, s5, s8, i0, i1, i2, i3⟩
        rw [hall 4 (by omega), if_pos rfl] at s4
        have q0 := i0 (hall 0 (by omega))
        have q1 := i1 (hall 1 (by omega))
        have q2 := i2 (hall 2 (by omega))
        have q3 := i3 (hall 3 (by omega))
        refine pops_pst TI_ok (show pT P0 TI false 33 _ _ [_, _] fr σ {} from ?_)
        simp [-List.contains_eq_mem, e1, e2, e4, e5, e8, s2, s4, s5, s8, q3, a42, a52, a54, a82, a84, a85, woR, netC, pkZ, hc]
    · simp (config := { contextual := true }) [-List.contains_eq_mem, netC, hq, hal, ha, IAx_encQ, hk, hp, rowK, hc]
      intro id2 id4 a42 id5 a54 a52 id8 a85 a84 a82
      have f1 : k < n.q.length := hk
      refine pwpT_go (pwp_gen (I := fun fr σ => fr 1 = num (k : Int) ∧ fr 2 = .ptr id2 0 ∧ fr 4 = .ptr id4 0 ∧ fr 5 = .ptr id5 0 ∧ fr 8 = .ptr id8 0 ∧ σ id2 = some (.cells [encQ false n.q, encA false n.a]) ∧ σ id4 = some (.cells [num 0, num 0, .lit (.slice none 0 0)]) ∧ σ id5 = some (.cells [.lit (.slice none 0 0), .lit (.slice none 0 0)]) ∧ σ id8 = some (.cells [num p.f, num p.t, encB false p.d])) (by simp [a42, a54, a52, a82, a84, a85]) ?_)
      rintro fr σ ⟨e1, e2, e4, e5, e8, s2, s4, s5, s8⟩
      refine pwp_drawI (k := 5) (I := I227b n p k id2 id4 id5 id8) mixed (by kernel_rfl) (by kernel_rfl) (by decide) ?_ ?_ ?_
      · exact ⟨e1, e2, e4, e5, e8, by simpa using s2, by simpa using s4, by simpa using s5, by simpa using s8, nofun, nofun, nofun, nofun⟩
      · clear e1 e2 e4 e5 e8 s2 s4 s5 s8
        rintro L fr σ i o hi ho hLi hp ⟨e1, e2, e4, e5, e8, s2, s4, s5, s8, i0, i1, i2, i3⟩
        refine pops_pst TI_ok (show pT P0 TI false 33 _ _ [o] fr σ {} from ?_)
        rcases (show i = 0 ∨ i = 1 ∨ i = 2 ∨ i = 3 ∨ i = 4 by omega) with rfl | rfl | rfl | rfl | rfl
        · simp at ho; subst ho
          simp [-List.contains_eq_mem, e1, e2, e4, e5, e8, s2, s4, s5, s8, a42, a52, a54, a82, a84, a85, a42.symm, a52.symm, a54.symm, a82.symm, a84.symm, a85.symm]
          exact ⟨by simp [e1], by simp [e2], by simp [e4], by simp [e5], by simp [e8], by simpa [upd, a42, a52, a54, a82, a84, a85, a42.symm, a52.symm, a54.symm, a82.symm, a84.symm, a85.symm] using s2, by simpa [upd, a42, a52, a54, a82, a84, a85, a42.symm, a52.symm, a54.symm, a82.symm, a84.symm, a85.symm] using s4, by simpa [upd, a42, a52, a54, a82, a84, a85, a42.symm, a52.symm, a54.symm, a82.symm, a84.symm, a85.symm] using s5, by simpa [upd, a42, a52, a54, a82, a84, a85, a42.symm, a52.symm, a54.symm, a82.symm, a84.symm, a85.symm] using s8, fun _ => by simp, by simpa [upd] using i1, by simpa [upd] using i2, by simpa [upd] using i3⟩
        · simp at ho; subst ho
          simp [-List.contains_eq_mem, e1, e2, e4, e5, e8, s2, s4, s5, s8, a42, a52, a54, a82, a84, a85, a42.symm, a52.symm, a54.symm, a82.symm, a84.symm, a85.symm]
          exact ⟨by simp [e1], by simp [e2], by simp [e4], by simp [e5], by simp [e8], by simpa [upd, a42, a52, a54, a82, a84, a85, a42.symm, a52.symm, a54.symm, a82.symm, a84.symm, a85.symm] using s2, by simpa [upd, a42, a52, a54, a82, a84, a85, a42.symm, a52.symm, a54.symm, a82.symm, a84.symm, a85.symm] using s4, by simpa [upd, a42, a52, a54, a82, a84, a85, a42.symm, a52.symm, a54.symm, a82.symm, a84.symm, a85.symm] using s5, by simpa [upd, a42, a52, a54, a82, a84, a85, a42.symm, a52.symm, a54.symm, a82.symm, a84.symm, a85.symm] using s8, by simpa [upd] using i0, fun _ => by simp, by simpa [upd] using i2, by simpa [upd] using i3⟩
        · simp at ho; subst ho
          simp [-List.contains_eq_mem, e1, e2, e4, e5, e8, s2, s4, s5, s8, a42, a52, a54, a82, a84, a85, a42.symm, a52.symm, a54.symm, a82.symm, a84.symm, a85.symm]
          exact ⟨by simp [e1], by simp [e2], by simp [e4], by simp [e5], by simp [e8], by simpa [upd, a42, a52, a54, a82, a84, a85, a42.symm, a52.symm, a54.symm, a82.symm, a84.symm, a85.symm] using s2, by simpa [upd, a42, a52, a54, a82, a84, a85, a42.symm, a52.symm, a54.symm, a82.symm, a84.symm, a85.symm] using s4, by simpa [upd, a42, a52, a54, a82, a84, a85, a42.symm, a52.symm, a54.symm, a82.symm, a84.symm, a85.symm] using s5, by simpa [upd, a42, a52, a54, a82, a84, a85, a42.symm, a52.symm, a54.symm, a82.symm, a84.symm, a85.symm] using s8, by simpa [upd] using i0, by simpa [upd] using i1, fun _ => by simp, by simpa [upd] using i3⟩
        · simp at ho; subst ho
          have l1 := hp 1 (of_decide_eq_true (by kernel_rfl))
          have q1 := i1 l1
          have l2 := hp 2 (of_decide_eq_true (by kernel_rfl))
          have q2 := i2 l2
          simp [-List.contains_eq_mem, e1, e2, e4, e5, e8, s2, s4, s5, s8, q1, q2, a42, a52, a54, a82, a84, a85, a42.symm, a52.symm, a54.symm, a82.symm, a84.symm, a85.symm, hq, hal, f1, f3]
          exact ⟨by simp [e1], by simp [e2], by simp [e4], by simp [e5], by simp [e8], by simpa [upd, a42, a52, a54, a82, a84, a85, a42.symm, a52.symm, a54.symm, a82.symm, a84.symm, a85.symm] using s2, by simpa [upd, a42, a52, a54, a82, a84, a85, a42.symm, a52.symm, a54.symm, a82.symm, a84.symm, a85.symm] using s4, by simpa [upd, a42, a52, a54, a82, a84, a85, a42.symm, a52.symm, a54.symm, a82.symm, a84.symm, a85.symm] using s5, by simpa [upd, a42, a52, a54, a82, a84, a85, a42.symm, a52.symm, a54.symm, a82.symm, a84.symm, a85.symm] using s8, by simpa [upd] using i0, by simpa [upd] using i1, by simpa [upd] using i2, fun _ => by simp⟩
        · simp at ho; subst ho
          have l0 := hp 0 (of_decide_eq_true (by kernel_rfl))
          have q0 := i0 l0
          rw [hLi] at s4
          simp [-List.contains_eq_mem, e1, e2, e4, e5, e8, s2, s4, s5, s8, q0, a42, a52, a54, a82, a84, a85, a42.symm, a52.symm, a54.symm, a82.symm, a84.symm, a85.symm]
          exact ⟨by simp [e1], by simp [e2], by simp [e4], by simp [e5], by simp [e8], by simpa [upd, a42, a52, a54, a82, a84, a85, a42.symm, a52.symm, a54.symm, a82.symm, a84.symm, a85.symm] using s2, by simp [upd], by simpa [upd, a42, a52, a54, a82, a84, a85, a42.symm, a52.symm, a54.symm, a82.symm, a84.symm, a85.symm] using s5, by simpa [upd, a42, a52, a54, a82, a84, a85, a42.symm, a52.symm, a54.symm, a82.symm, a84.symm, a85.symm] using s8, by simpa [upd] using i0, by simpa [upd] using i1, by simpa [upd] using i2, by simpa [upd] using i3⟩
      · clear e1 e2 e4 e5 e8 s2 s4 s5 s8
        rintro L fr σ hall ⟨e1, e2, e4, e5, e8, s2, s4, s5, s8, i0, i1, i2, i3⟩
        rw [hall 4 (by omega), if_pos rfl] at s4
        have q0 := i0 (hall 0 (by omega))
        have q1 := i1 (hall 1 (by omega))
        have q2 := i2 (hall 2 (by omega))
        have q3 := i3 (hall 3 (by omega))
        refine pops_pst TI_ok (show pT P0 TI false 33 _ _ [_, _] fr σ {} from ?_)
        simp [-List.contains_eq_mem, e1, e2, e4, e5, e8, s2, s4, s5, s8, q3, a42, a52, a54, a82, a84, a85, woR, netC, pkZ, hc]
  · simp (config := { contextual := true }) [netC, hq, hal, ha, netZ, pkZ]
end Go.Proofs.Ytgcoikbgpkfcnaa
