/-
  Network: what the functions compute, part K: the links that are cut, one after the other.
-/
import Derived.Test.YtgcoikbgpkfcnaaNwJ
set_option linter.unusedSimpArgs false
set_option linter.unusedVariables false
namespace Go.Proofs.Ytgcoikbgpkfcnaa
open Go.Lo

theorem minus_fresh {σ : Heap} {id : Nat} {x : PObj} (h : σ id = none) : (σ.set id x).minus (Heap.empty.set id x) = σ := by
  funext j
  show (if ((Heap.empty.set id x) j).isSome then none else (σ.set id x) j) = σ j
  unfold Heap.set Heap.empty
  by_cases e : j = id
  · subst e; simp [h]
  · simp [e]

@[simp] theorem frzN_yld (n : Nat) (σ : Heap) (L : Nat) : frzN n σ (.yld L) = .yld L := by cases n <;> rfl
/-! ### The links ahead of one -/
def preL (a b : Nat) : List Lk := allL.filter fun c => ltL c ((a : Int), (b : Int))
theorem preL_zero : preL 0 1 = [] := by decide +kernel
theorem preL_step : ∀ a b : Fin 16, a.val < b.val → preL a.val (b.val + 1) = preL a.val b.val ++ [((a.val : Int), (b.val : Int))] := by decide +kernel
theorem preL_row : ∀ a : Fin 16, preL a.val 16 = preL (a.val + 1) (a.val + 2) := by decide +kernel
theorem preL_all : preL 16 17 = allL := by decide +kernel
theorem preL_at : ∀ a b : Fin 16, a.val < b.val → allL = preL a.val b.val ++ ((a.val : Int), (b.val : Int)) :: allL.drop ((preL a.val b.val).length + 1) := by decide +kernel
def posC (P : Lk → Bool) (a b : Nat) : Nat := ((preL a b).filter P).length
theorem posC_step {P : Lk → Bool} {a b : Nat} (hb : b < 16) (hab : a < b) : posC P a (b + 1) = posC P a b + if P ((a : Int), (b : Int)) then 1 else 0 := by
  unfold posC
  rw [preL_step ⟨a, by omega⟩ ⟨b, hb⟩ hab, List.filter_append, List.length_append]
  congr 1
  simp only [List.filter_cons, List.filter_nil]
  split <;> rfl
theorem posC_row {P : Lk → Bool} {a : Nat} (ha : a < 16) : posC P a 16 = posC P (a + 1) (a + 2) := by
  unfold posC; rw [preL_row ⟨a, ha⟩]
def cVs (A : List Lk) (l : Lk) (on : Bool) : List (List PV) := (cutS A l on).map fun c => [.agg [num c.1, num c.2]]
theorem cVs_length (A : List Lk) (l : Lk) (on : Bool) : (cVs A l on).length = (cutS A l on).length := by simp [cVs]
theorem cVs_end (A : List Lk) (l : Lk) (on : Bool) : posC (cutP A l on) 16 17 = (cVs A l on).length := by
  unfold posC; rw [preL_all, cVs_length]; rfl
theorem cVs_get {A : List Lk} {l : Lk} {on : Bool} {a b : Nat} (hb : b < 16) (hab : a < b) (hP : cutP A l on ((a : Int), (b : Int)) = true) : ∃ h : posC (cutP A l on) a b < (cVs A l on).length, (cVs A l on)[posC (cutP A l on) a b] = [.agg [num (a : Int), num (b : Int)]] := by
  have e : cVs A l on = ((preL a b).filter (cutP A l on)).map (fun c => [PV.agg [num c.1, num c.2]]) ++ [.agg [num (a : Int), num (b : Int)]] :: ((allL.drop ((preL a b).length + 1)).filter (cutP A l on)).map fun c => [PV.agg [num c.1, num c.2]] := by
    unfold cVs cutS
    have h1 := preL_at ⟨a, by omega⟩ ⟨b, hb⟩ hab
    simp only at h1
    conv => lhs; rw [h1]
    rw [List.filter_append, List.filter_cons, if_pos hP, List.map_append, List.map_cons]
  have hl : (((preL a b).filter (cutP A l on)).map fun c => [PV.agg [num c.1, num c.2]]).length = posC (cutP A l on) a b := by simp [posC]
  refine ⟨by rw [e]; simp [posC], ?_⟩
  have : (cVs A l on)[posC (cutP A l on) a b]? = some [.agg [num (a : Int), num (b : Int)]] := by
    rw [e, List.getElem?_append_right (by rw [hl]; exact Nat.le_refl _), hl, Nat.sub_self]; rfl
  rw [List.getElem?_eq_getElem (by rw [e]; simp [posC])] at this
  exact Option.some.inj this
theorem cVs_one (A : List Lk) (l : Lk) (on : Bool) : ∀ v ∈ cVs A l on, v.length = 1 := fun v hv => by
  obtain ⟨c, _, rfl⟩ := List.mem_map.1 hv; rfl

def cIt (A : List Lk) (x y : Int) (on : Bool) : PV := .fn (.func 46) [] [.ref [num x, num y], .ref [bo on], .ref [encA false A]]
theorem cuts39_ok (A : List Lk) (x y : Int) (on : Bool) : PFun P0 39 [encA false A, .agg [num x, num y], bo on] (cIt A x y on) := by
  refine pcalls_frz ?_
  refine pcalls_body Try.func39 rfl rfl rfl (by show 3 ≤ _; decide) (pwp_go n_ok ?_)
  simp
  intro id3 id4 a1 id5 a2 a3
  refine ⟨2, ((Heap.empty.set id3 (.cells [encA false A])).set id4 (.cells [num x, num y])).set id5 (.cells [bo on]), ?_, ?_⟩
  · refine Frz.set (Frz.set (Frz.set Frz.none ?_) ?_) ?_ <;> simp [a1, a2, a3]
  · simp [frzO, a1, a2, a3, cIt]

theorem cutsIt {A : List Lk} {x y : Int} {on : Bool} (hA : A.length ≤ maxLen) : IterC P0 46 [] [.ref [num x, num y], .ref [bo on], .ref [encA false A]] (cVs A (x, y) on) := by
  intro L I R hI σ h0
  refine pcalls_body Try.func46 rfl rfl rfl (by show 4 ≤ _; decide) (pwp_goK TI_ok [7] ?_)
  simp
  refine pwp_loop (fun N fr σ => ∃ a : Nat, N = 16 - a ∧ a ≤ 16 ∧ fr 0 = .yld L ∧ fr 1 = .ref [num x, num y] ∧ fr 2 = .ref [bo on] ∧ fr 3 = .ref [encA false A] ∧ fr 8 = num a ∧ I (posC (cutP A (x, y) on) a (a + 1)) σ)
    (N := 16) ⟨0, by simp [posC, preL_zero, h0]⟩ ?_
  rintro N fr σ ⟨a, rfl, ha, e0, e1, e2, e3, e8, hI0⟩
  refine pwp_goK TI_ok [7] ?_
  by_cases hlt : a < 16
  · have hltI : (a : Int) < 16 := by omega
    have wa : IntKind.i64.wrap ((a : Int) + 1) = (a : Int) + 1 := wrap_i64 (by omega) (by omega)
    simp [e0, e1, e2, e3, e8, hltI, wa]
    refine pwp_loop (fun N fr σ => ∃ b : Nat, N = 16 - b ∧ a < b ∧ b ≤ 16 ∧ fr 0 = .yld L ∧ fr 1 = .ref [num x, num y] ∧ fr 2 = .ref [bo on] ∧ fr 3 = .ref [encA false A] ∧ fr 5 = num a ∧ fr 6 = num b ∧ fr 8 = num a ∧ I (posC (cutP A (x, y) on) a b) σ)
      (N := 15 - a) ⟨a + 1, by simp [e0, e1, e2, e3, e8, hI0]; omega⟩ ?_
    clear e0 e1 e2 e3 e8 hI0
    rintro N fr σ ⟨b, rfl, hab, hb, e0, e1, e2, e3, e5, e6, e8, hI0⟩
    refine pwp_goK TI_ok [7] ?_
    by_cases hbt : b < 16
    · have hbI : (b : Int) < 16 := by omega
      have wb : IntKind.i64.wrap ((b : Int) + 1) = (b : Int) + 1 := wrap_i64 (by omega) (by omega)
      simp [-NEW_def, e0, e1, e2, e3, e5, e6, e8, hbI]
      refine fun id7 h7 => ?_
      simp [e0, e1, e2, e3, e5, e6, e8, hbI]
      refine pwpT_go (pwp_frz 2 (Heap.empty.set id7 (.cells [num a, num b])) (Frz.set Frz.none (by simp)) ?_)
      rw [minus_fresh h7]
      refine pwp_gen (I := fun fr σ => fr 0 = .yld L ∧ fr 1 = .ref [num x, num y] ∧ fr 2 = .ref [bo on] ∧ fr 3 = .ref [encA false A] ∧ fr 5 = num a ∧ fr 6 = num b ∧ fr 7 = .ref [num a, num b] ∧ fr 8 = num a ∧ I (posC (cutP A (x, y) on) a b) σ) (by simp [e0, e1, e2, e3, e5, e6, e8, hI0]) ?_
      clear e0 e1 e2 e3 e5 e6 e8 hI0 h7
      rintro fr σ ⟨e0, e1, e2, e3, e5, e6, e7, e8, hI0⟩
      refine pwp_go TI_ok ?_
      have hst := posC_step (P := cutP A (x, y) on) hbt hab
      have fin : ∀ σ', I (posC (cutP A (x, y) on) a (b + 1)) σ' → ∃ N', N' < 16 - b ∧ ∃ b' : Nat, N' = 16 - b' ∧ a < b' ∧ b' ≤ 16 ∧ (b : Int) + 1 = (b' : Int) ∧ I (posC (cutP A (x, y) on) a b') σ' := fun σ' h =>
        ⟨16 - (b + 1), by omega, b + 1, rfl, by omega, by omega, by omega, h⟩
      have q20 : evBin P0 .eql 58 (.agg [num (a : Int), num (b : Int)]) (.agg [num x, num y]) = ⟨True, bo (decide ((a : Int) = x ∧ (b : Int) = y))⟩ := by
        rw [eq58']; congr 2; simp [Bool.decide_and, Bool.beq_eq_decide_eq]
      have q30 : evBin P0 .neq 58 (.agg [num (a : Int), num (b : Int)]) (.agg [num x, num y]) = ⟨True, bo (!decide ((a : Int) = x ∧ (b : Int) = y))⟩ := by
        rw [ne58']; congr 2; simp [Bool.decide_and, Bool.beq_eq_decide_eq]
      have hcp : cutP A (x, y) on ((a : Int), (b : Int)) = if (a : Int) = x ∧ (b : Int) = y then on else A.contains ((a : Int), (b : Int)) := by
        unfold cutP; simp [Prod.ext_iff]
      have nxt : ∀ σ', I (posC (cutP A (x, y) on) a (b + 1)) σ' → a < b + 1 ∧ b + 1 ≤ 16 ∧ I (posC (cutP A (x, y) on) a (b + 1)) σ' := fun σ' h => ⟨by omega, by omega, h⟩
      cases hP : cutP A (x, y) on ((a : Int), (b : Int)) with
      | true =>
        rw [hP] at hst hcp
        simp only [if_true] at hst
        obtain ⟨hl, hget⟩ := cVs_get (A := A) (l := (x, y)) (on := on) hbt hab hP
        by_cases hx : (a : Int) = x ∧ (b : Int) = y
        · rw [if_pos hx] at hcp
          subst hcp
          rw [decide_eq_true hx] at q20 q30
          simp [-eq58', -ne58', -List.contains_eq_mem, e0, e1, e2, e3, e5, e6, e7, e8, q20, q30]
          refine popsT_yield TI_ok (hI _ σ hl hI0) (by simp [e0]) (by simp) (by simp [e0, e1, e2, e3, e5, e6, e7, e8]) (by simp [e0, e1, e2, e3, e5, e6, e7, e8, hget]) ?_
          rintro o' σ' (⟨rfl, h1⟩ | ⟨rfl, h1⟩)
          · simp [e0, e1, e2, e3, e5, e6, e7, e8, wb]
            rw [← hst] at h1
            exact ⟨16 - (b + 1), by omega, b + 1, rfl, by omega, by omega, by omega, h1⟩
          · simp [e0, e1, e2, e3, e5, e6, e7, e8]
            exact .inr h1
        · rw [if_neg hx] at hcp
          rw [decide_eq_false hx] at q20 q30
          simp [-eq58', -ne58', -List.contains_eq_mem, e0, e1, e2, e3, e5, e6, e7, e8, q20, q30, ← hcp, hA]
          refine popsT_yield TI_ok (hI _ σ hl hI0) (by simp [e0]) (by simp) (by simp [e0, e1, e2, e3, e5, e6, e7, e8]) (by simp [e0, e1, e2, e3, e5, e6, e7, e8, hget]) ?_
          rintro o' σ' (⟨rfl, h1⟩ | ⟨rfl, h1⟩)
          · simp [e0, e1, e2, e3, e5, e6, e7, e8, wb]
            rw [← hst] at h1
            exact ⟨16 - (b + 1), by omega, b + 1, rfl, by omega, by omega, by omega, h1⟩
          · simp [e0, e1, e2, e3, e5, e6, e7, e8]
            exact .inr h1
      | false =>
        rw [hP] at hst hcp
        replace hst : posC (cutP A (x, y) on) a (b + 1) = posC (cutP A (x, y) on) a b := hst
        rw [← hst] at hI0
        by_cases hx : (a : Int) = x ∧ (b : Int) = y
        · rw [if_pos hx] at hcp
          subst hcp
          rw [decide_eq_true hx] at q20 q30
          simp [-eq58', -ne58', -List.contains_eq_mem, e0, e1, e2, e3, e5, e6, e7, e8, q20, q30, wb]
          exact ⟨16 - (b + 1), by omega, b + 1, rfl, by omega, by omega, by omega, hI0⟩
        · rw [if_neg hx] at hcp
          rw [decide_eq_false hx] at q20 q30
          simp [-eq58', -ne58', -List.contains_eq_mem, e0, e1, e2, e3, e5, e6, e7, e8, q20, q30, ← hcp, wb, hA]
          exact ⟨16 - (b + 1), by omega, b + 1, rfl, by omega, by omega, by omega, hI0⟩
    · have hb16 : b = 16 := by omega
      subst hb16
      rw [posC_row hlt] at hI0
      simp [e0, e1, e2, e3, e5, e6, e8, wa]
      exact ⟨16 - (a + 1), by omega, a + 1, rfl, by omega, by omega, hI0⟩
  · have ha16 : a = 16 := by omega
    subst ha16
    rw [cVs_end] at hI0
    simp [e0, e1, e2, e3, e8]
    exact .inl hI0
end Go.Proofs.Ytgcoikbgpkfcnaa
