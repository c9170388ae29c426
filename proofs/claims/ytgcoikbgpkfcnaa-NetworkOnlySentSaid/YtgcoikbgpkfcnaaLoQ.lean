/-
  The program logic 'Lo', part Q: iterators and their loops, each with its own memory. Nothing of the program.
-/
import Derived.Test.YtgcoikbgpkfcnaaLoP
set_option linter.unusedSimpArgs false
set_option linter.unusedVariables false
namespace Go.Lo
open Go

section
variable {P : Program} {rd : Bool} {n : Nat} {fr : Fr} {σ : Heap}

theorem patch_set {σ σ1 : Heap} {id : Nat} {x : PObj} (hid : σ id = none) (h1 : σ1 id = none) : (σ.set id x).patch σ σ1 = σ1.set id x := by
  funext j
  unfold Heap.patch Heap.set
  by_cases e : j = id
  · subst e; simp [h1, hid]
  · simp only [if_neg e]
    cases h2 : σ1 j with
    | some y => simp
    | none =>
      simp only [Option.isSome_none, Bool.false_eq_true, if_false]
      cases h3 : σ j with
      | some y => simp
      | none => simp

theorem pwp.beside {c : Code} {Q : PX → Fr → Heap → Prop} {id : Nat} {x : PObj} (h : pwp P rd n c Q fr σ) (hid : σ id = none) :
    pwp P rd n c (fun pe fr' σ' => ∃ σ1, σ1 id = none ∧ σ' = σ1.set id x ∧ Q pe fr' σ1) fr (σ.set id x) := by
  have hs : ∀ j y, σ j = some y → (σ.set id x) j = some y := fun j y hy => by
    rw [Heap.set_apply, if_neg (fun e => by subst e; rw [hid] at hy; cases hy)]; exact hy
  intro G W A r m base h1 h2 h3 h4 h5
  refine wpIn_mono (h G W A r m base h1 (h2.less hs) h3 h4 h5) fun e A' W' k => ?_
  obtain ⟨pe, fr', σ1, G', k1, k2, k3, k4, k5, k6⟩ := k
  obtain ⟨p1, p2⟩ := frame_patch hs h2 k3 k4
  have hn : σ1 id = none := by
    cases hx : σ1 id with
    | none => rfl
    | some y =>
      rcases k3.fresh id (by rw [hx]; simp) with q | q
      · exact absurd hid q
      · obtain ⟨loc, l1, _⟩ := h2.obj id x (by simp [Heap.set])
        rw [q] at l1; cases l1
  rw [patch_set hid hn] at p1 p2
  exact ⟨pe, fr', σ1.set id x, G', ⟨σ1, hn, rfl, k1⟩, k2, p2, p1, k5, k6⟩

/-- A function that yields 'vs', one after another, as long as it is let. -/
def IterC (P : Program) (f : FuncId) (first cap : List PV) (vs : List (List PV)) : Prop :=
  ∀ (L : Nat) (I : Nat → Heap → Prop) (R : Heap → Prop),
    (∀ k σ (h : k < vs.length), I k σ → yruns P L vs[k] σ fun o σ' => (o = .val (.lit (.bool true)) ∧ I (k + 1) σ') ∨ (o = .val (.lit (.bool false)) ∧ R σ')) →
    ∀ σ, I 0 σ → pcalls P f (first ++ [.yld L] ++ cap) σ fun o σ' => (∃ v, o = .val v) ∧ (I vs.length σ' ∨ R σ')

/-- What a round's end means to the loop's function. -/
def rndK (P : Program) (n : Nat) (Q : PX → Fr → Heap → Prop) (fr : Fr) (J : Heap → Prop) : PX → Fr → Heap → Prop
  | .normal, _, σ => J σ
  | .ret, _, σ => pwp P false n .ret Q fr σ
  | .exit id, _, σ => pwp P false n (.exit id) Q fr σ
  | .goto l, _, σ => pwp P false n (.goto l) Q fr σ
  | .pan _, _, _ => False

/-- **A range over an iterator.** -/
theorem pwp_range {g : Operand} {ps : Array Tmp} {as bd : Code} {Q : PX → Fr → Heap → Prop} {f : FuncId} {first cap : List PV} {vs : List (List PV)} (hit : IterC P f first cap vs) (hg : sv (opv fr g) = .fn (.func f) first cap) (hga : avt (opv fr g)) (he : Enters P f)
    (hps : ∀ v ∈ vs, ps.size = v.length) (hlt : ∀ t ∈ ps.toList, t < n) (J : Nat → Heap → Prop) (h0 : J 0 σ)
    (round : ∀ k σ (h : k < vs.length), J k σ → pwp P true n as (PX.thn (fun fr1 σ1 => pwp P true n bd (rndK P n Q fr (J (k + 1))) fr1 σ1) (fun _ _ _ => False)) (setPs fr ps.toList vs[k]) σ)
    (hend : ∀ σ, J vs.length σ → Q .normal fr σ) : pwp P false n (.rangeFunc g ps as bd) Q fr σ := by
  refine pwp_rangeFunc hg hga he fun L hL => ?_
  refine (hit L (fun k σL => ∃ σ, σ L = none ∧ σL = σ.set L (.loop fr n ps as bd .ready none) ∧ J k σ) (fun σL => ∃ σ c, σ L = none ∧ σL = σ.set L (.loop fr n ps as bd .done (some c)) ∧ pwp P false n c Q fr σ) ?_ _ ⟨σ, hL, rfl, h0⟩).mono ?_
  · rintro k σL hk ⟨σ, hn, rfl, hJ⟩
    refine yruns_body (frL := fr) (nL := n) (ps := ps) (as := as) (bd := bd) (pe := none) (by simp [Heap.set]) (hps _ (List.getElem_mem hk)) hlt ?_
    refine pwp_mono ((round k σ hk hJ).beside (x := .loop fr n ps as bd .ready none) hn) fun pe fr1 σ1L k1 => ?_
    obtain ⟨σ1, hn1, rfl, k2⟩ := k1
    cases pe with
    | normal =>
      refine ⟨none, by simp [Heap.set], ?_⟩
      have hset : (σ1.set L (.loop fr n ps as bd .ready none)).set L (.loop fr n ps as bd .busy none) = σ1.set L (.loop fr n ps as bd .busy none) := by
        funext j; unfold Heap.set; split <;> rfl
      rw [hset]
      have k2 : pwp P true n bd (rndK P n Q fr (J (k + 1))) fr1 σ1 := k2
      refine pwp_mono (k2.beside (x := .loop fr n ps as bd .busy none) hn1) fun pe fr2 σ2L k3 => ?_
      obtain ⟨σ2, hn2, rfl, k4⟩ := k3
      have hset2 : ∀ o, (σ2.set L (.loop fr n ps as bd .busy none)).set L o = σ2.set L o := fun o => by
        funext j; unfold Heap.set; split <;> rfl
      have here : ∃ st pe, (σ2.set L (.loop fr n ps as bd .busy none)) L = some (.loop fr n ps as bd st pe) := ⟨_, _, by simp [Heap.set]; exact ⟨rfl, rfl⟩⟩
      cases pe with
      | normal => exact ⟨here, .inl ⟨rfl, σ2, hn2, hset2 _, k4⟩⟩
      | ret => exact ⟨here, .inr ⟨rfl, σ2, _, hn2, hset2 _, k4⟩⟩
      | exit id => exact ⟨here, .inr ⟨rfl, σ2, _, hn2, hset2 _, k4⟩⟩
      | goto l => exact ⟨here, .inr ⟨rfl, σ2, _, hn2, hset2 _, k4⟩⟩
      | pan v => exact k4
    | exit id => exact k2
    | goto l => exact k2
    | ret => exact k2
    | pan v => exact k2
  · rintro o σ' ⟨⟨v, rfl⟩, h⟩
    have hdel : ∀ (σ2 : Heap) o, σ2 L = none → (σ2.set L o).del L = σ2 := fun σ2 o hn => by
      funext j; unfold Heap.set Heap.del; by_cases e : j = L
      · subst e; simp [hn]
      · simp [e]
    rcases h with ⟨σ2, hn, rfl, hJ⟩ | ⟨σ2, c, hn, rfl, hc⟩
    · refine ⟨.ready, none, by simp [Heap.set], by simp, ?_⟩
      rw [hdel _ _ hn]; exact hend _ hJ
    · refine ⟨.done, some c, by simp [Heap.set], by simp, ?_⟩
      rw [hdel _ _ hn]; exact hc

/-- What reads as p reads as q. -/
def PLe (p q : PV) : Prop := ∀ G W v, VRel G W p v → VRel G W q v
theorem PLe.refl (p : PV) : PLe p p := fun _ _ _ h => h
theorem PLe.nil (full : Bool) : PLe (.lit (.slice none 0 0)) (.slice full []) := fun G W v h => by
  have := lit_inv h
  subst this
  exact .nilsl _ _ _ (fun _ => rfl)
theorem PLe.unfull (full : Bool) (rows : List (List PV)) : PLe (.slice full rows) (.slice false rows) := fun _ _ _ h => h.unfull
inductive PLeL : List PV → List PV → Prop
  | nil : PLeL [] []
  | cons {p q : PV} {ps qs : List PV} : PLe p q → PLeL ps qs → PLeL (p :: ps) (q :: qs)
theorem PLeL.get {ps qs : List PV} (h : PLeL ps qs) : ps.length = qs.length ∧ ∀ i, i < qs.length → PLe (ps.getD i .any) (qs.getD i .any) := by
  induction h with
  | nil => exact ⟨rfl, fun i hi => by simp at hi⟩
  | cons h1 _ ih =>
    refine ⟨by simp [ih.1], fun i hi => ?_⟩
    cases i with
    | zero => exact h1
    | succ i => simpa using ih.2 i (by simpa using hi)
theorem pcalls.args {f : FuncId} {args args' : List PV} {K : Out → Heap → Prop} (h : pcalls P f args' σ K) (hle : PLeL args args') : pcalls P f args σ K := fun G W xs m h1 h2 => by
  obtain ⟨l1, l2⟩ := hle.get
  exact h G W xs m h1 ⟨by rw [h2.1, l1], fun i hi => l2 i hi _ _ _ (h2.2 i (by omega))⟩
end
end Go.Lo
