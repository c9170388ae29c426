/-
  The program logic 'Lo', part K: regions that draw their order, in the real machine. Nothing of the program.
-/
import Derived.Test.YtgcoikbgpkfcnaaLoJ
set_option linter.unusedSimpArgs false
set_option linter.unusedVariables false
namespace Go.Lo
open Go

section
variable {P : Program} {T : Tab} {rd : Bool} {n : Nat} {σ : Heap} {ops : Array Oper}

theorem wpInO_post {F : Fence} {m : Nat} {o : Oper} {a : Act} {w : World} {K K' : Act → World → Prop} {Q Q' : Exit → Act → World → Prop} (hK : ∀ a w, K a w → K' a w) (hq : ∀ e a w, Q e a w → Q' e a w) (h : o.wpIn F m P a w K Q) : o.wpIn F m P a w K' Q' := by
  have h' := Oper.wpIn_mono hK h
  refine ⟨h'.1, ?_⟩
  have h2 := h'.2
  generalize (o.semAt F.round a.eval).run P w = r at *
  unfold Oper.uponIn at *
  split <;> rename_i hr <;> simp only at h2
  · exact h2
  · exact h2
  · exact h2
  · exact ⟨h2.1, h2.2.mono fun e w' k => by
      cases e with
      | returned v => exact k
      | panicked ch => exact hq _ _ _ k
      | outgrown => obtain ⟨a0, w0, k⟩ := k; exact ⟨a0, w0, hq _ _ _ k⟩⟩
  · exact h2
  · exact ⟨h2.1, h2.2.mono fun e w' k => by
      cases e with
      | returned v => exact k
      | panicked ch => exact hq _ _ _ k
      | outgrown => obtain ⟨a0, w0, k⟩ := k; exact ⟨a0, w0, hq _ _ _ k⟩⟩
  · exact hq _ _ _ h2

theorem wpOpIn_post {F : Fence} {m : Nat} {i : Nat} {a : Act} {w : World} {K K' : Act → World → Prop} {Q Q' : Exit → Act → World → Prop} (hK : ∀ a w, K a w → K' a w) (hq : ∀ e a w, Q e a w → Q' e a w)
    (h : wpOpIn F m P ops Q i K a w) : wpOpIn F m P ops Q' i K' a w := by
  unfold wpOpIn at *
  split
  · rename_i ho; simp only [ho] at h; exact hK _ _ h
  · rename_i o ho
    simp only [ho] at h
    split
    · rename_i hw; rw [if_pos hw] at h; exact wpInO_post hK hq h
    · rename_i hw; rw [if_neg hw] at h; exact ⟨h.1, hK _ _ h.2⟩

theorem wpAnyIn_post {F : Fence} {m : Nat} {md : Region.Mode} {Q Q' : Exit → Act → World → Prop} (hq : ∀ e a w, Q e a w → Q' e a w) : ∀ (fuel : Nat) (listed : Array Bool) (a : Act) (w : World), wpAnyIn F m P md ops Q fuel listed a w → wpAnyIn F m P md ops Q' fuel listed a w := by
  intro fuel
  induction fuel with
  | zero => exact fun _ _ _ h => ⟨h.1, hq _ _ _ h.2⟩
  | succ fuel ih => exact fun listed a w h => ⟨fun h0 => hq _ _ _ (h.1 h0), fun i hi => wpOpIn_post (fun a w => ih _ a w) hq (h.2 i hi)⟩

def preds (ops : Array Oper) (j : Nat) : List Nat :=
  match ops[j]? with
  | some o => (o.after.toList.filter fun e => Region.binds .any e).map (·.on)
  | none => []
def ancGo (ops : Array Oper) : Nat → List Nat → List Nat
  | 0, acc => acc
  | i + 1, acc => if acc.any fun j => (preds ops j).contains i then ancGo ops i (i :: acc) else ancGo ops i acc
def drawB (ops : Array Oper) (k : Nat) : Bool :=
  lexK ops k k 0 (Array.replicate ops.size false) && decide (k ≤ ops.size) && ((List.range ops.size).all fun j => (preds ops j).all fun p => decide (p < j)) &&
    ((List.range ops.size).all fun t => decide (t < k) || ((List.range t).all fun p => (ancGo ops t [t]).contains p))

def closedL (ops : Array Oper) (listed : Array Bool) : Prop := ∀ j, listed.getD j false = true → ∀ p ∈ preds ops j, listed.getD p false = true

theorem anc_listed {listed : Array Bool} (hc : closedL ops listed) : ∀ (i : Nat) (acc : List Nat), (∀ j ∈ acc, ∀ p ∈ preds ops j, listed.getD p false = true) → ∀ p ∈ ancGo ops i acc, p ∈ acc ∨ listed.getD p false = true := by
  intro i
  induction i with
  | zero => intro acc _ p hp; exact .inl hp
  | succ i ih =>
    intro acc hacc p hp
    simp only [ancGo] at hp
    split at hp
    · rename_i ha
      obtain ⟨j, hj, hji⟩ := List.any_eq_true.1 ha
      have hi : listed.getD i false = true := hacc j hj i (by simpa using hji)
      rcases ih (i :: acc) (fun j' hj' p' hp' => by
        rcases List.mem_cons.1 hj' with rfl | hj'
        · exact hc _ hi _ hp'
        · exact hacc j' hj' p' hp') p hp with h | h
      · rcases List.mem_cons.1 h with rfl | h
        · exact .inr hi
        · exact .inl h
      · exact .inr h
    · exact ih acc hacc p hp

theorem ready_iff {j : Nat} {listed : Array Bool} (hs : listed.size = ops.size) : j ∈ Region.ready .any ops listed ↔ j < ops.size ∧ listed.getD j false = false ∧ ∀ p ∈ preds ops j, listed.getD p false = true := by
  rw [mem_ready]
  constructor
  · rintro ⟨h0, o, ho, h1⟩
    have hlt := (Array.getElem?_eq_some_iff.1 ho).1
    refine ⟨hlt, ?_, fun p hp => ?_⟩
    · have : j < listed.size := by omega
      simp [this] at h0 ⊢; exact h0
    · simp only [preds, ho, List.mem_map, List.mem_filter] at hp
      obtain ⟨e, ⟨he, hb⟩, rfl⟩ := hp
      exact h1 e (by simpa using he) hb
  · rintro ⟨hlt, h0, h1⟩
    refine ⟨?_, ops[j], by simp [hlt], fun e he hb => h1 _ ?_⟩
    · have : j < listed.size := by omega
      simp [this] at h0 ⊢; exact h0
    · simp only [preds, Array.getElem?_eq_getElem hlt, List.mem_map, List.mem_filter]
      exact ⟨e, ⟨by simpa using he, hb⟩, rfl⟩

theorem getD_set_iff {listed : Array Bool} {i j : Nat} (hi : i < listed.size) : (listed.setIfInBounds i true).getD j false = true ↔ j = i ∨ listed.getD j false = true := by
  by_cases h : i = j
  · subst h; simp [hi]
  · rw [getD_set_ne false h]
    constructor
    · exact .inr
    · rintro (rfl | h'); exact absurd rfl h; exact h'

theorem closed_set {listed : Array Bool} (hs : listed.size = ops.size) (hc : closedL ops listed) {i : Nat} (hr : i ∈ Region.ready .any ops listed) : closedL ops (listed.setIfInBounds i true) := by
  obtain ⟨h1, h2, h3⟩ := (ready_iff hs).1 hr
  intro j hj p hp
  rw [getD_set_iff (by omega)] at hj ⊢
  rcases hj with rfl | hj
  · exact .inr (h3 p hp)
  · exact .inr (hc j hj p hp)

theorem wpAnyIn_tail {F : Fence} {m : Nat} {Q : Exit → Act → World → Prop} (hF : ∀ f, F.fn f) (k : Nat) (hlt : ∀ j, j < ops.size → ∀ p ∈ preds ops j, p < j) (hanc : ∀ t, k ≤ t → t < ops.size → ∀ p, p < t → p ∈ ancGo ops t [t]) :
    ∀ (l : List Oper) (t : Nat) (listed : Array Bool) (a : Act) (w : World), k ≤ t → t ≤ ops.size → listed.size = ops.size → (∀ j, listed.getD j false = true ↔ j < t) → l = ops.toList.drop t → wpL F m P ops Q l a w →
      wpAnyIn F m P .any ops Q l.length listed a w := by
  intro l
  induction l with
  | nil =>
    intro t listed a w hk ht hs hl hd h
    have hts : ops.size ≤ t := by have := congrArg List.length hd; simp at this; omega
    refine ⟨List.eq_nil_iff_forall_not_mem.2 fun j hj => ?_, h⟩
    obtain ⟨h1, h2, _⟩ := (ready_iff hs).1 hj
    have := (hl j).2 (by omega)
    rw [h2] at this; cases this
  | cons o l ih =>
    intro t listed a w hk ht hs hl hd h
    have hts : t < ops.size := by have := congrArg List.length hd; simp at this; omega
    have hc : closedL ops listed := fun j hj p hp => by
      have := (hl j).1 hj
      exact (hl p).2 (by have := hlt j (by omega) p hp; omega)
    have ho : ops[t]? = some o := by
      have : (ops.toList.drop t)[0]? = some o := by rw [← hd]; rfl
      simpa using this
    have ht' : t ∈ Region.ready .any ops listed := (ready_iff hs).2 ⟨hts, by
      cases hx : listed.getD t false with
      | false => rfl
      | true => have := (hl t).1 hx; omega, fun p hp => (hl p).2 (hlt t hts p hp)⟩
    refine ⟨fun h0 => (by rw [h0] at ht'; cases ht'), fun i hi => ?_⟩
    obtain ⟨i1, i2, i3⟩ := (ready_iff hs).1 hi
    have hit : i = t := by
      rcases Nat.lt_trichotomy i t with h1 | h1 | h1
      · have := (hl i).2 h1; rw [i2] at this; cases this
      · exact h1
      · have hin := hanc i (by omega) i1 t h1
        rcases anc_listed hc i [i] (fun j hj p hp => by simp at hj; subst hj; exact i3 p hp) t hin with h2 | h2
        · simp at h2; omega
        · have := (hl t).1 h2; omega
    subst hit
    have next : ∀ a w, wpL F m P ops Q l a w → wpAnyIn F m P .any ops Q l.length (listed.setIfInBounds i true) a w := fun a w => ih (i + 1) _ a w (by omega) (by omega) (by simp [hs]) (fun j => by
      rw [getD_set_iff (by omega), hl j]; omega) (by
        have := congrArg List.tail hd
        simpa [List.tail_drop] using this)
    unfold wpOpIn
    simp only [ho]
    simp only [wpL] at h
    split
    · rename_i hw; rw [if_pos hw] at h; exact Oper.wpIn_mono next h
    · rename_i hw; rw [if_neg hw] at h; exact ⟨fun f _ => hF f, next _ _ h⟩

theorem pops_draw (hT : T.ok P) {k : Nat} {K : Fr → Prop} {Q : PX → Fr → Heap → Prop} (hlt : ∀ j, j < ops.size → ∀ p ∈ preds ops j, p < j) (hanc : ∀ t, k ≤ t → t < ops.size → ∀ p, p < t → p ∈ ancGo ops t [t]) (hk : k ≤ ops.size)
    (hK : ∀ fr, K fr → pops P rd n ops (ops.toList.drop k) Q fr σ) : ∀ (c : Nat) (listed : Array Bool) (fr : Fr), aAny P T σ n ops k K c listed fr → closedL ops listed → listed.size = ops.size → (∀ j, listed.getD j false = true → j < k) →
    ∀ (G : Gh) (W : World) (A : Act) (r : Option Nat) (m base : Nat), r.isSome = rd → HRel G W σ → TRel G W n fr A.tmps → DRel base W A.defers → base ≤ W.heap.size →
      wpAnyIn (FW r) m P .any ops (Post G W σ n base Q) (c + (ops.size - k)) listed A W := by
  intro c
  induction c with
  | zero =>
    intro listed fr h hc hs hb G W A r m base h1 h2 h3 h4 h5
    have all : ∀ j, j < k → listed.getD j false = true := by
      intro j
      induction j using Nat.strongRecOn with
      | _ j ih =>
        intro hj
        cases hx : listed.getD j false with
        | true => rfl
        | false => exact absurd ((ready_iff hs).2 ⟨by omega, hx, fun p hp => by have := hlt j (by omega) p hp; exact ih p this (by omega)⟩) (h.1 j hj)
    have := wpAnyIn_tail (F := FW r) (m := m) (P := P) (fun _ => trivial) k hlt hanc (ops.toList.drop k) k listed A W (Nat.le_refl _) hk hs (fun j => ⟨hb j, all j⟩) rfl (hK fr h.2 G W A r m base h1 h2 h3 h4 h5)
    rw [List.length_drop, Array.length_toList] at this
    rw [Nat.zero_add]; exact this
  | succ c ih =>
    intro listed fr h hc hs hb G W A r m base h1 h2 h3 h4 h5
    obtain ⟨⟨i0, hi0, hr0⟩, h⟩ := h
    rw [show c + 1 + (ops.size - k) = c + (ops.size - k) + 1 by omega]
    refine ⟨fun h0 => (by rw [h0] at hr0; cases hr0), fun i hi => ?_⟩
    obtain ⟨i1, i2, i3⟩ := (ready_iff hs).1 hi
    obtain ⟨_, j2, _⟩ := (ready_iff hs).1 hr0
    have hik : i < k := by
      rcases Nat.lt_or_ge i k with h' | h'
      · exact h'
      · have hin := hanc i h' i1 i0 (by omega)
        rcases anc_listed hc i [i] (fun j hj p hp => by simp at hj; subst hj; exact i3 p hp) i0 hin with h6 | h6
        · simp at h6; omega
        · rw [j2] at h6; cases h6
    obtain ⟨o, ho, hd, U, hU, hn⟩ := h i hik hi
    have step := ih (listed.setIfInBounds i true) (frSet fr o.dst U) hn (closed_set hs hc hi) (by simp [hs]) (fun j hj => by
      rw [getD_set_iff (by omega)] at hj
      rcases hj with rfl | hj
      · exact hik
      · exact hb j hj)
    have hdf : ∀ v, (A.put o.dst v).defers = A.defers := fun v => by cases o.dst <;> rfl
    have hdd : ∀ d, o.dst = some d → d < n := fun d hd' => by simpa [dstOk, hd'] using hd
    unfold wpOpIn
    simp only [ho]
    unfold YF at hU
    split at hU
    · rename_i hg
      rw [show Region.wanted o (yielded ops A.tmps) = true by simp [Region.wanted, hg], if_pos rfl]
      refine qop_of_evc hT hU.1 G W A r m h2 h3 _ _ fun G' W' v he hr hv => ?_
      have hT' := (h3.mono (he.ext h2)).put (hU.2 ▸ hv) hdd
      exact wpAnyIn_post (fun e a w q => q.trans he) _ _ _ _ (step G' W' _ r m base h1 hr hT' (by rw [hdf]; exact h4.evol h2 he) (Nat.le_trans h5 he.size))
    · rename_i gw hg
      obtain ⟨g, hgv, hD, hUe⟩ := hU
      rw [gval_spec hgv h3]
      cases g with
      | true =>
        rw [if_pos rfl]
        refine qop_of_evc hT (hD rfl) G W A r m h2 h3 _ _ fun G' W' v he hr hv => ?_
        have hT' := (h3.mono (he.ext h2)).put (V := U) (hUe ▸ VRel.gd true _ v (fun _ => hv) (fun e => by cases e)) hdd
        exact wpAnyIn_post (fun e a w q => q.trans he) _ _ _ _ (step G' W' _ r m base h1 hr hT' (by rw [hdf]; exact h4.evol h2 he) (Nat.le_trans h5 he.size))
      | false =>
        rw [if_neg (by simp)]
        have hT' := h3.put (V := U) (hUe ▸ VRel.gd false _ undef (fun e => by cases e) (fun _ => rfl)) hdd
        exact ⟨fun _ _ => trivial, step G W _ r m base h1 h2 hT' (by rw [hdf]; exact h4) h5⟩

/-- **A region that draws its order**: 'k' operations in any order that the edges allow, the rest behind them. -/
theorem pwp_draw (hT : T.ok P) {id k : Nat} {Q : PX → Fr → Heap → Prop} {fr : Fr} (hm : P.follows .mixedOrders = true) (hB : drawB ops k = true)
    (h : aLex P T σ n ops (fun fr' => pst P T rd n ops Q (ops.toList.drop k) fr' σ) (ops.toList.take k) fr) : pwp P rd n (.region id ops true) Q fr σ := by
  intro G W A r m base h1 h2 h3 h4 h5
  simp only [drawB, Bool.and_eq_true, decide_eq_true_eq, List.all_eq_true, List.mem_range, Bool.or_eq_true] at hB
  obtain ⟨⟨⟨b1, b2⟩, b3⟩, b4⟩ := hB
  refine wpIn_region_any hm ?_
  have qd := QEv.drew h2
  have he := qd.evol h2
  have hlen : (ops.toList.take k).length = k := by simp; omega
  have key := aAny_lex (P := P) (T := T) (σ := σ) (n := n) (ops := ops) (k := k) (ops.toList.take k) 0 (Array.replicate ops.size false) fr (fun j hj => by
    rw [hlen] at hj
    rw [List.getElem?_take, if_pos hj]; simp) (by rw [hlen]; exact b1) h
  rw [hlen] at key
  have := pops_draw (rd := rd) (Q := Q) hT b3 (fun t h1 h2 p hp => by
    rcases b4 t h2 with h6 | h6
    · omega
    · simpa using h6 p hp) b2 (fun fr hk => pops_pst hT hk) k _ fr key (fun j hj => by
      have : (Array.replicate ops.size false).getD j false = false := by
        rw [Array.getD_eq_getD_getElem?, Array.getElem?_replicate]; split <;> rfl
      rw [this] at hj; cases hj) (by simp) (fun j hj => by
      have : (Array.replicate ops.size false).getD j false = false := by
        rw [Array.getD_eq_getD_getElem?, Array.getElem?_replicate]; split <;> rfl
      rw [this] at hj; cases hj) G W.drew A r m base h1 (qd.hrel h2) (h3.mono (he.ext h2)) (h4.evol h2 he) (Nat.le_trans h5 he.size)
  rw [show k + (ops.size - k) = ops.size by omega] at this
  exact wpAnyIn_post (fun e a w q => q.trans he) _ _ _ _ this
end
end Go.Lo
