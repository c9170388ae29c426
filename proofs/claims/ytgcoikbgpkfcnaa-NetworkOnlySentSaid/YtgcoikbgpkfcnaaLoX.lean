/-
  The program logic 'Lo', part X: regions that draw their order, by an invariant over the set of what is done. Nothing of the program.
-/
import Derived.Test.YtgcoikbgpkfcnaaLoW
set_option linter.unusedSimpArgs false
set_option linter.unusedVariables false
namespace Go.Lo
open Go

section
variable {P : Program} {T : Tab} {rd : Bool} {n : Nat} {σ : Heap} {ops : Array Oper} {fr : Fr}

/-- Done: one more. -/
def upd (L : Nat → Bool) (i : Nat) : Nat → Bool := fun j => j == i || L j
def QI (I : (Nat → Bool) → Fr → Heap → Prop) (L : Nat → Bool) : PX → Fr → Heap → Prop
  | .normal, fr, σ => I L fr σ
  | _, _, _ => False
@[simp] theorem QI_normal (I : (Nat → Bool) → Fr → Heap → Prop) (L : Nat → Bool) (fr : Fr) (σ : Heap) : QI I L .normal fr σ = I L fr σ := (rfl)
def undone (k : Nat) (listed : Array Bool) : Nat := ((List.range k).filter fun j => !listed.getD j false).length
theorem undone_zero {k : Nat} {listed : Array Bool} (h : undone k listed = 0) : ∀ j, j < k → listed.getD j false = true := fun j hj => by
  unfold undone at h
  rw [List.length_eq_zero_iff, List.filter_eq_nil_iff] at h
  have := h j (List.mem_range.2 hj)
  simpa using this
theorem filter_one {p q : Nat → Bool} {i : Nat} (hi : p i = true) (hq : ∀ j, q j = (p j && !(j == i))) : ∀ k, i < k → ((List.range k).filter p).length = ((List.range k).filter q).length + 1 := by
  intro k
  induction k with
  | zero => intro h; omega
  | succ k ih =>
    intro h
    rw [List.range_succ, List.filter_append, List.filter_append, List.length_append, List.length_append]
    rcases Nat.lt_or_ge i k with h1 | h1
    · rw [ih h1]
      have : q k = p k := by rw [hq, show (k == i) = false by simp; omega]; simp
      simp only [List.filter_cons, List.filter_nil, this]
      omega
    · have e : i = k := by omega
      subst e
      have hs : (List.range i).filter p = (List.range i).filter q := List.filter_congr fun j hj => by
        have := List.mem_range.1 hj
        rw [hq, show (j == i) = false by simp; omega]; simp
      rw [hs]
      simp [List.filter_cons, hi, hq]
theorem undone_set {k i : Nat} {listed : Array Bool} (hi : i < k) (hs : i < listed.size) (h : listed.getD i false = false) : undone k listed = undone k (listed.setIfInBounds i true) + 1 := by
  unfold undone
  refine filter_one (i := i) (by simpa using h) (fun j => ?_) k hi
  by_cases e : j = i
  · subst e
    have := (getD_set_iff (listed := listed) (j := j) hs).2 (.inl rfl)
    rw [this]; simp
  · rw [getD_set_ne false (Ne.symm e)]
    simp [e]

theorem wpInO_postN {F : Fence} {m : Nat} {o : Oper} {a : Act} {w : World} {K K' : Act → World → Prop} {Q Q' : Exit → Act → World → Prop} (hK : ∀ a w, K a w → K' a w) (hq : ∀ e a w, e ≠ .normal → Q e a w → Q' e a w) (h : o.wpIn F m P a w K Q) : o.wpIn F m P a w K' Q' := by
  have h' := Oper.wpIn_mono hK h
  refine ⟨h'.1, ?_⟩
  have h2 := h'.2
  generalize (o.semAt F.round a.eval).run P w = r at *
  unfold Oper.uponIn at *
  split <;> rename_i hr <;> simp only at h2
  · exact h2
  · exact h2
  · exact h2
  · exact ⟨h2.1, h2.2.mono fun e w' k => by
      cases e with
      | returned v => exact k
      | panicked ch => exact hq _ _ _ (by simp) k
      | outgrown => obtain ⟨a0, w0, k⟩ := k; exact ⟨a0, w0, hq _ _ _ (by simp) k⟩⟩
  · exact h2
  · exact ⟨h2.1, h2.2.mono fun e w' k => by
      cases e with
      | returned v => exact k
      | panicked ch => exact hq _ _ _ (by simp) k
      | outgrown => obtain ⟨a0, w0, k⟩ := k; exact ⟨a0, w0, hq _ _ _ (by simp) k⟩⟩
  · exact hq _ _ _ (by simp) h2

theorem pops_drawI {k : Nat} {I : (Nat → Bool) → Fr → Heap → Prop} {Q : PX → Fr → Heap → Prop} (hlt : ∀ j, j < ops.size → ∀ p ∈ preds ops j, p < j) (hanc : ∀ t, k ≤ t → t < ops.size → ∀ p, p < t → p ∈ ancGo ops t [t]) (hk : k ≤ ops.size)
    (hI : ∀ (L : Nat → Bool) fr σ i o, i < k → ops[i]? = some o → L i = false → (∀ p ∈ preds ops i, L p = true) → I L fr σ → pops P rd n ops [o] (QI I (upd L i)) fr σ)
    (hK : ∀ (L : Nat → Bool) fr σ, (∀ i, i < k → L i = true) → I L fr σ → pops P rd n ops (ops.toList.drop k) Q fr σ) : ∀ (c : Nat) (listed : Array Bool) (fr : Fr) (σ : Heap), I (fun j => listed.getD j false) fr σ → undone k listed = c → closedL ops listed → listed.size = ops.size → (∀ j, listed.getD j false = true → j < k) →
    ∀ (G : Gh) (W : World) (A : Act) (r : Option Nat) (m base : Nat), r.isSome = rd → HRel G W σ → TRel G W n fr A.tmps → DRel base W A.defers → base ≤ W.heap.size →
      wpAnyIn (FW r) m P .any ops (Post G W σ n base Q) (c + (ops.size - k)) listed A W := by
  intro c
  induction c with
  | zero =>
    intro listed fr σ h hu hc hs hb G W A r m base h1 h2 h3 h4 h5
    have all := undone_zero hu
    have := wpAnyIn_tail (F := FW r) (m := m) (P := P) (fun _ => trivial) k hlt hanc (ops.toList.drop k) k listed A W (Nat.le_refl _) hk hs (fun j => ⟨hb j, all j⟩) rfl (hK _ fr σ all h G W A r m base h1 h2 h3 h4 h5)
    rw [List.length_drop, Array.length_toList] at this
    rw [Nat.zero_add]; exact this
  | succ c ih =>
    intro listed fr σ h hu hc hs hb G W A r m base h1 h2 h3 h4 h5
    have ex : ∃ i0, i0 < k ∧ i0 ∈ Region.ready .any ops listed := by
      by_cases hne : ∃ j, j < k ∧ listed.getD j false = false
      · obtain ⟨j, hj, hf⟩ := hne
        have : ∀ j, j < k → listed.getD j false = false → ∃ i0, i0 < k ∧ i0 ∈ Region.ready .any ops listed := by
          intro j
          induction j using Nat.strongRecOn with
          | _ j ih2 =>
            intro hj hf
            by_cases hp : ∀ p ∈ preds ops j, listed.getD p false = true
            · exact ⟨j, hj, (ready_iff hs).2 ⟨by omega, hf, hp⟩⟩
            · rw [Classical.not_forall] at hp
              obtain ⟨p, hp⟩ := hp
              rw [Classical.not_imp] at hp
              have hpj := hlt j (by omega) p hp.1
              exact ih2 p hpj (by omega) (by simpa using hp.2)
        exact this j hj hf
      · exfalso
        have : undone k listed = 0 := by
          unfold undone
          rw [List.length_eq_zero_iff, List.filter_eq_nil_iff]
          intro j hj
          have hj := List.mem_range.1 hj
          cases hx : listed.getD j false with
          | true => simp
          | false => exact absurd ⟨j, hj, hx⟩ hne
        omega
    obtain ⟨i0, hi0, hr0⟩ := ex
    rw [show c + 1 + (ops.size - k) = c + (ops.size - k) + 1 by omega]
    refine ⟨fun h0 => (by rw [h0] at hr0; cases hr0), fun i hi => ?_⟩
    obtain ⟨i1, i2, i3⟩ := (ready_iff hs).1 hi
    obtain ⟨_, j2, _⟩ := (ready_iff hs).1 hr0
    have hik : i < k := by
      rcases Nat.lt_or_ge i k with h' | h'
      · exact h'
      · have hin := hanc i h' i1 i0 (by omega)
        rcases anc_listed hc i [i] (fun j hj p hp => by simp at hj; subst hj; exact i3 p hp) i0 hin with h6 | h6
        · simp at h6; omega
        · rw [j2] at h6; cases h6
    have ho : ops[i]? = some ops[i] := by simp [i1]
    have step := hI _ fr σ i ops[i] hik ho i2 i3 h G W A r m base h1 h2 h3 h4 h5
    have eL : (fun j => (listed.setIfInBounds i true).getD j false) = upd (fun j => listed.getD j false) i := by
      funext j
      unfold upd
      by_cases e : j = i
      · subst e
        rw [(getD_set_iff (by omega)).2 (.inl rfl)]; simp
      · rw [getD_set_ne false (Ne.symm e)]; simp [e]
    have next : ∀ a w, Post G W σ n base (QI I (upd (fun j => listed.getD j false) i)) .normal a w → wpAnyIn (FW r) m P .any ops (Post G W σ n base Q) (c + (ops.size - k)) (listed.setIfInBounds i true) a w := by
      rintro a w ⟨pe, fr', σ', G', q1, q2, q3, q4, q5, q6⟩
      cases pe <;> simp only [QI] at q1
      have := ih (listed.setIfInBounds i true) fr' σ' (by rw [eL]; exact q1) (by have := undone_set hik (show i < listed.size by omega) i2; omega) (closed_set hs hc hi) (by simp [hs]) (fun j hj => by
        rw [getD_set_iff (by omega)] at hj
        rcases hj with rfl | hj
        · exact hik
        · exact hb j hj) G' w a r m base h1 q4 q5 q6 (Nat.le_trans h5 q3.size)
      exact wpAnyIn_post (fun e a w q => q.trans q3) _ _ _ _ this
    have bad : ∀ e a w, e ≠ .normal → Post G W σ n base (QI I (upd (fun j => listed.getD j false) i)) e a w → False := by
      rintro e a w hne ⟨pe, fr', σ', G', q1, q2, _⟩
      cases pe <;> simp only [QI] at q1
      cases e <;> simp only [XRel] at q2
      exact hne rfl
    unfold wpOpIn
    simp only [ho]
    simp only [wpL] at step
    split
    · rename_i hw
      rw [if_pos hw] at step
      exact wpInO_postN next (fun e a w he k => (bad e a w he k).elim) step
    · rename_i hw
      rw [if_neg hw] at step
      exact ⟨fun _ _ => trivial, next _ _ step⟩

/-- **A region that draws its order**, by an invariant over the set of what is done. -/
theorem pwp_drawI {id k : Nat} {I : (Nat → Bool) → Fr → Heap → Prop} {Q : PX → Fr → Heap → Prop} (hm : P.follows .mixedOrders = true) (hB : ((List.range ops.size).all fun j => (preds ops j).all fun p => decide (p < j)) = true) (hA : ((List.range ops.size).all fun t => decide (t < k) || ((List.range t).all fun p => (ancGo ops t [t]).contains p)) = true) (hk : k ≤ ops.size)
    (h0 : I (fun _ => false) fr σ)
    (hI : ∀ (L : Nat → Bool) fr σ i o, i < k → ops[i]? = some o → L i = false → (∀ p ∈ preds ops i, L p = true) → I L fr σ → pops P rd n ops [o] (QI I (upd L i)) fr σ)
    (hK : ∀ (L : Nat → Bool) fr σ, (∀ i, i < k → L i = true) → I L fr σ → pops P rd n ops (ops.toList.drop k) Q fr σ) : pwp P rd n (.region id ops true) Q fr σ := by
  intro G W A r m base h1 h2 h3 h4 h5
  simp only [decide_eq_true_eq, List.all_eq_true, List.mem_range, Bool.or_eq_true] at hB hA
  refine wpIn_region_any hm ?_
  have qd := QEv.drew h2
  have he := qd.evol h2
  have hf0 : ∀ j, (Array.replicate ops.size false).getD j false = false := fun j => by
    rw [Array.getD_eq_getD_getElem?, Array.getElem?_replicate]; split <;> rfl
  have hu : undone k (Array.replicate ops.size false) = k := by
    unfold undone
    rw [List.filter_eq_self.2 (fun j _ => by rw [hf0 j]; rfl)]; simp
  have := pops_drawI (rd := rd) (Q := Q) (k := k) (I := I) hB (fun t h1 h2 p hp => by
    rcases hA t h2 with h6 | h6
    · omega
    · simpa using h6 p hp) hk hI hK k (Array.replicate ops.size false) fr σ (by rw [show (fun j => (Array.replicate ops.size false).getD j false) = fun _ => false from funext hf0]; exact h0) hu (fun j hj => by
      rw [hf0 j] at hj; cases hj) (by simp) (fun j hj => by
      rw [hf0 j] at hj; cases hj) G W.drew A r m base h1 (qd.hrel h2) (h3.mono (he.ext h2)) (h4.evol h2 he) (Nat.le_trans h5 he.size)
  rw [show k + (ops.size - k) = ops.size by omega] at this
  exact wpAnyIn_post (fun e a w q => q.trans he) _ _ _ _ this
end

/-- .. and the new memory is new. -/
theorem own_appendF {P : Program} {σ : Heap} {k b : Nat} {v y : PV} {rows new : List (List PV)} {t t2 : TypeId} {zs : List PV} {C : PV → Heap → Prop} (h : Own k σ v rows) (he : elemB P t = some (b, zs)) (hb : b ≤ 4096) (hk : zs.length = k) (h0 : 0 < k) (hs : isSliceT P t2 = true)
    (hy : (yv σ k y).D ∧ (yv σ k y).n = new.length ∧ (yv σ k y).cs = new.flatten) (hnew : ∀ r ∈ new, r.length = k ∧ ∀ c ∈ r, isCell1 c = true) (hmax : rows.length + new.length ≤ 4294967296)
    (hC : ∀ V σ', Own k σ' V (rows ++ new) → Keeps v σ σ' → (new ≠ [] → ∃ id, V = .msl id k 0 (rows ++ new).length false ∧ σ' id = some (.cells (rows ++ new).flatten) ∧ σ id = none) → C V σ') : appendP P σ t t2 v y C := by
  have hrows : ∀ r ∈ rows ++ new, r.length = k := fun r hr => (List.mem_append.1 hr).elim (h.1 r) fun x => (hnew r x).1
  have hone : ∀ c ∈ new.flatten, isCell1 c = true := fun c hc => by obtain ⟨r, h1, h2⟩ := List.mem_flatten.1 hc; exact (hnew r h1).2 c h2
  obtain ⟨x1, x2, x3⟩ := own_yv h
  obtain ⟨y1, y2, y3⟩ := hy
  unfold appendP
  rw [he]
  simp only [hk]
  refine ⟨hs, hb, by rw [← List.length_pos_iff, hk]; exact h0, y1, x1, by rw [x2, y2]; exact hmax, ?_⟩
  have fresh : ∀ id, σ id = none → C (.msl id k 0 (rows.length + new.length) false) (σ.set id (.cells (rows.flatten ++ new.flatten))) := fun id hid =>
    hC _ _ ⟨hrows, .inr (.inl ⟨id, false, by simp, by simp [Heap.set]⟩)⟩ (fun j hj _ => by
      have : j ≠ id := fun e => hj (e ▸ hid)
      simp [Heap.set, this]) fun _ => ⟨id, by simp, by simp [Heap.set], hid⟩
  have same : new.length = 0 → C v σ := fun e => by
    have : new = [] := List.length_eq_zero_iff.1 e
    subst this
    exact hC _ _ (by simpa using h) (fun _ _ _ => rfl) fun h => absurd rfl h
  rcases h.2 with ⟨rfl, rfl⟩ | ⟨id0, full, rfl, ho⟩ | rfl
  · simp only
    rw [y2, x2, y3, x3]
    exact ⟨same, fun _ => fresh⟩
  · cases full with
    | true =>
      simp only
      rw [y2, x2, y3, x3]
      exact ⟨same, fun _ => fresh⟩
    | false =>
      have hl := (flatten_getD h.1).1
      simp only [ho]
      rw [y2, y3, x3]
      refine ⟨by rw [hl]; omega, hone, fun id hid => ?_⟩
      refine hC _ _ ⟨hrows, .inr (.inl ⟨id, false, by simp, by simp [Heap.set]⟩)⟩ (fun j hj hv => ?_) fun _ => ⟨id, by simp, by simp [Heap.set], hid⟩
      have h1 : j ≠ id := fun e => hj (e ▸ hid)
      have h2 : j ≠ id0 := fun e => hv _ _ _ _ (by rw [e])
      simp [Heap.set, Heap.del, h1, h2]
  · simp only
    rw [y2, x2, y3, x3]
    exact ⟨same, fun _ => fresh⟩

end Go.Lo
