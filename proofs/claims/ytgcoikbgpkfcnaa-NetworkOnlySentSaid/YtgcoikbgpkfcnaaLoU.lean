/-
  The program logic 'Lo', part U: regions that draw their order and make memory once among the drawn operations. Nothing of the program.
-/
import Derived.Test.YtgcoikbgpkfcnaaLoT
set_option linter.unusedSimpArgs false
set_option linter.unusedVariables false
namespace Go.Lo
open Go

section
variable {P : Program} {T : Tab} {rd : Bool} {n : Nat} {σ : Heap} {ops : Array Oper} {fr : Fr}

/-! ### Draws over any relation -/
def aOpY (ops : Array Oper) (n : Nat) (Y : Nat → Oper → PV → Fr → Prop) (i : Nat) (K : Fr → Prop) (fr : Fr) : Prop := ∃ o, ops[i]? = some o ∧ dstOk n o = true ∧ ∃ U, Y i o U fr ∧ K (frSet fr o.dst U)
def aAnyY (ops : Array Oper) (n : Nat) (Y : Nat → Oper → PV → Fr → Prop) (k : Nat) (K : Fr → Prop) : Nat → Array Bool → Fr → Prop
  | 0, listed, fr => (∀ j, j < k → j ∉ Region.ready .any ops listed) ∧ K fr
  | m + 1, listed, fr => (∃ i, i < k ∧ i ∈ Region.ready .any ops listed) ∧ ∀ i, i < k → i ∈ Region.ready .any ops listed → aOpY ops n Y i (aAnyY ops n Y k K m (listed.setIfInBounds i true)) fr
def aLexY (ops : Array Oper) (n : Nat) (Y : Nat → Oper → PV → Fr → Prop) (K : Fr → Prop) : List Oper → Nat → Fr → Prop
  | [], _, fr => K fr
  | o :: l, i, fr => dstOk n o = true ∧ ∃ U, Y i o U fr ∧ aLexY ops n Y K l (i + 1) (frSet fr o.dst U)

/-- What an operation yields does not hang on slots that it does not look at. -/
def SetInv (ops : Array Oper) (Y : Nat → Oper → PV → Fr → Prop) : Prop := ∀ i o U fr dst V, (∀ d, dst = some d → d ∉ o.looksAt ops) → (Y i o U (frSet fr dst V) ↔ Y i o U fr)

theorem aAnyY_first {Y : Nat → Oper → PV → Fr → Prop} (hY : SetInv ops Y) {k : Nat} {K : Fr → Prop} {i : Nat} {oi : Oper} {U : PV} (hi : ops[i]? = some oi) (hik : i < k) (hdi : dstOk n oi = true) :
    ∀ (m : Nat) (listed : Array Bool) (fr : Fr),
      (∀ j oj, j < k → ops[j]? = some oj → j ≠ i → listed.getD j true = false → (∀ e ∈ oj.after, Region.binds .any e = true → e.on ≠ i) → oi.apart ops oj = true) →
      i ∈ Region.ready .any ops listed → Y i oi U fr →
      aAnyY ops n Y k K m (listed.setIfInBounds i true) (frSet fr oi.dst U) → aAnyY ops n Y k K (m + 1) listed fr := by
  intro m
  induction m with
  | zero =>
    intro listed fr _ hr hy H
    refine ⟨⟨i, hik, hr⟩, fun j hjk hj => ?_⟩
    by_cases hji : j = i
    · subst hji; exact ⟨oi, hi, hdi, U, hy, H⟩
    · exact absurd (ready_mono hj hji) (H.1 j hjk)
  | succ m ih =>
    intro listed fr hfree hr hy H
    refine ⟨⟨i, hik, hr⟩, fun j hjk hj => ?_⟩
    by_cases hji : j = i
    · subst hji; exact ⟨oi, hi, hdi, U, hy, H⟩
    · obtain ⟨oj, hoj, hdj, V, hyj, H1⟩ := H.2 j hjk (ready_mono hj hji)
      obtain ⟨hjun, oj', hoj', hall⟩ := mem_ready.1 hj
      rw [hoj] at hoj'; cases hoj'
      have hnot : ∀ e ∈ oj.after, Region.binds .any e = true → e.on ≠ i := fun e he hb heq => by
        have h1 := hall e he hb
        have h0 := (mem_ready.1 hr).1
        rw [heq] at h1
        rcases Nat.lt_or_ge i listed.size with h' | h'
        · simp [h'] at h0 h1; rw [h0] at h1; cases h1
        · simp [Array.getElem?_eq_none h'] at h1
      have hap := hfree j oj hjk hoj hji hjun hnot
      obtain ⟨a1, a2, a3⟩ := Oper.apart_spec hap
      have hfree' : ∀ l ol, l < k → ops[l]? = some ol → l ≠ i → (listed.setIfInBounds j true).getD l true = false →
          (∀ e ∈ ol.after, Region.binds .any e = true → e.on ≠ i) → oi.apart ops ol = true := fun l ol hl hol hli hun hno => by
        refine hfree l ol hl hol hli ?_ hno
        by_cases hjl : j = l
        · subst hjl; exact hjun
        · rw [getD_set_ne true hjl] at hun; exact hun
      refine ⟨oj, hoj, hdj, V, (hY _ _ _ _ _ _ a1).1 hyj, ?_⟩
      refine ih (listed.setIfInBounds j true) _ hfree' (ready_mono hr (Ne.symm hji)) ((hY _ _ _ _ _ _ a3).2 hy) ?_
      rw [Array.setIfInBounds_comm _ _ hji, ← frSet_comm fr U V a2]
      exact H1

theorem aAnyY_lex {Y : Nat → Oper → PV → Fr → Prop} (hY : SetInv ops Y) {k : Nat} {K : Fr → Prop} : ∀ (l : List Oper) (i : Nat) (listed : Array Bool) (fr : Fr), (∀ j, j < l.length → ops[i + j]? = l[j]?) → lexK ops k l.length i listed = true → aLexY ops n Y K l i fr → aAnyY ops n Y k K l.length listed fr := by
  intro l
  induction l with
  | nil =>
    intro i listed fr _ hB h
    simp only [List.length_nil, lexK, List.all_eq_true, List.mem_range] at hB
    refine ⟨fun j hj hr => ?_, h⟩
    have h1 := hB j hj
    have h2 := (mem_ready.1 hr).1
    rcases Nat.lt_or_ge j listed.size with h' | h'
    · simp [h'] at h1 h2; rw [h1] at h2; cases h2
    · simp [Array.getElem?_eq_none h'] at h1
  | cons o l ih =>
    intro i listed fr hl hB h
    simp only [List.length_cons, lexK, Bool.and_eq_true, decide_eq_true_eq] at hB
    obtain ⟨⟨⟨hik, hr⟩, hf⟩, hB'⟩ := hB
    have h0 : ops[i]? = some o := by have := hl 0 (by simp); simpa using this
    have hfree : ∀ j oj, j < k → ops[j]? = some oj → j ≠ i → listed.getD j true = false → (∀ e ∈ oj.after, Region.binds .any e = true → e.on ≠ i) → o.apart ops oj = true := fun j oj hj hoj hne hun hno => by
      simp only [freeK, h0, List.all_eq_true, List.mem_range] at hf
      have h1 := hf j hj
      simp only [hoj, Bool.or_eq_true, beq_iff_eq, hne, false_or, hun, Bool.false_eq_true] at h1
      rcases h1 with h1 | h1
      · obtain ⟨e, he, hb⟩ := Array.any_eq_true'.1 h1
        simp only [Bool.and_eq_true, beq_iff_eq] at hb
        exact absurd hb.2 (hno e he hb.1)
      · exact h1
    have hl' : ∀ j, j < l.length → ops[i + 1 + j]? = l[j]? := fun j hj => by have := hl (j + 1) (by simpa using hj); rw [show i + 1 + j = i + (j + 1) by omega]; simpa using this
    obtain ⟨hd, U, hU, hn⟩ := h
    exact aAnyY_first hY h0 hik hd l.length listed fr hfree (by simpa using hr) hU (ih (i + 1) _ _ hl' hB' hn)

/-! ### More memory, the same results -/
theorem evc_mono {σ' : Heap} {o : Oper} (hσ : ∀ id x, σ id = some x → σ' id = some x) (h : (evc P Tab.nil σ fr o).D) : (evc P Tab.nil σ' fr o).D ∧ (evc P Tab.nil σ' fr o).V = (evc P Tab.nil σ fr o).V := by
  have hL : ∀ t x, (evL P σ t x).D → (evL P σ' t x).D ∧ (evL P σ' t x).V = (evL P σ t x).V := by
    intro t x h
    unfold evL at h ⊢
    split at h
    · exact ⟨h, rfl⟩
    · exact ⟨h, rfl⟩
    · split at h
      · rename_i cs e; simp only [hσ _ _ e]; exact ⟨h, trivial⟩
      · exact h.elim
    · split at h
      · rename_i cs e; simp only [hσ _ _ e]; exact ⟨h, trivial⟩
      · exact h.elim
    · exact h.elim
  have hLen : ∀ t x, (evLen P σ t x).D → (evLen P σ' t x).D ∧ (evLen P σ' t x).V = (evLen P σ t x).V := by
    intro t x h
    unfold evLen at h ⊢
    split at h
    case h_6 =>
      split at h
      · rename_i es e; simp only [hσ _ _ e]; exact ⟨h, trivial⟩
      · exact h.elim
    all_goals first | exact ⟨h, rfl⟩ | exact h.elim
  have hSl : ∀ t x lo hi mx, (evSl P σ t x lo hi mx).D → (evSl P σ' t x lo hi mx).D ∧ (evSl P σ' t x lo hi mx).V = (evSl P σ t x lo hi mx).V := by
    intro t x lo hi mx h
    unfold evSl at h ⊢
    split at h
    case h_4 =>
      split at h
      · rename_i cs e; simp only [hσ _ _ e]; exact ⟨h, trivial⟩
      · exact h.elim
    all_goals first | exact ⟨h, rfl⟩ | exact h.elim
  have gate' : ∀ xs (e e' : EV), ((gate fr xs e).D → (e.D → e'.D ∧ e'.V = e.V) → (gate fr xs e').D ∧ (gate fr xs e').V = (gate fr xs e).V) := fun xs e e' h k => ⟨⟨h.1, (k h.2).1⟩, (k h.2).2⟩
  obtain ⟨dst, op, ty, pos, after, g⟩ := o
  cases op <;> try exact ⟨h, rfl⟩
  case load t a => exact gate' _ _ _ h (hL _ _)
  case slice t x lo hi mx => exact gate' _ _ _ h (hSl _ _ _ _ _)
  case call c =>
    obtain ⟨callee, args, ts⟩ := c
    cases callee with
    | value f =>
      exfalso
      simp only [evc, callT] at h
      split at h
      · exact h.2.2
      · exact h
    | builtin b =>
      show (evCall P σ' fr ⟨.builtin b, args, ts⟩).D ∧ (evCall P σ' fr ⟨.builtin b, args, ts⟩).V = (evCall P σ fr ⟨.builtin b, args, ts⟩).V
      have h : (evCall P σ fr ⟨.builtin b, args, ts⟩).D := h
      cases b <;> try exact ⟨h, rfl⟩
      case len =>
        simp only [evCall] at h ⊢
        split at h
        · exact gate' _ _ _ h (hLen _ _)
        · exact h.elim
    | _ => exact ⟨h, rfl⟩

/-- An operation without a guard yields U. -/
def YN (P : Program) (σ : Heap) (o : Oper) (U : PV) (fr : Fr) : Prop := o.guard = none ∧ (evc P Tab.nil σ fr o).D ∧ U = (evc P Tab.nil σ fr o).V
theorem YN.mono {σ' : Heap} {o : Oper} {U : PV} (hσ : ∀ id x, σ id = some x → σ' id = some x) (h : YN P σ o U fr) : YN P σ' o U fr := by
  obtain ⟨h0, h1, h2⟩ := h
  obtain ⟨k1, k2⟩ := evc_mono hσ h1
  exact ⟨h0, k1, h2.trans k2.symm⟩

theorem gstep_congr {op : Op} {fr' : Fr} {C : PV → Heap → Prop} (h : ∀ x ∈ op.operands, opv fr' x = opv fr x) : gstep P σ fr' op C = gstep P σ fr op C := by
  cases op <;> try rfl
  case box t x => simp only [gstep]; rw [h x (by simp [Op.operands])]
  case store t a x => simp only [gstep]; rw [h x (by simp [Op.operands]), h a (by simp [Op.operands])]
  case makeSlice t l c => simp only [gstep]; rw [h l (by simp [Op.operands]), h c (by simp [Op.operands])]
  case call c =>
    obtain ⟨callee, args, ts⟩ := c
    cases callee with
    | builtin b =>
      cases b <;> try rfl
      simp only [gstep]
      split
      · rename_i x y t t2 tl e1 e2
        have hx : x ∈ args.toList := by rw [e1]; simp
        have hy : y ∈ args.toList := by rw [e1]; simp
        rw [h x (by simp [Op.operands, Call.operands]; simpa using hx), h y (by simp [Op.operands, Call.operands]; simpa using hy)]
      · rfl
    | _ => rfl

/-- What the operation at j makes. -/
def MJ (P : Program) (σ : Heap) (V : Nat → PV) (x : PObj) (o : Oper) (fr : Fr) : Prop := o.guard = none ∧ gstep P σ fr o.op fun V' σ' => ∃ id, σ id = none ∧ V' = V id ∧ σ' = σ.set id x
/-- Does operation i hang on j? -/
def hangs (ops : Array Oper) (j i : Nat) : Bool := (ancGo ops i [i]).contains j
/-- The operation at j makes the memory 'id'; what hangs on it knows of it, the others need not. -/
def YM (P : Program) (σ : Heap) (ops : Array Oper) (j : Nat) (V : Nat → PV) (x : PObj) (id : Nat) (i : Nat) (o : Oper) (U : PV) (fr : Fr) : Prop :=
  if i = j then MJ P σ V x o fr ∧ U = V id else if hangs ops j i then YN P (σ.set id x) o U fr else YN P σ o U fr

theorem YN.setInv {o : Oper} {U V : PV} {dst : Option Tmp} (h : ∀ d, dst = some d → d ∉ o.looksAt ops) : YN P σ o U (frSet fr dst V) ↔ YN P σ o U fr := by
  unfold YN
  rw [evc_congr (agree_set h)]
theorem YM.setInv {j : Nat} {V : Nat → PV} {x : PObj} {id : Nat} : SetInv ops (YM P σ ops j V x id) := by
  intro i o U fr dst W h
  unfold YM
  split
  · unfold MJ
    rw [gstep_congr (agree_set h)]
  · split
    · exact YN.setInv h
    · exact YN.setInv h

/-- After the making. -/
theorem pops_drawM2 {k j : Nat} {V : Nat → PV} {x : PObj} {id : Nat} (hid : σ id = none) {K : Fr → Prop} {Q : PX → Fr → Heap → Prop} (hlt : ∀ j, j < ops.size → ∀ p ∈ preds ops j, p < j) (hanc : ∀ t, k ≤ t → t < ops.size → ∀ p, p < t → p ∈ ancGo ops t [t]) (hk : k ≤ ops.size)
    (hK : ∀ fr, K fr → pops P rd n ops (ops.toList.drop k) Q fr (σ.set id x)) : ∀ (c : Nat) (listed : Array Bool) (fr : Fr), aAnyY ops n (YM P σ ops j V x id) k K c listed fr → listed.getD j false = true → closedL ops listed → listed.size = ops.size → (∀ j, listed.getD j false = true → j < k) →
    ∀ (G : Gh) (W : World) (A : Act) (r : Option Nat) (m base : Nat), r.isSome = rd → HRel G W (σ.set id x) → TRel G W n fr A.tmps → DRel base W A.defers → base ≤ W.heap.size →
      wpAnyIn (FW r) m P .any ops (Post G W (σ.set id x) n base Q) (c + (ops.size - k)) listed A W := by
  intro c
  induction c with
  | zero =>
    intro listed fr h hj hc hs hb G W A r m base h1 h2 h3 h4 h5
    have all : ∀ j, j < k → listed.getD j false = true := by
      intro j
      induction j using Nat.strongRecOn with
      | _ j ih =>
        intro hj
        cases hx : listed.getD j false with
        | true => rfl
        | false => exact absurd ((ready_iff hs).2 ⟨by omega, hx, fun p hp => by have := hlt j (by omega) p hp; exact ih p this (by omega)⟩) (h.1 j hj)
    have := wpAnyIn_tail (F := FW r) (m := m) (P := P) (fun _ => trivial) k hlt hanc (ops.toList.drop k) k listed A W (Nat.le_refl _) hk hs (fun j => ⟨hb j, all j⟩) rfl (hK fr h.2 G W A r m base h1 h2 h3 h4 h5)
    rw [List.length_drop, Array.length_toList] at this
    rw [Nat.zero_add]; exact this
  | succ c ih =>
    intro listed fr h hj hc hs hb G W A r m base h1 h2 h3 h4 h5
    obtain ⟨⟨i0, hi0, hr0⟩, h⟩ := h
    rw [show c + 1 + (ops.size - k) = c + (ops.size - k) + 1 by omega]
    refine ⟨fun h0 => (by rw [h0] at hr0; cases hr0), fun i hi => ?_⟩
    obtain ⟨i1, i2, i3⟩ := (ready_iff hs).1 hi
    obtain ⟨_, j2, _⟩ := (ready_iff hs).1 hr0
    have hik : i < k := by
      rcases Nat.lt_or_ge i k with h' | h'
      · exact h'
      · have hin := hanc i h' i1 i0 (by omega)
        rcases anc_listed hc i [i] (fun j hj p hp => by simp at hj; subst hj; exact i3 p hp) i0 hin with h6 | h6
        · simp at h6; omega
        · rw [j2] at h6; cases h6
    obtain ⟨o, ho, hd, U, hU, hn⟩ := h i hik hi
    have hij : i ≠ j := fun e => by subst e; rw [hj] at i2; cases i2
    have step := ih (listed.setIfInBounds i true) (frSet fr o.dst U) hn ((getD_set_iff (by omega)).2 (.inr hj)) (closed_set hs hc hi) (by simp [hs]) (fun j hj => by
      rw [getD_set_iff (by omega)] at hj
      rcases hj with rfl | hj
      · exact hik
      · exact hb j hj)
    have hdf : ∀ v, (A.put o.dst v).defers = A.defers := fun v => by cases o.dst <;> rfl
    have hdd : ∀ d, o.dst = some d → d < n := fun d hd' => by simpa [dstOk, hd'] using hd
    have hU' : YN P (σ.set id x) o U fr := by
      unfold YM at hU
      rw [if_neg hij] at hU
      split at hU
      · exact hU
      · exact hU.mono fun id' y hy => by
          have : id' ≠ id := fun e => by subst e; rw [hid] at hy; cases hy
          simp [Heap.set, this, hy]
    obtain ⟨hg, hD, hV⟩ := hU'
    unfold wpOpIn
    simp only [ho]
    rw [show Region.wanted o (yielded ops A.tmps) = true by simp [Region.wanted, hg], if_pos rfl]
    refine qop_of_evc (Tab.nil_ok P) hD G W A r m h2 h3 _ _ fun G' W' v he hr hv => ?_
    have hT' := (h3.mono (he.ext h2)).put (hV ▸ hv) hdd
    exact wpAnyIn_post (fun e a w q => q.trans he) _ _ _ _ (step G' W' _ r m base h1 hr hT' (by rw [hdf]; exact h4.evol h2 he) (Nat.le_trans h5 he.size))

/-- Before it. -/
theorem pops_drawM {k j : Nat} {V : Nat → PV} {x : PObj} {K : Nat → Fr → Prop} {Q : PX → Fr → Heap → Prop} (hjk : j < k) (hlt : ∀ j, j < ops.size → ∀ p ∈ preds ops j, p < j) (hanc : ∀ t, k ≤ t → t < ops.size → ∀ p, p < t → p ∈ ancGo ops t [t]) (hk : k ≤ ops.size)
    (hK : ∀ id, σ id = none → ∀ fr, K id fr → pops P rd n ops (ops.toList.drop k) Q fr (σ.set id x)) : ∀ (c : Nat) (listed : Array Bool) (fr : Fr), (∀ id, σ id = none → aAnyY ops n (YM P σ ops j V x id) k (K id) c listed fr) → listed.getD j false = false → closedL ops listed → listed.size = ops.size → (∀ j, listed.getD j false = true → j < k) →
    ∀ (G : Gh) (W : World) (A : Act) (r : Option Nat) (m base : Nat), r.isSome = rd → HRel G W σ → TRel G W n fr A.tmps → DRel base W A.defers → base ≤ W.heap.size →
      wpAnyIn (FW r) m P .any ops (Post G W σ n base Q) (c + (ops.size - k)) listed A W := by
  intro c
  induction c with
  | zero =>
    intro listed fr h hj hc hs hb G W A r m base h1 h2 h3 h4 h5
    exfalso
    obtain ⟨N, hN⟩ := h2.bnd
    have hn : σ N = none := by
      cases hx : σ N with
      | none => rfl
      | some y => obtain ⟨loc, e, _⟩ := h2.obj N y hx; rw [hN N (Nat.le_refl _)] at e; cases e
    have h0 := (h N hn).1
    have all : ∀ i, i < k → listed.getD i false = true := by
      intro i
      induction i using Nat.strongRecOn with
      | _ i ih =>
        intro hi
        cases hx : listed.getD i false with
        | true => rfl
        | false => exact absurd ((ready_iff hs).2 ⟨by omega, hx, fun p hp => by have := hlt i (by omega) p hp; exact ih p this (by omega)⟩) (h0 i hi)
    rw [all j hjk] at hj; cases hj
  | succ c ih =>
    intro listed fr h hj hc hs hb G W A r m base h1 h2 h3 h4 h5
    obtain ⟨N, hN⟩ := h2.bnd
    have hn0 : σ N = none := by
      cases hx : σ N with
      | none => rfl
      | some y => obtain ⟨loc, e, _⟩ := h2.obj N y hx; rw [hN N (Nat.le_refl _)] at e; cases e
    obtain ⟨⟨i0, hi0, hr0⟩, hall⟩ := h N hn0
    rw [show c + 1 + (ops.size - k) = c + (ops.size - k) + 1 by omega]
    refine ⟨fun h0 => (by rw [h0] at hr0; cases hr0), fun i hi => ?_⟩
    obtain ⟨i1, i2, i3⟩ := (ready_iff hs).1 hi
    obtain ⟨_, j2, _⟩ := (ready_iff hs).1 hr0
    have hik : i < k := by
      rcases Nat.lt_or_ge i k with h' | h'
      · exact h'
      · have hin := hanc i h' i1 i0 (by omega)
        rcases anc_listed hc i [i] (fun j hj p hp => by simp at hj; subst hj; exact i3 p hp) i0 hin with h6 | h6
        · simp at h6; omega
        · rw [j2] at h6; cases h6
    have hb' : ∀ j, (listed.setIfInBounds i true).getD j false = true → j < k := fun j hj => by
      rw [getD_set_iff (by omega)] at hj
      rcases hj with rfl | hj
      · exact hik
      · exact hb j hj
    obtain ⟨o, ho, hd, U, hU, _⟩ := hall i hik hi
    have hdf : ∀ v, (A.put o.dst v).defers = A.defers := fun v => by cases o.dst <;> rfl
    have hdd : ∀ d, o.dst = some d → d < n := fun d hd' => by simpa [dstOk, hd'] using hd
    unfold wpOpIn
    simp only [ho]
    by_cases hij : i = j
    · subst hij
      have hMJ : MJ P σ V x o fr := by unfold YM at hU; rw [if_pos rfl] at hU; exact hU.1
      obtain ⟨hg, hM⟩ := hMJ
      rw [show Region.wanted o (yielded ops A.tmps) = true by simp [Region.wanted, hg], if_pos rfl]
      refine gop_gstep (n := n) (rd := rd) (K := fun out σ' => ∃ id, σ id = none ∧ out = .val (V id) ∧ σ' = σ.set id x) (gstep_mono (fun V' σ' ⟨id, a, b, c⟩ => ⟨id, a, by rw [b], c⟩) hM) G W A r m h1 h2 h3 _ _ ?_ ?_
      · rintro V' σ' G' W' v ⟨id, hid, e1, rfl⟩ he hr hv
        cases e1
        obtain ⟨o', ho', _, U', hU', hn⟩ := (h id hid).2 i hik hi
        rw [ho] at ho'; cases ho'
        have hU'' : U' = V id := by unfold YM at hU'; rw [if_pos rfl] at hU'; exact hU'.2
        subst hU''
        have hT' := (h3.mono (he.ext h2)).put hv hdd
        have step := pops_drawM2 hid hlt hanc hk (hK id hid) c (listed.setIfInBounds i true) _ hn ((getD_set_iff (by omega)).2 (.inl rfl)) (closed_set hs hc hi) (by simp [hs]) hb' G' W' (A.put o.dst v) r m base h1 hr hT' (by rw [hdf]; exact h4.evol h2 he) (Nat.le_trans h5 he.size)
        exact wpAnyIn_post (fun e a w q => q.trans he) _ _ _ _ step
      · rintro V' σ' G' W' v ⟨id, _, e1, _⟩
        cases e1
    · have hh : hangs ops j i = false := by
        cases hx : hangs ops j i with
        | false => rfl
        | true =>
          exfalso
          have hin : j ∈ ancGo ops i [i] := by simpa [hangs] using hx
          rcases anc_listed hc i [i] (fun l hl p hp => by simp at hl; subst hl; exact i3 p hp) j hin with h6 | h6
          · simp at h6; exact hij h6.symm
          · rw [hj] at h6; cases h6
      have hYN : ∀ id, ∀ U o, YM P σ ops j V x id i o U fr → YN P σ o U fr := fun id U o h => by
        unfold YM at h; rw [if_neg hij, hh] at h; exact h
      obtain ⟨hg, hD, hV⟩ := hYN _ _ _ hU
      rw [show Region.wanted o (yielded ops A.tmps) = true by simp [Region.wanted, hg], if_pos rfl]
      refine qop_of_evc (Tab.nil_ok P) hD G W A r m h2 h3 _ _ fun G' W' v he hr hv => ?_
      have hT' := (h3.mono (he.ext h2)).put (hV ▸ hv) hdd
      have step := ih (listed.setIfInBounds i true) (frSet fr o.dst U) (fun id hid => by
        obtain ⟨o', ho', _, U', hU', hn⟩ := (h id hid).2 i hik hi
        rw [ho] at ho'; cases ho'
        have := (hYN _ _ _ hU').2.2
        rw [hV, ← this]; exact hn) (by
          cases hx : (listed.setIfInBounds i true).getD j false with
          | false => rfl
          | true =>
            rcases (getD_set_iff (by omega)).1 hx with h6 | h6
            · exact absurd h6.symm hij
            · rw [hj] at h6; cases h6) (closed_set hs hc hi) (by simp [hs]) hb'
      exact wpAnyIn_post (fun e a w q => q.trans he) _ _ _ _ (step G' W' _ r m base h1 hr hT' (by rw [hdf]; exact h4.evol h2 he) (Nat.le_trans h5 he.size))

/-- **A region that draws its order and makes memory at its operation j.** -/
theorem pwp_drawM {id k j : Nat} {V : Nat → PV} {x : PObj} {Q : PX → Fr → Heap → Prop} (hT : T.ok P) (hm : P.follows .mixedOrders = true) (hB : drawB ops k = true) (hjk : j < k)
    (h : ∀ id, σ id = none → aLexY ops n (YM P σ ops j V x id) (fun fr' => pst P T rd n ops Q (ops.toList.drop k) fr' (σ.set id x)) (ops.toList.take k) 0 fr) : pwp P rd n (.region id ops true) Q fr σ := by
  intro G W A r m base h1 h2 h3 h4 h5
  simp only [drawB, Bool.and_eq_true, decide_eq_true_eq, List.all_eq_true, List.mem_range, Bool.or_eq_true] at hB
  obtain ⟨⟨⟨b1, b2⟩, b3⟩, b4⟩ := hB
  refine wpIn_region_any hm ?_
  have qd := QEv.drew h2
  have he := qd.evol h2
  have hlen : (ops.toList.take k).length = k := by simp; omega
  have hf0 : ∀ j, (Array.replicate ops.size false).getD j false = false := fun j => by
    rw [Array.getD_eq_getD_getElem?, Array.getElem?_replicate]; split <;> rfl
  have key : ∀ id, σ id = none → aAnyY ops n (YM P σ ops j V x id) k (fun fr' => pst P T rd n ops Q (ops.toList.drop k) fr' (σ.set id x)) k (Array.replicate ops.size false) fr := fun id hid => by
    have := aAnyY_lex (n := n) YM.setInv (k := k) (ops.toList.take k) 0 (Array.replicate ops.size false) fr (fun j hj => by
      rw [hlen] at hj
      rw [List.getElem?_take, if_pos hj]; simp) (by rw [hlen]; exact b1) (h id hid)
    rwa [hlen] at this
  have := pops_drawM (rd := rd) (Q := Q) (j := j) (V := V) (x := x) (K := fun id fr' => pst P T rd n ops Q (ops.toList.drop k) fr' (σ.set id x)) hjk b3 (fun t h1 h2 p hp => by
    rcases b4 t h2 with h6 | h6
    · omega
    · simpa using h6 p hp) b2 (fun id hid fr hk => pops_pst hT hk) k _ fr key (hf0 j) (fun j hj => by
      rw [hf0 j] at hj; cases hj) (by simp) (fun j hj => by
      rw [hf0 j] at hj; cases hj) G W.drew A r m base h1 (qd.hrel h2) (h3.mono (he.ext h2)) (h4.evol h2 he) (Nat.le_trans h5 he.size)
  rw [show k + (ops.size - k) = ops.size by omega] at this
  exact wpAnyIn_post (fun e a w q => q.trans he) _ _ _ _ this

/-! ### .. as simp runs it -/
structure TgM (K : Fr → Prop) (l : List Oper) (fr : Fr) (σ : Heap) (x : PObj) where
  y : Nat := 0
def mT (P : Program) (σ : Heap) (n : Nat) (V : Nat → PV) (x : PObj) (id : Nat) (K : Fr → Prop) : (l : List Oper) → List (Option Bool) → (fr : Fr) → Prop
  | [], _, fr => K fr
  | o :: l, none :: hs, fr => dB n o.dst = true ∧ MJ P σ V x o fr ∧ mT P σ n V x id K l hs (frSet fr o.dst (V id))
  | o :: l, some b :: hs, fr => dB n o.dst = true ∧ o.guard = none ∧ (evo P Tab.nil (if b then σ.set id x else σ) fr o.op).D ∧ mT P σ n V x id K l hs (frSet fr o.dst (evo P Tab.nil (if b then σ.set id x else σ) fr o.op).V)
  | _ :: _, [], _ => False
theorem mT_lex {j : Nat} {V : Nat → PV} {x : PObj} {id : Nat} {K : Fr → Prop} : ∀ (l : List Oper) (i : Nat) (hs : List (Option Bool)) (fr : Fr), ((List.range l.length).map fun m => if i + m = j then none else some (hangs ops j (i + m))) = hs → mT P σ n V x id K l hs fr → aLexY ops n (YM P σ ops j V x id) K l i fr := by
  intro l
  induction l with
  | nil => intro i hs fr _ h; exact h
  | cons o l ih =>
    intro i hs fr he h
    rw [List.length_cons, List.range_succ_eq_map, List.map_cons, List.map_map] at he
    obtain ⟨c, hs', rfl⟩ : ∃ c hs', hs = c :: hs' := ⟨_, _, he.symm⟩
    rw [List.cons.injEq] at he
    have he2 : ((List.range l.length).map fun m => if i + 1 + m = j then none else some (hangs ops j (i + 1 + m))) = hs' := by
      rw [← he.2]
      refine List.map_congr_left fun m _ => ?_
      simp only [Function.comp]
      rw [show i + 1 + m = i + (m + 1) by omega]
    have hdo : ∀ {o : Oper}, dB n o.dst = true → dstOk n o = true := fun {o} h => by rw [← h]; cases o with | mk d _ _ _ _ _ => cases d <;> rfl
    cases c with
    | none =>
      have hij : i = j := by
        have := he.1
        by_cases e : i + 0 = j
        · exact e
        · rw [if_neg e] at this; cases this
      subst hij
      obtain ⟨h1, h2, h3⟩ := h
      exact ⟨hdo h1, _, by unfold YM; rw [if_pos rfl]; exact ⟨h2, rfl⟩, ih (i + 1) hs' _ he2 h3⟩
    | some b =>
      have hij : i ≠ j := by
        intro e
        have := he.1
        rw [if_pos (show i + 0 = j by omega)] at this; cases this
      have hb : hangs ops j i = b := by
        have := he.1
        rw [if_neg (show ¬ i + 0 = j by omega)] at this
        simpa using this
      obtain ⟨h1, h2, h3, h4⟩ := h
      refine ⟨hdo h1, _, ?_, ih (i + 1) hs' _ he2 h4⟩
      unfold YM
      rw [if_neg hij, hb]
      cases b with
      | true => exact ⟨h2, by rw [evc_evo]; exact h3, by rw [evc_evo]; rfl⟩
      | false => exact ⟨h2, by rw [evc_evo]; exact h3, by rw [evc_evo]; rfl⟩
def mS (P : Program) (σ : Heap) (n : Nat) (V : Nat → PV) (x : PObj) (id : Nat) (K : Fr → Prop) (l : List Oper) (hs : List (Option Bool)) (fr : Fr) (_ : TgM K l fr σ x) : Prop := mT P σ n V x id K l hs fr
section
variable (dst : Option Tmp) (op : Op) (ty : TypeId) (pos : String) (after : Array Edge) {V : Nat → PV} {x : PObj} {id : Nat} {K : Fr → Prop} {l : List Oper} {hs : List (Option Bool)}
@[simp ↓] theorem mS_nil (t : TgM K [] fr σ x) : mS P σ n V x id K [] hs fr t = K fr := (rfl)
@[simp ↓] theorem mS_false (t : TgM K ({ dst, op, type := ty, pos, after, guard := none } :: l) fr σ x) : mS P σ n V x id K ({ dst, op, type := ty, pos, after, guard := none } :: l) (some false :: hs) fr t =
    (dB n dst = true ∧ ER (evo P Tab.nil σ fr op) (fun W => mS P σ n V x id K l hs (frSet fr dst W) {}) {}) := by
  simp only [mS, mT, ER, true_and]; rfl
@[simp ↓] theorem mS_true (t : TgM K ({ dst, op, type := ty, pos, after, guard := none } :: l) fr σ x) : mS P σ n V x id K ({ dst, op, type := ty, pos, after, guard := none } :: l) (some true :: hs) fr t =
    (dB n dst = true ∧ ER (evo P Tab.nil (σ.set id x) fr op) (fun W => mS P σ n V x id K l hs (frSet fr dst W) {}) {}) := by
  simp only [mS, mT, ER, true_and]; rfl
/-- 'make' among the drawn operations. -/
def MKJ (P : Program) (σ : Heap) (t : TypeId) (a c : PV) (V : Nat → PV) (x : PObj) : Prop := makeP P σ t a c fun V' σ' => ∃ id, σ id = none ∧ V' = V id ∧ σ' = σ.set id x
@[simp ↓] theorem mS_make (b : TypeId) (a c : Operand) (t : TgM K ({ dst, op := .makeSlice b a c, type := ty, pos, after, guard := none } :: l) fr σ x) : mS P σ n V x id K ({ dst, op := .makeSlice b a c, type := ty, pos, after, guard := none } :: l) (none :: hs) fr t =
    (dB n dst = true ∧ ER ⟨avt (opv fr a), sv (opv fr a)⟩ (fun p => ER ⟨avt (opv fr c), sv (opv fr c)⟩ (fun q => MKJ P σ b p q V x ∧ mS P σ n V x id K l hs (frSet fr dst (V id)) {}) {}) {}) := by
  simp only [mS, mT, ER, MJ, MKJ, gstep, true_and, and_assoc]
theorem MKJ_int {t : TypeId} {x y : Int} {b : Nat} {zs : List PV} (he : elemB P t = some (b, zs)) (h0 : 0 ≤ x) (h1 : x ≤ y) (h2 : y ≤ 4294967296) (h3 : b ≤ 65536) (h4 : zs ≠ []) :
    MKJ P σ t (.lit (.int .i64 x)) (.lit (.int .i64 y)) (fun id => .msl id zs.length 0 x.toNat (decide (x = y))) (.cells (replP y.toNat zs)) := by
  simp only [MKJ, makeP, he]
  exact ⟨h0, h1, h2, h3, h4, fun id hid => ⟨id, hid, rfl, rfl⟩⟩
end
theorem pwp_drawMT (hT : T.ok P) (k j : Nat) (V : Nat → PV) (x : PObj) (hs : List (Option Bool)) {id0 : Nat} {Q : PX → Fr → Heap → Prop} (hm : P.follows .mixedOrders = true) (hB : drawB ops k = true) (hjk : j < k)
    (hhs : ((List.range k).map fun m => if m = j then none else some (hangs ops j m)) = hs)
    (h : ∀ id, σ id = none → VK (ops.toList.take k, ops.toList.drop k) (fun p => mS P σ n V x id (fun fr' => pT P T rd n ops Q p.2 fr' (σ.set id x) {}) p.1 hs fr {}) {}) : pwp P rd n (.region id0 ops true) Q fr σ := by
  refine pwp_drawM (V := V) (x := x) hT hm hB hjk fun id hid => ?_
  have hk : k ≤ ops.size := by
    simp only [drawB, Bool.and_eq_true, decide_eq_true_eq] at hB
    exact hB.1.1.2
  refine mT_lex (j := j) (ops.toList.take k) 0 hs fr ?_ (h id hid)
  rw [← hhs, List.length_take, Array.length_toList, Nat.min_eq_left hk]
  refine List.map_congr_left fun m _ => by rw [Nat.zero_add]
end
end Go.Lo
