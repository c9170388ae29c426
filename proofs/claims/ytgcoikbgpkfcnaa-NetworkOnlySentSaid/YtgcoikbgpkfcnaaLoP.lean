/-
  The program logic 'Lo', part P: lists that grow. Nothing of the program.
-/
import Derived.Test.YtgcoikbgpkfcnaaLoO
set_option linter.unusedSimpArgs false
set_option linter.unusedVariables false
namespace Go.Lo
open Go

@[simp] theorem Heap.set_set (σ : Heap) (id : Nat) (x y : PObj) : (σ.set id x).set id y = σ.set id y := by funext j; unfold Heap.set; split <;> rfl
@[simp] theorem Heap.empty_apply (id : Nat) : Heap.empty id = none := rfl

/-- A slice of the function's own that holds these rows: nil, or in memory of its own, or inline. -/
def Own (k : Nat) (σ : Heap) (v : PV) (rows : List (List PV)) : Prop :=
  (∀ r ∈ rows, r.length = k) ∧ ((v = .lit (.slice none 0 0) ∧ rows = []) ∨ (∃ id full, v = .msl id k 0 rows.length full ∧ σ id = some (.cells rows.flatten)) ∨ v = .slice true rows)

theorem Own.sv {k : Nat} {σ : Heap} {v : PV} {rows : List (List PV)} (h : Own k σ v rows) : Lo.sv v = v ∧ avt v = True := by
  rcases h.2 with ⟨rfl, _⟩ | ⟨id, full, rfl, _⟩ | rfl <;> exact ⟨rfl, rfl⟩
theorem Own.nil (k : Nat) (σ : Heap) : Own k σ (.lit (.slice none 0 0)) [] := ⟨by simp, .inl ⟨rfl, rfl⟩⟩
theorem Own.full (k : Nat) (σ : Heap) {rows : List (List PV)} (h : ∀ r ∈ rows, r.length = k) : Own k σ (.slice true rows) rows := ⟨h, .inr (.inr rfl)⟩

/-- The objects that are not the slice's. -/
def Keeps (v : PV) (σ σ' : Heap) : Prop := ∀ j, σ j ≠ none → (∀ k off len full, v ≠ .msl j k off len full) → σ' j = σ j
theorem Own.len {P : Program} {k : Nat} {σ : Heap} {v : PV} {rows : List (List PV)} (h : Own k σ v rows) {t e : TypeId} (ht : P.underlying t = some (.slice e)) : (evLen P σ t v).D ∧ (evLen P σ t v).V = .lit (.int .i64 rows.length) := by
  rcases h.2 with ⟨rfl, rfl⟩ | ⟨id, full, rfl, _⟩ | rfl <;> simp [evLen, ht]

theorem own_yv {k : Nat} {σ : Heap} {v : PV} {rows : List (List PV)} (h : Own k σ v rows) : (yv σ k v).D ∧ (yv σ k v).n = rows.length ∧ (yv σ k v).cs = rows.flatten := by
  rcases h.2 with ⟨rfl, rfl⟩ | ⟨id, full, rfl, ho⟩ | rfl
  · simp [yv]
  · have hl := (flatten_getD h.1).1
    simp [yv, ho, hl]
    rw [← hl, List.take_length]
  · exact ⟨h.1, rfl, rfl⟩

theorem own_append {P : Program} {σ : Heap} {k b : Nat} {v y : PV} {rows new : List (List PV)} {t t2 : TypeId} {zs : List PV} {C : PV → Heap → Prop} (h : Own k σ v rows) (he : elemB P t = some (b, zs)) (hb : b ≤ 4096) (hk : zs.length = k) (h0 : 0 < k) (hs : isSliceT P t2 = true)
    (hy : (yv σ k y).D ∧ (yv σ k y).n = new.length ∧ (yv σ k y).cs = new.flatten) (hnew : ∀ r ∈ new, r.length = k ∧ ∀ c ∈ r, isCell1 c = true) (hmax : rows.length + new.length ≤ 4294967296)
    (hC : ∀ V σ', Own k σ' V (rows ++ new) → Keeps v σ σ' → (new ≠ [] → ∃ id, V = .msl id k 0 (rows ++ new).length false ∧ σ' id = some (.cells (rows ++ new).flatten)) → C V σ') : appendP P σ t t2 v y C := by
  have hrows : ∀ r ∈ rows ++ new, r.length = k := fun r hr => (List.mem_append.1 hr).elim (h.1 r) fun x => (hnew r x).1
  have hone : ∀ c ∈ new.flatten, isCell1 c = true := fun c hc => by obtain ⟨r, h1, h2⟩ := List.mem_flatten.1 hc; exact (hnew r h1).2 c h2
  obtain ⟨x1, x2, x3⟩ := own_yv h
  obtain ⟨y1, y2, y3⟩ := hy
  unfold appendP
  rw [he]
  simp only [hk]
  refine ⟨hs, hb, by rw [← List.length_pos_iff, hk]; exact h0, y1, x1, by rw [x2, y2]; exact hmax, ?_⟩
  have fresh : ∀ id, σ id = none → C (.msl id k 0 (rows.length + new.length) false) (σ.set id (.cells (rows.flatten ++ new.flatten))) := fun id hid =>
    hC _ _ ⟨hrows, .inr (.inl ⟨id, false, by simp, by simp [Heap.set]⟩)⟩ (fun j hj _ => by
      have : j ≠ id := fun e => hj (e ▸ hid)
      simp [Heap.set, this]) fun _ => ⟨id, by simp, by simp [Heap.set]⟩
  have same : new.length = 0 → C v σ := fun e => by
    have : new = [] := List.length_eq_zero_iff.1 e
    subst this
    exact hC _ _ (by simpa using h) (fun _ _ _ => rfl) fun h => absurd rfl h
  rcases h.2 with ⟨rfl, rfl⟩ | ⟨id0, full, rfl, ho⟩ | rfl
  · simp only
    rw [y2, x2, y3, x3]
    exact ⟨same, fun _ => fresh⟩
  · cases full with
    | true =>
      simp only
      rw [y2, x2, y3, x3]
      exact ⟨same, fun _ => fresh⟩
    | false =>
      have hl := (flatten_getD h.1).1
      simp only [ho]
      rw [y2, y3, x3]
      refine ⟨by rw [hl]; omega, hone, fun id hid => ?_⟩
      refine hC _ _ ⟨hrows, .inr (.inl ⟨id, false, by simp, by simp [Heap.set]⟩)⟩ (fun j hj hv => ?_) fun _ => ⟨id, by simp, by simp [Heap.set]⟩
      have h1 : j ≠ id := fun e => hj (e ▸ hid)
      have h2 : j ≠ id0 := fun e => hv _ _ _ _ (by rw [e])
      simp [Heap.set, Heap.del, h1, h2]
  · simp only
    rw [y2, x2, y3, x3]
    exact ⟨same, fun _ => fresh⟩

theorem Own.cell {k : Nat} {σ : Heap} {v : PV} {rows : List (List PV)} (h : Own k σ v rows) : cellsP v = [v] ∧ isCell v = true ∧ isCell1 v = true := by
  rcases h.2 with ⟨rfl, _⟩ | ⟨id, full, rfl, _⟩ | rfl <;> exact ⟨rfl, rfl, rfl⟩
/-- Another object is written. -/
theorem Own.set {k : Nat} {σ : Heap} {v : PV} {rows : List (List PV)} {id : Nat} {x : PObj} (h : Own k σ v rows) (hid : ∀ cs, σ id = some (.cells cs) → cs ≠ rows.flatten) : Own k (σ.set id x) v rows := by
  refine ⟨h.1, ?_⟩
  rcases h.2 with h1 | ⟨j, full, rfl, hj⟩ | h1
  · exact .inl h1
  · refine .inr (.inl ⟨j, full, rfl, ?_⟩)
    rw [Heap.set_apply, if_neg (by rintro rfl; exact hid _ hj rfl)]; exact hj
  · exact .inr (.inr h1)
theorem Own.new {k : Nat} {σ : Heap} {v : PV} {rows : List (List PV)} {id : Nat} {x : PObj} (h : Own k σ v rows) (hid : σ id = none) : Own k (σ.set id x) v rows := h.set fun cs e => by rw [hid] at e; cases e
theorem Own.ne {k : Nat} {σ : Heap} {v : PV} {rows : List (List PV)} {id : Nat} {cs : List PV} (h : Own k σ v rows) (hid : σ id = some (.cells cs)) (hne : cs ≠ rows.flatten) : ∀ k' off len full, v ≠ .msl id k' off len full := fun k' off len full e => by
  rcases h.2 with ⟨h1, _⟩ | ⟨j, full', h1, hj⟩ | h1 <;> rw [h1] at e <;> cases e
  rw [hj] at hid; cases hid; exact hne rfl
theorem one_ne {rows : List (List PV)} {v : PV} {k : Nat} (h : ∀ r ∈ rows, r.length = k) (hk : 1 < k) : [v] ≠ rows.flatten := fun e => by
  have h1 := (flatten_getD h).1
  rw [← e] at h1
  simp at h1
  rcases Nat.eq_zero_or_pos rows.length with h2 | h2
  · rw [h2] at h1; simp at h1
  · have : 1 * k ≤ rows.length * k := Nat.mul_le_mul_right k h2
    omega

/-- A row of its own. -/
theorem yv_row {σ : Heap} {k : Nat} {full : Bool} {new : List (List PV)} (h : ∀ r ∈ new, r.length = k) : (yv σ k (.slice full new)).D ∧ (yv σ k (.slice full new)).n = new.length ∧ (yv σ k (.slice full new)).cs = new.flatten := ⟨h, rfl, rfl⟩

/-- **The result of a function that builds a list.** -/
theorem pcalls_own {P : Program} {f : FuncId} {args : List PV} {σ : Heap} {k : Nat} {rows : List (List PV)} (h : pcalls P f args σ fun o σ' => ∃ v, o = .val v ∧ Own k σ' v rows) : pcalls P f args σ fun o _ => o = .val (.slice false rows) := by
  have step : pcalls P f args σ fun o σ' => o = .val (.lit (.slice none 0 0)) ∧ rows = [] ∨ ∃ full, o = .val (.slice full rows) := by
    refine pcalls_frz (h.mono ?_)
    rintro o σ' ⟨v, rfl, hk, h1⟩
    rcases h1 with ⟨rfl, hr⟩ | ⟨id, full, rfl, ho⟩ | rfl
    · exact ⟨0, Heap.empty, .none, .inl ⟨rfl, hr⟩⟩
    · refine ⟨1, Heap.one id (.cells rows.flatten), .one ho, .inr ⟨full, ?_⟩⟩
      have hl := (flatten_getD hk).1
      simp only [frzO, frzN, Heap.one, if_true, hl, Nat.zero_add, Nat.le_refl, List.drop_zero]
      congr 2
      have e : (rows.flatten.map fun v => v) = rows.flatten := by simp
      rw [e]
      exact chunks_flatten rows hk
    · exact ⟨0, Heap.empty, .none, .inr ⟨true, rfl⟩⟩
  intro G W xs m h1 h2
  refine (step G W xs m h1 h2).mono ?_
  rintro e W' ⟨o, σ', G', k1, k2, k3, k4⟩
  refine ⟨.val (.slice false rows), σ', G', rfl, ?_, k3, k4⟩
  rcases k1 with ⟨rfl, rfl⟩ | ⟨full, rfl⟩ <;> cases e <;> simp only [OutRel] at k2 ⊢
  · cases k2; exact .nilsl _ _ _ (fun e => by cases e)
  · exact k2.unfull

/-! ### Calls that make memory -/
section
variable {P : Program} {rd : Bool} {n : Nat} {fr : Fr} {σ : Heap}

/-- What a function makes stands beside what was there. -/
theorem pcalls_new {f : FuncId} {args : List PV} {K : Out → Heap → Prop} (h : pcalls P f args Heap.empty K) :
    pcalls P f args σ fun o σ' => ∃ σ1, K o σ1 ∧ (∀ j x, σ j = some x → σ' j = some x) ∧ (∀ j x, σ1 j = some x → σ' j = some x) ∧ ∀ j, σ j ≠ none → σ1 j = none := by
  intro G W xs m h1 h2
  have hs : ∀ id x, Heap.empty id = some x → σ id = some x := fun id x hx => by cases hx
  refine (h G W xs m (h1.less hs) h2).mono ?_
  rintro e W' ⟨o, σ1, G', k1, k2, k3, k4⟩
  obtain ⟨p1, p2⟩ := frame_patch hs h1 k3 k4
  have dis : ∀ j, σ j ≠ none → σ1 j = none := fun j hj => by
    cases hy : σ1 j with
    | none => rfl
    | some y =>
      rcases k3.fresh j (by rw [hy]; simp) with q | q
      · exact absurd rfl q
      · obtain ⟨x, hx⟩ := some_of_ne hj
        obtain ⟨loc, l1, _⟩ := h1.obj j x hx
        rw [q] at l1; cases l1
  refine ⟨o, _, G', ⟨σ1, k1, fun j x hx => ?_, fun j x hx => ?_, dis⟩, k2, p2, p1⟩
  · have := dis j (by rw [hx]; simp)
    simp [Heap.patch, this, Heap.empty, hx]
  · simp [Heap.patch, hx]

theorem pops_call (T : Tab) (hT : T.ok P) {ops : Array Oper} {o : Oper} {l : List Oper} {Q : PX → Fr → Heap → Prop} {c : Call} {g : FuncId} {K : Out → Heap → Prop} {args : List PV} (hg : o.guard = none) (hd : dstOk n o = true) (ho : o.op = .call c) (hcl : c.callee = .value (.func g)) (he : Enters P g)
    (ha : ∀ x ∈ c.args.toList, avt (opv fr x)) (hargs : argsP fr c.args = args) (h : pcalls P g args σ K)
    (hK : ∀ o' σ', K o' σ' → match o' with | .val v => pst P T rd n ops Q l (frSet fr o.dst v) σ' | .pan v => Q (.pan v) fr σ') : pops P rd n ops (o :: l) Q fr σ := by
  refine pops_gop (by simp [gval, hg]) hd (gop_call (first := []) (captured := []) ho hcl rfl trivial he ha ?_)
  simp only [List.nil_append, List.append_nil]
  rw [hargs]
  refine h.mono fun o' σ' k => ?_
  have := hK o' σ' k
  cases o' with
  | val v => exact pops_pst hT this
  | pan v => exact this

theorem pops_yield (T : Tab) (hT : T.ok P) {ops : Array Oper} {o : Oper} {l : List Oper} {Q : PX → Fr → Heap → Prop} {c : Call} {fo : Operand} {L : Nat} {K : Out → Heap → Prop} {args : List PV} (hg : o.guard = none) (hd : dstOk n o = true) (ho : o.op = .call c) (hcl : c.callee = .value fo)
    (hy : sv (opv fr fo) = .yld L) (hya : avt (opv fr fo)) (ha : ∀ x ∈ c.args.toList, avt (opv fr x)) (hargs : argsP fr c.args = args) (h : yruns P L args σ K)
    (hK : ∀ o' σ', K o' σ' → match o' with | .val v => pst P T rd n ops Q l (frSet fr o.dst v) σ' | .pan v => Q (.pan v) fr σ') : pops P rd n ops (o :: l) Q fr σ := by
  refine pops_gop (by simp [gval, hg]) hd (gop_yield ho hcl hy hya ha ?_)
  rw [hargs]
  refine h.mono fun o' σ' k => ?_
  have := hK o' σ' k
  cases o' with
  | val v => exact pops_pst hT this
  | pan v => exact this
end
end Go.Lo
