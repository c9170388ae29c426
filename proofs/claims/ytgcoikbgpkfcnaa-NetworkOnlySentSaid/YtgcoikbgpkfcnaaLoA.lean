/-
  The program logic 'Lo', part A: abstract values, their relation to the model's values, abstract memory, how a step may change the world. Nothing of the program.
-/
import Derived.WalkKit
import Derived.RangeFuncRecord
import Derived.RangeFuncIn
import Derived.RangeFuncLeaves
import Derived.Orders
import Derived.TacticsIn
set_option linter.unusedSimpArgs false
set_option linter.unusedVariables false
namespace Go.Lo
open Go

/-- Abstract values: memory that nobody writes any more stands inline. -/
inductive PV where
  | any
  | lit (v : Value)
  | agg (cs : List PV)
  | tup (cs : List PV)
  | slice (full : Bool) (rows : List (List PV))
  | ref (cs : List PV)
  | ptr (id off : Nat)
  | msl (id k off len : Nat) (full : Bool)
  | fn (f : Fn) (first captured : List PV)
  | yld (id : Nat)
  | map (id : Nat)
  | gd (g : Bool) (v : PV)
  | iface (t : TypeId) (v : PV)
  deriving Inhabited

abbrev Fr := Nat → PV
def Fr.set (fr : Fr) (d : Nat) (v : PV) : Fr := fun t => if t = d then v else fr t
theorem Fr.set_apply (fr : Fr) (d : Nat) (v : PV) (t : Nat) : (fr.set d v) t = if t = d then v else fr t := rfl

/-- What is known beside the world: the cells that stay as they are; where the live objects lie. -/
structure Gh where
  S : Nat → Nat → Prop
  β : Nat → Option (Nat × Nat)

inductive VRel (G : Gh) (W : World) : PV → Value → Prop
  | any (v : Value) : VRel G W .any v
  | lit (v : Value) : VRel G W (.lit v) v
  | agg (cs : List PV) (vs : Array Value) : vs.size = cs.length → (∀ i, i < cs.length → VRel G W (cs.getD i .any) (vs.getD i undef)) → VRel G W (.agg cs) (.agg vs)
  | tup (cs : List PV) (vs : Array Value) : vs.size = cs.length → (∀ i, i < cs.length → VRel G W (cs.getD i .any) (vs.getD i undef)) → VRel G W (.tup cs) (.tuple vs)
  | slice (full : Bool) (rows : List (List PV)) (b off len cap k : Nat) (cv : Nat → Value) : rows.length = len → len ≤ cap → len ≤ maxLen → (full = true → cap = len) →
      (∀ i, i < len → (rows.getD i []).length = k) → (∀ j, j < len * k → G.S b (off + j) ∧ W.cell? ⟨b, off + j, none⟩ = some (cv j)) →
      (∀ i j, i < len → j < k → VRel G W ((rows.getD i []).getD j .any) (cv (i * k + j))) → VRel G W (.slice full rows) (.slice (some ⟨b, off, none⟩) len cap)
  | nilsl (full : Bool) (base : Option Addr) (cap : Nat) : (full = true → cap = 0) → VRel G W (.slice full []) (.slice base 0 cap)
  | ref (cs : List PV) (b off : Nat) (cv : Nat → Value) : (∀ j, j < cs.length → G.S b (off + j) ∧ W.cell? ⟨b, off + j, none⟩ = some (cv j)) →
      (∀ j, j < cs.length → VRel G W (cs.getD j .any) (cv j)) → VRel G W (.ref cs) (.pointer (some ⟨b, off, none⟩))
  | ptr (id o R δ : Nat) : G.β id = some (R, δ) → VRel G W (.ptr id o) (.pointer (some ⟨R, δ + o, none⟩))
  | msl (id k o len cap R δ n b off : Nat) (full : Bool) (e : TypeId) : G.β id = some (R, δ) → len ≤ cap → len ≤ maxLen → (full = true → cap = len) → (0 < cap → b = R ∧ off = δ + o) → W.shape? R = some (e, n) →
      (0 < cap → δ + o + cap * k ≤ n) → VRel G W (.msl id k o len full) (.slice (some ⟨b, off, none⟩) len cap)
  | fn (f : Fn) (first captured : List PV) (vf vc : Array Value) : vf.size = first.length → (∀ i, i < first.length → VRel G W (first.getD i .any) (vf.getD i undef)) →
      vc.size = captured.length → (∀ i, i < captured.length → VRel G W (captured.getD i .any) (vc.getD i undef)) → VRel G W (.fn f first captured) (.func f vf vc)
  | yld (id R : Nat) : G.β id = some (R, 0) → VRel G W (.yld id) (.func (.yield R) #[] #[])
  | map (id R : Nat) : G.β id = some (R, 0) → VRel G W (.map id) (.map (some R))
  | gd (g : Bool) (p : PV) (v : Value) : (g = true → VRel G W p v) → (g = false → v = undef) → VRel G W (.gd g p) v
  | iface (t : TypeId) (p : PV) (v : Value) : VRel G W p v → VRel G W (.iface t p) (.iface t v)

structure Ext (G : Gh) (W : World) (G' : Gh) (W' : World) : Prop where
  S : ∀ b o, G.S b o → G'.S b o
  cell : ∀ b o, G.S b o → W'.cell? ⟨b, o, none⟩ = W.cell? ⟨b, o, none⟩
  β : ∀ id l, G.β id = some l → G'.β id = some l
  shape : ∀ b s, W.shape? b = some s → W'.shape? b = some s

theorem Ext.refl (G : Gh) (W : World) : Ext G W G W := ⟨fun _ _ h => h, fun _ _ _ => rfl, fun _ _ h => h, fun _ _ h => h⟩

theorem VRel.mono {G G' : Gh} {W W' : World} (E : Ext G W G' W') {p : PV} {v : Value} (h : VRel G W p v) : VRel G' W' p v := by
  induction h with
  | any v => exact .any v
  | lit v => exact .lit v
  | agg cs vs h1 _ ih => exact .agg cs vs h1 ih
  | tup cs vs h1 _ ih => exact .tup cs vs h1 ih
  | slice full rows b off len cap k cv h1 h2 h3 h4 h5 h6 _ ih =>
    exact .slice full rows b off len cap k cv h1 h2 h3 h4 h5 (fun j hj => ⟨E.S _ _ (h6 j hj).1, (E.cell _ _ (h6 j hj).1).trans (h6 j hj).2⟩) ih
  | nilsl full base cap h => exact .nilsl full base cap h
  | ref cs b off cv h6 _ ih => exact .ref cs b off cv (fun j hj => ⟨E.S _ _ (h6 j hj).1, (E.cell _ _ (h6 j hj).1).trans (h6 j hj).2⟩) ih
  | ptr id o R δ h1 => exact .ptr id o R δ (E.β _ _ h1)
  | msl id k o len cap R δ n b off full e h1 h2 h3 h4 h5 h6 h7 => exact .msl id k o len cap R δ n b off full e (E.β _ _ h1) h2 h3 h4 h5 (E.shape _ _ h6) h7
  | fn f first captured vf vc h1 _ h3 _ ih1 ih2 => exact .fn f first captured vf vc h1 ih1 h3 ih2
  | yld id R h1 => exact .yld id R (E.β _ _ h1)
  | map id R h1 => exact .map id R (E.β _ _ h1)
  | gd g p v _ h2 ih => exact .gd g p v ih h2
  | iface t p v _ ih => exact .iface t p v ih

/-- Abstract objects: memory that is written. -/
inductive PObj where
  | cells (cs : List PV)
  | map (es : List (PV × PV))
  | loop (fr : Fr) (n : Nat) (ps : Array Tmp) (assign body : Code) (st : LoopState) (pend : Option Code)

abbrev Heap := Nat → Option PObj
def Heap.set (σ : Heap) (id : Nat) (o : PObj) : Heap := fun j => if j = id then some o else σ j
def Heap.del (σ : Heap) (id : Nat) : Heap := fun j => if j = id then none else σ j
def Heap.empty : Heap := fun _ => none
theorem Heap.set_apply (σ : Heap) (id : Nat) (o : PObj) (j : Nat) : (σ.set id o) j = if j = id then some o else σ j := rfl
theorem Heap.del_apply (σ : Heap) (id j : Nat) : (σ.del id) j = if j = id then none else σ j := rfl

def TRel (G : Gh) (W : World) (n : Nat) (fr : Fr) (tmps : Array Value) : Prop :=
  tmps.size = n ∧ ∀ t, VRel G W (fr t) (tmps.getD t undef)

theorem TRel.mono {G G' : Gh} {W W' : World} (E : Ext G W G' W') {n : Nat} {fr : Fr} {tmps : Array Value} (h : TRel G W n fr tmps) : TRel G' W' n fr tmps :=
  ⟨h.1, fun t => (h.2 t).mono E⟩

def ORel (G : Gh) (W : World) (loc : Nat × Nat) : PObj → Prop
  | .cells cs => ∃ arr e, W.heap[loc.1]? = some (.cells arr e (0, 0)) ∧ loc.2 + cs.length ≤ arr.size ∧ ∀ j, j < cs.length → VRel G W (cs.getD j .any) (arr.getD (loc.2 + j) undef)
  | .map es => loc.2 = 0 ∧ ∃ ms clock, W.heap[loc.1]? = some (.map ms clock) ∧ ms.size = es.length ∧
      ∀ i, i < es.length → VRel G W ((es.getD i (.any, .any)).1) ((ms.getD i default).key) ∧ VRel G W ((es.getD i (.any, .any)).2) ((ms.getD i default).val)
  | .loop fr n ps as bd st pend => loc.2 = 0 ∧ ∃ fn tmps D, W.heap[loc.1]? = some (.loop { state := st, pending := pend, fn := fn, tmps := tmps, params := ps, assign := as, body := bd, defers := D }) ∧
      TRel G W n fr tmps

structure HRel (G : Gh) (W : World) (σ : Heap) : Prop where
  obj : ∀ id o, σ id = some o → ∃ loc, G.β id = some loc ∧ ORel G W loc o ∧ ∀ off, ¬ G.S loc.1 off
  inj : ∀ id id' l l', σ id ≠ none → σ id' ≠ none → G.β id = some l → G.β id' = some l' → l.1 = l'.1 → id = id'
  stab : ∀ b o, G.S b o → ∃ v, W.cell? ⟨b, o, none⟩ = some v
  bnd : ∃ N, ∀ id, N ≤ id → G.β id = none

/-- Block b belongs to a live object. -/
def Img (G : Gh) (σ : Heap) (b : Nat) : Prop := ∃ id loc, σ id ≠ none ∧ G.β id = some loc ∧ loc.1 = b

structure Evol (G : Gh) (W : World) (σ : Heap) (G' : Gh) (W' : World) (σ' : Heap) : Prop where
  os : W'.os = W.os
  tape : W'.tape = W.tape
  output : W'.output = W.output
  size : W.heap.size ≤ W'.heap.size
  keep : ∀ b, b < W.heap.size → ¬ Img G σ b → W'.heap[b]? = W.heap[b]?
  shape : ∀ b s, W.shape? b = some s → W'.shape? b = some s
  S : ∀ b o, G.S b o → G'.S b o
  snew : ∀ b o, G'.S b o → G.S b o ∨ W.heap.size ≤ b ∨ Img G σ b
  β : ∀ id l, G.β id = some l → G'.β id = some l
  own : ∀ b, Img G' σ' b → W.heap.size ≤ b ∨ Img G σ b
  fresh : ∀ id, σ' id ≠ none → σ id ≠ none ∨ G.β id = none

theorem Evol.refl (G : Gh) (W : World) (σ : Heap) : Evol G W σ G W σ :=
  ⟨rfl, rfl, rfl, Nat.le_refl _, fun _ _ _ => rfl, fun _ _ h => h, fun _ _ h => h, fun _ _ h => .inl h, fun _ _ h => h, fun _ h => .inr h, fun _ h => .inl h⟩

theorem Evol.trans {G G1 G2 : Gh} {W W1 W2 : World} {σ σ1 σ2 : Heap} (h : Evol G W σ G1 W1 σ1) (k : Evol G1 W1 σ1 G2 W2 σ2) : Evol G W σ G2 W2 σ2 where
  os := k.os.trans h.os
  tape := k.tape.trans h.tape
  output := k.output.trans h.output
  size := Nat.le_trans h.size k.size
  keep b hb hi := by
    rw [k.keep b (Nat.lt_of_lt_of_le hb h.size) (fun h1 => (h.own b h1).elim (fun h2 => by omega) hi), h.keep b hb hi]
  shape b s hs := k.shape b s (h.shape b s hs)
  S b o hs := k.S b o (h.S b o hs)
  snew b o hs := by
    rcases k.snew b o hs with h1 | h1 | h1
    · exact h.snew b o h1
    · exact .inr (.inl (Nat.le_trans h.size h1))
    · exact (h.own b h1).elim (fun x => .inr (.inl x)) (fun x => .inr (.inr x))
  β id l hl := k.β id l (h.β id l hl)
  own b hb := by
    rcases k.own b hb with h1 | h1
    · exact .inl (Nat.le_trans h.size h1)
    · exact h.own b h1
  fresh id hid := by
    rcases k.fresh id hid with h1 | h1
    · exact h.fresh id h1
    · refine .inr ?_
      cases hx : G.β id with
      | none => rfl
      | some l => rw [h.β id l hx] at h1; cases h1

/-- Less is known of the memory behind. -/
theorem Evol.less {G G' : Gh} {W W' : World} {σ σ' σ'' : Heap} (h : Evol G W σ G' W' σ') (hs : ∀ id, σ'' id ≠ none → σ' id ≠ none) : Evol G W σ G' W' σ'' :=
  { h with
    own := fun b ⟨id, loc, h1, h2, h3⟩ => h.own b ⟨id, loc, hs id h1, h2, h3⟩
    fresh := fun id hid => h.fresh id (hs id hid) }

/-- A step on a part of the memory is a step on all of it. -/
theorem Img.more {G : Gh} {σ τ : Heap} (hs : ∀ id, σ id ≠ none → τ id ≠ none) {b : Nat} (h : Img G σ b) : Img G τ b :=
  let ⟨id, loc, h1, h2, h3⟩ := h; ⟨id, loc, hs id h1, h2, h3⟩

theorem HRel.less {G : Gh} {W : World} {σ σ' : Heap} (h : HRel G W σ) (hs : ∀ id o, σ' id = some o → σ id = some o) : HRel G W σ' where
  obj id o ho := h.obj id o (hs id o ho)
  inj id id' l l' h1 h2 := h.inj id id' l l' (fun e => by
      cases hx : σ' id with
      | none => exact h1 hx
      | some o => rw [hs id o hx] at e; cases e) (fun e => by
      cases hx : σ' id' with
      | none => exact h2 hx
      | some o => rw [hs id' o hx] at e; cases e)
  stab := h.stab
  bnd := h.bnd

theorem World.cell_block {W W' : World} {b o : Nat} (h : W'.heap[b]? = W.heap[b]?) : W'.cell? ⟨b, o, none⟩ = W.cell? ⟨b, o, none⟩ := by
  unfold World.cell?; simp only [h]

theorem lt_of_cell {W : World} {b o : Nat} {v : Value} (h : W.cell? ⟨b, o, none⟩ = some v) : b < W.heap.size := by
  rcases Nat.lt_or_ge b W.heap.size with h1 | h1
  · exact h1
  · unfold World.cell? at h; simp [Array.getElem?_eq_none h1] at h

theorem HRel.img {G : Gh} {W : World} {σ : Heap} (h : HRel G W σ) {b o : Nat} (hs : G.S b o) : ¬ Img G σ b := by
  rintro ⟨id, loc, h1, h2, h3⟩
  cases hx : σ id with
  | none => exact h1 hx
  | some ob =>
    obtain ⟨loc', hb, _, hn⟩ := h.obj id ob hx
    rw [h2] at hb; cases hb
    exact hn o (h3 ▸ hs)

theorem Evol.ext {G G' : Gh} {W W' : World} {σ σ' : Heap} (h : Evol G W σ G' W' σ') (hr : HRel G W σ) : Ext G W G' W' where
  S := h.S
  cell b o hs := by
    obtain ⟨v, hv⟩ := hr.stab b o hs
    exact World.cell_block (h.keep b (lt_of_cell hv) (hr.img hs))
  β := h.β
  shape := h.shape

theorem img_lt {G : Gh} {W : World} {σ : Heap} (h : HRel G W σ) {b : Nat} (hi : Img G σ b) : b < W.heap.size := by
  obtain ⟨id, loc, h1, h2, h3⟩ := hi
  cases hx : σ id with
  | none => exact absurd hx h1
  | some ob =>
    obtain ⟨loc', hb, ho, _⟩ := h.obj id ob hx
    rw [h2] at hb; cases hb
    subst h3
    rcases Nat.lt_or_ge loc.1 W.heap.size with hl | hl
    · exact hl
    · exfalso
      have hn : W.heap[loc.1]? = none := Array.getElem?_eq_none hl
      cases ob with
      | cells cs => obtain ⟨arr, e, hh, _⟩ := ho; rw [hn] at hh; cases hh
      | map es => obtain ⟨_, ms, c, hh, _⟩ := ho; rw [hn] at hh; cases hh
      | loop fr n ps as bd st pend => obtain ⟨_, f, t, D, hh, _⟩ := ho; rw [hn] at hh; cases hh

/-- A block of deferred calls is no object's. -/
theorem HRel.deferred {G : Gh} {W : World} {σ : Heap} (h : HRel G W σ) {D : Nat} {x : Option (List Deferred)} (hD : W.heap[D]? = some (.deferred x)) : ¬ Img G σ D := by
  rintro ⟨id, loc, h1, h2, h3⟩
  cases hx : σ id with
  | none => exact absurd hx h1
  | some ob =>
    obtain ⟨loc', hb, ho, _⟩ := h.obj id ob hx
    rw [h2] at hb; cases hb
    subst h3
    cases ob with
    | cells cs => obtain ⟨arr, e, hh, _⟩ := ho; rw [hD] at hh; cases hh
    | map es => obtain ⟨_, ms, c, hh, _⟩ := ho; rw [hD] at hh; cases hh
    | loop fr n ps as bd st pend => obtain ⟨_, f, t, D', hh, _⟩ := ho; rw [hD] at hh; cases hh

/-- What lies in a block that has not turned. -/
theorem ORel.mono {G G' : Gh} {W W' : World} (E : Ext G W G' W') {loc : Nat × Nat} {o : PObj} (hb : W'.heap[loc.1]? = W.heap[loc.1]?)
    (h : ORel G W loc o) : ORel G' W' loc o := by
  cases o with
  | cells cs =>
    obtain ⟨arr, e, h1, h2, h3⟩ := h
    exact ⟨arr, e, hb.trans h1, h2, fun j hj => (h3 j hj).mono E⟩
  | map es =>
    obtain ⟨h0, ms, c, h1, h2, h3⟩ := h
    exact ⟨h0, ms, c, hb.trans h1, h2, fun j hj => ⟨(h3 j hj).1.mono E, (h3 j hj).2.mono E⟩⟩
  | loop fr n ps as bd st pend =>
    obtain ⟨h0, f, t, D, h1, h2⟩ := h
    exact ⟨h0, f, t, D, hb.trans h1, h2.mono E⟩

/-- **A STEP THAT TURNS NOTHING OLD**: new blocks alone. -/
structure QEv (G : Gh) (W : World) (G' : Gh) (W' : World) : Prop where
  os : W'.os = W.os
  tape : W'.tape = W.tape
  output : W'.output = W.output
  size : W.heap.size ≤ W'.heap.size
  keep : ∀ b, b < W.heap.size → W'.heap[b]? = W.heap[b]?
  S : ∀ b o, G.S b o → G'.S b o
  snew : ∀ b o, G'.S b o → G.S b o ∨ W.heap.size ≤ b
  stab : ∀ b o, G'.S b o → ∃ v, W'.cell? ⟨b, o, none⟩ = some v
  β : ∀ id l, G.β id = some l → G'.β id = some l
  bnd : ∃ N, ∀ id, N ≤ id → G'.β id = none

theorem shape_block {W W' : World} {b : Nat} (h : W'.heap[b]? = W.heap[b]?) : W'.shape? b = W.shape? b := by
  unfold World.shape?; simp only [h]
theorem lt_of_shape {W : World} {b : Nat} {s : TypeId × Nat} (h : W.shape? b = some s) : b < W.heap.size := by
  rcases Nat.lt_or_ge b W.heap.size with h1 | h1
  · exact h1
  · unfold World.shape? at h; simp [Array.getElem?_eq_none h1] at h
theorem lt_of_heap {W : World} {b : Nat} {o : Obj} (h : W.heap[b]? = some o) : b < W.heap.size := by
  rcases Nat.lt_or_ge b W.heap.size with h1 | h1
  · exact h1
  · simp [Array.getElem?_eq_none h1] at h

theorem QEv.refl {G : Gh} {W : World} {σ : Heap} (h : HRel G W σ) : QEv G W G W :=
  ⟨rfl, rfl, rfl, Nat.le_refl _, fun _ _ => rfl, fun _ _ h => h, fun _ _ h => .inl h, h.stab, fun _ _ h => h, h.bnd⟩
theorem QEv.trans {G G1 G2 : Gh} {W W1 W2 : World} (h : QEv G W G1 W1) (k : QEv G1 W1 G2 W2) : QEv G W G2 W2 where
  os := k.os.trans h.os
  tape := k.tape.trans h.tape
  output := k.output.trans h.output
  size := Nat.le_trans h.size k.size
  keep b hb := (k.keep b (Nat.lt_of_lt_of_le hb h.size)).trans (h.keep b hb)
  S b o hs := k.S b o (h.S b o hs)
  snew b o hs := (k.snew b o hs).elim (h.snew b o) (fun x => .inr (Nat.le_trans h.size x))
  stab := k.stab
  β id l hl := k.β id l (h.β id l hl)
  bnd := k.bnd

theorem QEv.evol {G G' : Gh} {W W' : World} {σ : Heap} (hr : HRel G W σ) (q : QEv G W G' W') : Evol G W σ G' W' σ where
  os := q.os
  tape := q.tape
  output := q.output
  size := q.size
  keep b hb _ := q.keep b hb
  shape b s hs := (shape_block (q.keep b (lt_of_shape hs))).trans hs
  S := q.S
  snew b o hs := (q.snew b o hs).elim .inl (fun h => .inr (.inl h))
  β := q.β
  own b hb := by
    obtain ⟨id, loc, h1, h2, h3⟩ := hb
    cases hx : σ id with
    | none => exact absurd hx h1
    | some o =>
      obtain ⟨loc', l1, _⟩ := hr.obj id o hx
      have := q.β _ _ l1; rw [h2] at this; cases this
      exact .inr ⟨id, loc, h1, l1, h3⟩
  fresh id hid := .inl hid

theorem QEv.hrel {G G' : Gh} {W W' : World} {σ : Heap} (q : QEv G W G' W') (h : HRel G W σ) : HRel G' W' σ where
  obj id o ho := by
    obtain ⟨loc, h1, h2, h3⟩ := h.obj id o ho
    have hi : Img G σ loc.1 := ⟨id, loc, by rw [ho]; simp, h1, rfl⟩
    have hl := img_lt h hi
    refine ⟨loc, q.β _ _ h1, ORel.mono ((q.evol h).ext h) (q.keep _ hl) h2, fun off hs => ?_⟩
    rcases q.snew _ _ hs with hh | hh
    · exact h3 off hh
    · omega
  inj id id' l l' h1 h2 h3 h4 h5 := by
    cases hx : σ id with
    | none => exact absurd hx h1
    | some o =>
      cases hy : σ id' with
      | none => exact absurd hy h2
      | some o' =>
        obtain ⟨loc, l1, _⟩ := h.obj id o hx
        obtain ⟨loc', l2, _⟩ := h.obj id' o' hy
        have e1 := q.β _ _ l1; rw [h3] at e1; cases e1
        have e2 := q.β _ _ l2; rw [h4] at e2; cases e2
        exact h.inj id id' l l' h1 h2 l1 l2 h5
  stab := q.stab
  bnd := q.bnd

/-- The marks of ranges over functions among the deferred calls. -/
def DRel (base : Nat) (W : World) (ds : List Deferred) : Prop :=
  ∃ Ds : List Nat, ds = Ds.map (fun D => { target := .collected D, args := #[] }) ∧ Ds.Nodup ∧ ∀ D ∈ Ds, base ≤ D ∧ W.heap[D]? = some (.deferred (some []))

theorem DRel.nil (base : Nat) (W : World) : DRel base W [] := ⟨[], rfl, List.nodup_nil, by simp⟩

theorem DRel.evol {base : Nat} {G G' : Gh} {W W' : World} {σ σ' : Heap} {ds : List Deferred} (h : DRel base W ds) (hr : HRel G W σ) (e : Evol G W σ G' W' σ') : DRel base W' ds := by
  obtain ⟨Ds, h1, h2, h3⟩ := h
  exact ⟨Ds, h1, h2, fun D hD => ⟨(h3 D hD).1, (e.keep D (lt_of_heap (h3 D hD).2) (hr.deferred (h3 D hD).2)).trans (h3 D hD).2⟩⟩

/-- The fence of all walks here: it bars nothing. -/
def FW (r : Option Nat) : Fence := { Fence.wide with round := r }
@[simp] theorem FW_fn (r : Option Nat) (f : FuncId) : (FW r).fn f = True := rfl
@[simp] theorem FW_depth (r : Option Nat) : (FW r).depth = none := rfl
@[simp] theorem FW_round (r : Option Nat) : (FW r).round = r := rfl
theorem FW_none : FW none = Fence.wide := rfl
theorem FW_inRound (r : Option Nat) (l : Nat) : (FW r).inRound l = FW (some l) := rfl

end Go.Lo
