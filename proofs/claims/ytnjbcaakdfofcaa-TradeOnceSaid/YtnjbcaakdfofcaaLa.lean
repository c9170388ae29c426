/-
  The program logic 'Lo', part A: abstract values, their relation to the model's values, abstract memory, how a step may change the world. Nothing of the program.
-/
import Derived.WalkKit
import Derived.RangeFuncRecord
import Derived.RangeFuncIn
import Derived.RangeFuncLeaves
import Derived.Orders
import Derived.TacticsIn
import Derived.Laws.BytesString
import Derived.OrdersIn
import Derived.Still
set_option linter.unusedSimpArgs false
set_option linter.unusedVariables false
namespace Go.Lo
open Go

/-- Abstract values: memory that nobody writes any more stands inline. -/
inductive PV where
  | any
  | lit (v : Value)
  | agg (cs : List PV)
  | tup (cs : List PV)
  | slice (full : Bool) (rows : List (List PV))
  | ref (cs : List PV)
  | ptr (id off : Nat)
  | msl (id k off len : Nat) (full : Bool)
  | fn (f : Fn) (first captured : List PV)
  | yld (id : Nat)
  | map (id : Nat)
  | gd (g : Bool) (v : PV)
  | iface (t : TypeId) (v : PV)
  deriving Inhabited

abbrev Fr := Nat → PV
def Fr.set (fr : Fr) (d : Nat) (v : PV) : Fr := fun t => if t = d then v else fr t
theorem Fr.set_apply (fr : Fr) (d : Nat) (v : PV) (t : Nat) : (fr.set d v) t = if t = d then v else fr t := rfl

/-- What is known beside the world: the cells that stay as they are; where the live objects lie. -/
structure Gh where
  S : Nat → Nat → Prop
  β : Nat → Option (Nat × Nat)

inductive VRel (G : Gh) (W : World) : PV → Value → Prop
  | any (v : Value) : VRel G W .any v
  | lit (v : Value) : VRel G W (.lit v) v
  | agg (cs : List PV) (vs : Array Value) : vs.size = cs.length → (∀ i, i < cs.length → VRel G W (cs.getD i .any) (vs.getD i undef)) → VRel G W (.agg cs) (.agg vs)
  | tup (cs : List PV) (vs : Array Value) : vs.size = cs.length → (∀ i, i < cs.length → VRel G W (cs.getD i .any) (vs.getD i undef)) → VRel G W (.tup cs) (.tuple vs)
  | slice (full : Bool) (rows : List (List PV)) (b off len cap k : Nat) (cv : Nat → Value) : rows.length = len → len ≤ cap → len ≤ maxLen → (full = true → cap = len) →
      (∀ i, i < len → (rows.getD i []).length = k) → (∀ j, j < len * k → G.S b (off + j) ∧ W.cell? ⟨b, off + j, none⟩ = some (cv j)) →
      (∀ i j, i < len → j < k → VRel G W ((rows.getD i []).getD j .any) (cv (i * k + j))) → VRel G W (.slice full rows) (.slice (some ⟨b, off, none⟩) len cap)
  | nilsl (full : Bool) (base : Option Addr) (cap : Nat) : (full = true → cap = 0) → VRel G W (.slice full []) (.slice base 0 cap)
  | ref (cs : List PV) (b off : Nat) (cv : Nat → Value) : (∀ j, j < cs.length → G.S b (off + j) ∧ W.cell? ⟨b, off + j, none⟩ = some (cv j)) →
      (∀ j, j < cs.length → VRel G W (cs.getD j .any) (cv j)) → VRel G W (.ref cs) (.pointer (some ⟨b, off, none⟩))
  | ptr (id o R δ : Nat) : G.β id = some (R, δ) → VRel G W (.ptr id o) (.pointer (some ⟨R, δ + o, none⟩))
  | msl (id k o len cap R δ n b off : Nat) (full : Bool) (e : TypeId) : G.β id = some (R, δ) → len ≤ cap → len ≤ maxLen → (full = true → cap = len) → (0 < cap → b = R ∧ off = δ + o) → W.shape? R = some (e, n) →
      (0 < cap → δ + o + cap * k ≤ n) → VRel G W (.msl id k o len full) (.slice (some ⟨b, off, none⟩) len cap)
  | fn (f : Fn) (first captured : List PV) (vf vc : Array Value) : vf.size = first.length → (∀ i, i < first.length → VRel G W (first.getD i .any) (vf.getD i undef)) →
      vc.size = captured.length → (∀ i, i < captured.length → VRel G W (captured.getD i .any) (vc.getD i undef)) → VRel G W (.fn f first captured) (.func f vf vc)
  | yld (id R : Nat) : G.β id = some (R, 0) → VRel G W (.yld id) (.func (.yield R) #[] #[])
  | map (id R : Nat) : G.β id = some (R, 0) → VRel G W (.map id) (.map (some R))
  | gd (g : Bool) (p : PV) (v : Value) : (g = true → VRel G W p v) → (g = false → v = undef) → VRel G W (.gd g p) v
  | iface (t : TypeId) (p : PV) (v : Value) : VRel G W p v → VRel G W (.iface t p) (.iface t v)

structure Ext (G : Gh) (W : World) (G' : Gh) (W' : World) : Prop where
  S : ∀ b o, G.S b o → G'.S b o
  cell : ∀ b o, G.S b o → W'.cell? ⟨b, o, none⟩ = W.cell? ⟨b, o, none⟩
  β : ∀ id l, G.β id = some l → G'.β id = some l
  shape : ∀ b s, W.shape? b = some s → W'.shape? b = some s

theorem Ext.refl (G : Gh) (W : World) : Ext G W G W := ⟨fun _ _ h => h, fun _ _ _ => rfl, fun _ _ h => h, fun _ _ h => h⟩

theorem VRel.mono {G G' : Gh} {W W' : World} (E : Ext G W G' W') {p : PV} {v : Value} (h : VRel G W p v) : VRel G' W' p v := by
  induction h with
  | any v => exact .any v
  | lit v => exact .lit v
  | agg cs vs h1 _ ih => exact .agg cs vs h1 ih
  | tup cs vs h1 _ ih => exact .tup cs vs h1 ih
  | slice full rows b off len cap k cv h1 h2 h3 h4 h5 h6 _ ih =>
    exact .slice full rows b off len cap k cv h1 h2 h3 h4 h5 (fun j hj => ⟨E.S _ _ (h6 j hj).1, (E.cell _ _ (h6 j hj).1).trans (h6 j hj).2⟩) ih
  | nilsl full base cap h => exact .nilsl full base cap h
  | ref cs b off cv h6 _ ih => exact .ref cs b off cv (fun j hj => ⟨E.S _ _ (h6 j hj).1, (E.cell _ _ (h6 j hj).1).trans (h6 j hj).2⟩) ih
  | ptr id o R δ h1 => exact .ptr id o R δ (E.β _ _ h1)
  | msl id k o len cap R δ n b off full e h1 h2 h3 h4 h5 h6 h7 => exact .msl id k o len cap R δ n b off full e (E.β _ _ h1) h2 h3 h4 h5 (E.shape _ _ h6) h7
  | fn f first captured vf vc h1 _ h3 _ ih1 ih2 => exact .fn f first captured vf vc h1 ih1 h3 ih2
  | yld id R h1 => exact .yld id R (E.β _ _ h1)
  | map id R h1 => exact .map id R (E.β _ _ h1)
  | gd g p v _ h2 ih => exact .gd g p v ih h2
  | iface t p v _ ih => exact .iface t p v ih

/-- Abstract objects: memory that is written. -/
inductive PObj where
  | cells (cs : List PV)
  | map (es : List (PV × PV))
  | loop (fr : Fr) (n : Nat) (ps : Array Tmp) (assign body : Code) (st : LoopState) (pend : Option Code)

abbrev Heap := Nat → Option PObj
def Heap.set (σ : Heap) (id : Nat) (o : PObj) : Heap := fun j => if j = id then some o else σ j
def Heap.del (σ : Heap) (id : Nat) : Heap := fun j => if j = id then none else σ j
def Heap.empty : Heap := fun _ => none
theorem Heap.set_apply (σ : Heap) (id : Nat) (o : PObj) (j : Nat) : (σ.set id o) j = if j = id then some o else σ j := rfl
theorem Heap.del_apply (σ : Heap) (id j : Nat) : (σ.del id) j = if j = id then none else σ j := rfl

def TRel (G : Gh) (W : World) (n : Nat) (fr : Fr) (tmps : Array Value) : Prop :=
  tmps.size = n ∧ ∀ t, VRel G W (fr t) (tmps.getD t undef)

theorem TRel.mono {G G' : Gh} {W W' : World} (E : Ext G W G' W') {n : Nat} {fr : Fr} {tmps : Array Value} (h : TRel G W n fr tmps) : TRel G' W' n fr tmps :=
  ⟨h.1, fun t => (h.2 t).mono E⟩

def ORel (G : Gh) (W : World) (loc : Nat × Nat) : PObj → Prop
  | .cells cs => ∃ arr e, W.heap[loc.1]? = some (.cells arr e (0, 0)) ∧ loc.2 + cs.length ≤ arr.size ∧ ∀ j, j < cs.length → VRel G W (cs.getD j .any) (arr.getD (loc.2 + j) undef)
  | .map es => loc.2 = 0 ∧ ∃ ms clock, W.heap[loc.1]? = some (.map ms clock) ∧ ms.size = es.length ∧
      ∀ i, i < es.length → VRel G W ((es.getD i (.any, .any)).1) ((ms.getD i default).key) ∧ VRel G W ((es.getD i (.any, .any)).2) ((ms.getD i default).val)
  | .loop fr n ps as bd st pend => loc.2 = 0 ∧ ∃ fn tmps D, W.heap[loc.1]? = some (.loop { state := st, pending := pend, fn := fn, tmps := tmps, params := ps, assign := as, body := bd, defers := D }) ∧
      TRel G W n fr tmps

structure HRel (G : Gh) (W : World) (σ : Heap) : Prop where
  obj : ∀ id o, σ id = some o → ∃ loc, G.β id = some loc ∧ ORel G W loc o ∧ ∀ off, ¬ G.S loc.1 off
  inj : ∀ id id' l l', σ id ≠ none → σ id' ≠ none → G.β id = some l → G.β id' = some l' → l.1 = l'.1 → id = id'
  stab : ∀ b o, G.S b o → ∃ v, W.cell? ⟨b, o, none⟩ = some v
  bnd : ∃ N, ∀ id, N ≤ id → G.β id = none

/-- Block b belongs to a live object. -/
def Img (G : Gh) (σ : Heap) (b : Nat) : Prop := ∃ id loc, σ id ≠ none ∧ G.β id = some loc ∧ loc.1 = b

structure Evol (G : Gh) (W : World) (σ : Heap) (G' : Gh) (W' : World) (σ' : Heap) : Prop where
  os : W'.os = W.os
  tape : W'.tape = W.tape
  output : W'.output = W.output
  size : W.heap.size ≤ W'.heap.size
  keep : ∀ b, b < W.heap.size → ¬ Img G σ b → W'.heap[b]? = W.heap[b]?
  shape : ∀ b s, W.shape? b = some s → W'.shape? b = some s
  S : ∀ b o, G.S b o → G'.S b o
  snew : ∀ b o, G'.S b o → G.S b o ∨ W.heap.size ≤ b ∨ Img G σ b
  β : ∀ id l, G.β id = some l → G'.β id = some l
  own : ∀ b, Img G' σ' b → W.heap.size ≤ b ∨ Img G σ b
  fresh : ∀ id, σ' id ≠ none → σ id ≠ none ∨ G.β id = none

theorem Evol.refl (G : Gh) (W : World) (σ : Heap) : Evol G W σ G W σ :=
  ⟨rfl, rfl, rfl, Nat.le_refl _, fun _ _ _ => rfl, fun _ _ h => h, fun _ _ h => h, fun _ _ h => .inl h, fun _ _ h => h, fun _ h => .inr h, fun _ h => .inl h⟩

theorem Evol.trans {G G1 G2 : Gh} {W W1 W2 : World} {σ σ1 σ2 : Heap} (h : Evol G W σ G1 W1 σ1) (k : Evol G1 W1 σ1 G2 W2 σ2) : Evol G W σ G2 W2 σ2 where
  os := k.os.trans h.os
  tape := k.tape.trans h.tape
  output := k.output.trans h.output
  size := Nat.le_trans h.size k.size
  keep b hb hi := by
    rw [k.keep b (Nat.lt_of_lt_of_le hb h.size) (fun h1 => (h.own b h1).elim (fun h2 => by omega) hi), h.keep b hb hi]
  shape b s hs := k.shape b s (h.shape b s hs)
  S b o hs := k.S b o (h.S b o hs)
  snew b o hs := by
    rcases k.snew b o hs with h1 | h1 | h1
    · exact h.snew b o h1
    · exact .inr (.inl (Nat.le_trans h.size h1))
    · exact (h.own b h1).elim (fun x => .inr (.inl x)) (fun x => .inr (.inr x))
  β id l hl := k.β id l (h.β id l hl)
  own b hb := by
    rcases k.own b hb with h1 | h1
    · exact .inl (Nat.le_trans h.size h1)
    · exact h.own b h1
  fresh id hid := by
    rcases k.fresh id hid with h1 | h1
    · exact h.fresh id h1
    · refine .inr ?_
      cases hx : G.β id with
      | none => rfl
      | some l => rw [h.β id l hx] at h1; cases h1

/-- Less is known of the memory behind. -/
theorem Evol.less {G G' : Gh} {W W' : World} {σ σ' σ'' : Heap} (h : Evol G W σ G' W' σ') (hs : ∀ id, σ'' id ≠ none → σ' id ≠ none) : Evol G W σ G' W' σ'' :=
  { h with
    own := fun b ⟨id, loc, h1, h2, h3⟩ => h.own b ⟨id, loc, hs id h1, h2, h3⟩
    fresh := fun id hid => h.fresh id (hs id hid) }

/-- A step on a part of the memory is a step on all of it. -/
theorem Img.more {G : Gh} {σ τ : Heap} (hs : ∀ id, σ id ≠ none → τ id ≠ none) {b : Nat} (h : Img G σ b) : Img G τ b :=
  let ⟨id, loc, h1, h2, h3⟩ := h; ⟨id, loc, hs id h1, h2, h3⟩

theorem HRel.less {G : Gh} {W : World} {σ σ' : Heap} (h : HRel G W σ) (hs : ∀ id o, σ' id = some o → σ id = some o) : HRel G W σ' where
  obj id o ho := h.obj id o (hs id o ho)
  inj id id' l l' h1 h2 := h.inj id id' l l' (fun e => by
      cases hx : σ' id with
      | none => exact h1 hx
      | some o => rw [hs id o hx] at e; cases e) (fun e => by
      cases hx : σ' id' with
      | none => exact h2 hx
      | some o => rw [hs id' o hx] at e; cases e)
  stab := h.stab
  bnd := h.bnd

theorem World.cell_block {W W' : World} {b o : Nat} (h : W'.heap[b]? = W.heap[b]?) : W'.cell? ⟨b, o, none⟩ = W.cell? ⟨b, o, none⟩ := by
  unfold World.cell?; simp only [h]

theorem lt_of_cell {W : World} {b o : Nat} {v : Value} (h : W.cell? ⟨b, o, none⟩ = some v) : b < W.heap.size := by
  rcases Nat.lt_or_ge b W.heap.size with h1 | h1
  · exact h1
  · unfold World.cell? at h; simp [Array.getElem?_eq_none h1] at h

theorem HRel.img {G : Gh} {W : World} {σ : Heap} (h : HRel G W σ) {b o : Nat} (hs : G.S b o) : ¬ Img G σ b := by
  rintro ⟨id, loc, h1, h2, h3⟩
  cases hx : σ id with
  | none => exact h1 hx
  | some ob =>
    obtain ⟨loc', hb, _, hn⟩ := h.obj id ob hx
    rw [h2] at hb; cases hb
    exact hn o (h3 ▸ hs)

theorem Evol.ext {G G' : Gh} {W W' : World} {σ σ' : Heap} (h : Evol G W σ G' W' σ') (hr : HRel G W σ) : Ext G W G' W' where
  S := h.S
  cell b o hs := by
    obtain ⟨v, hv⟩ := hr.stab b o hs
    exact World.cell_block (h.keep b (lt_of_cell hv) (hr.img hs))
  β := h.β
  shape := h.shape

theorem img_lt {G : Gh} {W : World} {σ : Heap} (h : HRel G W σ) {b : Nat} (hi : Img G σ b) : b < W.heap.size := by
  obtain ⟨id, loc, h1, h2, h3⟩ := hi
  cases hx : σ id with
  | none => exact absurd hx h1
  | some ob =>
    obtain ⟨loc', hb, ho, _⟩ := h.obj id ob hx
    rw [h2] at hb; cases hb
    subst h3
    rcases Nat.lt_or_ge loc.1 W.heap.size with hl | hl
    · exact hl
    · exfalso
      have hn : W.heap[loc.1]? = none := Array.getElem?_eq_none hl
      cases ob with
      | cells cs => obtain ⟨arr, e, hh, _⟩ := ho; rw [hn] at hh; cases hh
      | map es => obtain ⟨_, ms, c, hh, _⟩ := ho; rw [hn] at hh; cases hh
      | loop fr n ps as bd st pend => obtain ⟨_, f, t, D, hh, _⟩ := ho; rw [hn] at hh; cases hh

/-- A block of deferred calls is no object's. -/
theorem HRel.deferred {G : Gh} {W : World} {σ : Heap} (h : HRel G W σ) {D : Nat} {x : Option (List Deferred)} (hD : W.heap[D]? = some (.deferred x)) : ¬ Img G σ D := by
  rintro ⟨id, loc, h1, h2, h3⟩
  cases hx : σ id with
  | none => exact absurd hx h1
  | some ob =>
    obtain ⟨loc', hb, ho, _⟩ := h.obj id ob hx
    rw [h2] at hb; cases hb
    subst h3
    cases ob with
    | cells cs => obtain ⟨arr, e, hh, _⟩ := ho; rw [hD] at hh; cases hh
    | map es => obtain ⟨_, ms, c, hh, _⟩ := ho; rw [hD] at hh; cases hh
    | loop fr n ps as bd st pend => obtain ⟨_, f, t, D', hh, _⟩ := ho; rw [hD] at hh; cases hh

/-- What lies in a block that has not turned. -/
theorem ORel.mono {G G' : Gh} {W W' : World} (E : Ext G W G' W') {loc : Nat × Nat} {o : PObj} (hb : W'.heap[loc.1]? = W.heap[loc.1]?)
    (h : ORel G W loc o) : ORel G' W' loc o := by
  cases o with
  | cells cs =>
    obtain ⟨arr, e, h1, h2, h3⟩ := h
    exact ⟨arr, e, hb.trans h1, h2, fun j hj => (h3 j hj).mono E⟩
  | map es =>
    obtain ⟨h0, ms, c, h1, h2, h3⟩ := h
    exact ⟨h0, ms, c, hb.trans h1, h2, fun j hj => ⟨(h3 j hj).1.mono E, (h3 j hj).2.mono E⟩⟩
  | loop fr n ps as bd st pend =>
    obtain ⟨h0, f, t, D, h1, h2⟩ := h
    exact ⟨h0, f, t, D, hb.trans h1, h2.mono E⟩

/-- **A STEP THAT TURNS NOTHING OLD**: new blocks alone. -/
structure QEv (G : Gh) (W : World) (G' : Gh) (W' : World) : Prop where
  os : W'.os = W.os
  tape : W'.tape = W.tape
  output : W'.output = W.output
  size : W.heap.size ≤ W'.heap.size
  keep : ∀ b, b < W.heap.size → W'.heap[b]? = W.heap[b]?
  S : ∀ b o, G.S b o → G'.S b o
  snew : ∀ b o, G'.S b o → G.S b o ∨ W.heap.size ≤ b
  stab : ∀ b o, G'.S b o → ∃ v, W'.cell? ⟨b, o, none⟩ = some v
  β : ∀ id l, G.β id = some l → G'.β id = some l
  bnd : ∃ N, ∀ id, N ≤ id → G'.β id = none

theorem shape_block {W W' : World} {b : Nat} (h : W'.heap[b]? = W.heap[b]?) : W'.shape? b = W.shape? b := by
  unfold World.shape?; simp only [h]
theorem lt_of_shape {W : World} {b : Nat} {s : TypeId × Nat} (h : W.shape? b = some s) : b < W.heap.size := by
  rcases Nat.lt_or_ge b W.heap.size with h1 | h1
  · exact h1
  · unfold World.shape? at h; simp [Array.getElem?_eq_none h1] at h
theorem lt_of_heap {W : World} {b : Nat} {o : Obj} (h : W.heap[b]? = some o) : b < W.heap.size := by
  rcases Nat.lt_or_ge b W.heap.size with h1 | h1
  · exact h1
  · simp [Array.getElem?_eq_none h1] at h

theorem QEv.refl {G : Gh} {W : World} {σ : Heap} (h : HRel G W σ) : QEv G W G W :=
  ⟨rfl, rfl, rfl, Nat.le_refl _, fun _ _ => rfl, fun _ _ h => h, fun _ _ h => .inl h, h.stab, fun _ _ h => h, h.bnd⟩
theorem QEv.trans {G G1 G2 : Gh} {W W1 W2 : World} (h : QEv G W G1 W1) (k : QEv G1 W1 G2 W2) : QEv G W G2 W2 where
  os := k.os.trans h.os
  tape := k.tape.trans h.tape
  output := k.output.trans h.output
  size := Nat.le_trans h.size k.size
  keep b hb := (k.keep b (Nat.lt_of_lt_of_le hb h.size)).trans (h.keep b hb)
  S b o hs := k.S b o (h.S b o hs)
  snew b o hs := (k.snew b o hs).elim (h.snew b o) (fun x => .inr (Nat.le_trans h.size x))
  stab := k.stab
  β id l hl := k.β id l (h.β id l hl)
  bnd := k.bnd

theorem QEv.evol {G G' : Gh} {W W' : World} {σ : Heap} (hr : HRel G W σ) (q : QEv G W G' W') : Evol G W σ G' W' σ where
  os := q.os
  tape := q.tape
  output := q.output
  size := q.size
  keep b hb _ := q.keep b hb
  shape b s hs := (shape_block (q.keep b (lt_of_shape hs))).trans hs
  S := q.S
  snew b o hs := (q.snew b o hs).elim .inl (fun h => .inr (.inl h))
  β := q.β
  own b hb := by
    obtain ⟨id, loc, h1, h2, h3⟩ := hb
    cases hx : σ id with
    | none => exact absurd hx h1
    | some o =>
      obtain ⟨loc', l1, _⟩ := hr.obj id o hx
      have := q.β _ _ l1; rw [h2] at this; cases this
      exact .inr ⟨id, loc, h1, l1, h3⟩
  fresh id hid := .inl hid

theorem QEv.hrel {G G' : Gh} {W W' : World} {σ : Heap} (q : QEv G W G' W') (h : HRel G W σ) : HRel G' W' σ where
  obj id o ho := by
    obtain ⟨loc, h1, h2, h3⟩ := h.obj id o ho
    have hi : Img G σ loc.1 := ⟨id, loc, by rw [ho]; simp, h1, rfl⟩
    have hl := img_lt h hi
    refine ⟨loc, q.β _ _ h1, ORel.mono ((q.evol h).ext h) (q.keep _ hl) h2, fun off hs => ?_⟩
    rcases q.snew _ _ hs with hh | hh
    · exact h3 off hh
    · omega
  inj id id' l l' h1 h2 h3 h4 h5 := by
    cases hx : σ id with
    | none => exact absurd hx h1
    | some o =>
      cases hy : σ id' with
      | none => exact absurd hy h2
      | some o' =>
        obtain ⟨loc, l1, _⟩ := h.obj id o hx
        obtain ⟨loc', l2, _⟩ := h.obj id' o' hy
        have e1 := q.β _ _ l1; rw [h3] at e1; cases e1
        have e2 := q.β _ _ l2; rw [h4] at e2; cases e2
        exact h.inj id id' l l' h1 h2 l1 l2 h5
  stab := q.stab
  bnd := q.bnd

/-- The marks of ranges over functions among the deferred calls. -/
def DRel (base : Nat) (W : World) (ds : List Deferred) : Prop :=
  ∃ Ds : List Nat, ds = Ds.map (fun D => { target := .collected D, args := #[] }) ∧ Ds.Nodup ∧ ∀ D ∈ Ds, base ≤ D ∧ W.heap[D]? = some (.deferred (some []))

theorem DRel.nil (base : Nat) (W : World) : DRel base W [] := ⟨[], rfl, List.nodup_nil, by simp⟩

theorem DRel.evol {base : Nat} {G G' : Gh} {W W' : World} {σ σ' : Heap} {ds : List Deferred} (h : DRel base W ds) (hr : HRel G W σ) (e : Evol G W σ G' W' σ') : DRel base W' ds := by
  obtain ⟨Ds, h1, h2, h3⟩ := h
  exact ⟨Ds, h1, h2, fun D hD => ⟨(h3 D hD).1, (e.keep D (lt_of_heap (h3 D hD).2) (hr.deferred (h3 D hD).2)).trans (h3 D hD).2⟩⟩

/-- The fence of all walks here: it bars nothing. -/
def FW (r : Option Nat) : Fence := { Fence.wide with round := r }
@[simp] theorem FW_fn (r : Option Nat) (f : FuncId) : (FW r).fn f = True := rfl
@[simp] theorem FW_depth (r : Option Nat) : (FW r).depth = none := rfl
@[simp] theorem FW_round (r : Option Nat) : (FW r).round = r := rfl
theorem FW_none : FW none = Fence.wide := rfl
theorem FW_inRound (r : Option Nat) (l : Nat) : (FW r).inRound l = FW (some l) := rfl

end Go.Lo

/-
  The program logic 'Lo', part B: what an operation that turns nothing old yields ('ev'), and that the model's operation yields just that. Nothing of the program.
-/
set_option linter.unusedSimpArgs false
set_option linter.unusedVariables false
namespace Go.Lo
open Go

def opv (fr : Fr) : Operand → PV
  | .tmp t => fr t
  | .const v => .lit v
  | .global _ => .any
  | .func f => .fn (.func f) [] []
/-- The value behind a guard. -/
def sv : PV → PV
  | .gd _ v => v
  | v => v
def avt : PV → Prop
  | .gd g _ => g = true
  | _ => True

/-- What the types say, as far as it is asked. -/
def isAggD : TypeDesc → Bool
  | .struct _ | .array _ _ => true
  | _ => false
def inf (P : Program) (t : TypeId) : Option (Nat × Bool) :=
  match P.info? t, P.underlying t with
  | some i, some d => some (i.size, isAggD d)
  | _, _ => none
/-- A struct's field: offset, size, is it a struct or an array. -/
def fldT (P : Program) (t : TypeId) (f : Nat) : Option (Nat × Nat × Bool) :=
  match P.underlying t with
  | some (.struct fs) => match fs[f]? with
    | some x => (inf P x.type).map fun i => (x.offset, i.1, i.2)
    | none => none
  | _ => none
/-- A slice's element's size; an array's length and element's size (and whether the element is a struct or an array). -/
def ixi (P : Program) (t : TypeId) : Option (Option Nat × Nat × Bool) :=
  match P.underlying t with
  | some (.slice e) => (inf P e).map fun i => (none, i.1, i.2)
  | some (.array n e) => (inf P e).map fun i => (some n, i.1, i.2)
  | _ => none

structure EV where
  D : Prop
  V : PV
def EV.no : EV := ⟨False, .any⟩

def RunQ (P : Program) (G : Gh) (W : World) (s : Sem Next) (V : PV) : Prop :=
  ∃ v' G' W', s.run P W = .ok (.value v') W' ∧ QEv G W G' W' ∧ VRel G' W' V v'

theorem RunQ.same {P : Program} {G : Gh} {W : World} {s : Sem Next} {V : PV} {σ : Heap} (h : HRel G W σ) {v : Value} (hr : s.run P W = .ok (.value v) W) (hv : VRel G W V v) : RunQ P G W s V :=
  ⟨v, G, W, hr, .refl h, hv⟩

section
variable {P : Program} {G : Gh} {W : World} {σ : Heap} {fr : Fr} {n : Nat} {A : Act}

theorem opv_rel (h : TRel G W n fr A.tmps) (x : Operand) : VRel G W (opv fr x) (A.eval x) := by
  cases x with
  | tmp t => exact h.2 t
  | const v => exact .lit v
  | global g => exact .any _
  | func f => exact .fn _ _ _ _ _ rfl (by simp) rfl (by simp)

theorem sv_rel {p : PV} {v : Value} (h : VRel G W p v) (ha : avt p) : VRel G W (sv p) v := by
  cases p with
  | gd g q => cases h with
    | gd _ _ _ h1 _ => exact h1 ha
  | _ => exact h

theorem lit_inv {v v' : Value} (h : VRel G W (.lit v) v') : v' = v := by cases h; rfl

/-! ### Numbers -/
def evInt (op : BinOp) (k : IntKind) (x y : Int) : EV :=
  match op with
  | .add => ⟨True, .lit (.int k (k.wrap (x + y)))⟩
  | .sub => ⟨True, .lit (.int k (k.wrap (x - y)))⟩
  | .mul => ⟨True, .lit (.int k (k.wrap (x * y)))⟩
  | .quo => ⟨y ≠ 0, .lit (.int k (k.wrap (x.tdiv y)))⟩
  | .rem => ⟨y ≠ 0, .lit (.int k (x.tmod y))⟩
  | .and => ⟨True, .lit (.int k (k.wrap (BitVec.ofInt k.bits x &&& BitVec.ofInt k.bits y).toNat))⟩
  | .or => ⟨True, .lit (.int k (k.wrap (BitVec.ofInt k.bits x ||| BitVec.ofInt k.bits y).toNat))⟩
  | .xor => ⟨True, .lit (.int k (k.wrap (BitVec.ofInt k.bits x ^^^ BitVec.ofInt k.bits y).toNat))⟩
  | .andNot => ⟨True, .lit (.int k (k.wrap (BitVec.ofInt k.bits x &&& ~~~ BitVec.ofInt k.bits y).toNat))⟩
  | .shl => ⟨0 ≤ y, .lit (.int k (k.wrap (x * 2 ^ (min y.toNat k.bits))))⟩
  | .shr => ⟨0 ≤ y, .lit (.int k (x.fdiv (2 ^ (min y.toNat k.bits))))⟩
  | .eql => ⟨True, .lit (.bool (x == y))⟩
  | .neq => ⟨True, .lit (.bool (x != y))⟩
  | .lss => ⟨True, .lit (.bool (x < y))⟩
  | .leq => ⟨True, .lit (.bool (x ≤ y))⟩
  | .gtr => ⟨True, .lit (.bool (x > y))⟩
  | .geq => ⟨True, .lit (.bool (x ≥ y))⟩

def shifts : BinOp → Bool
  | .shl | .shr => true
  | _ => false

theorem evInt_run {op : BinOp} {k k' : IntKind} {x y : Int} {t : TypeId} (hk : shifts op = false → k = k') (h : (evInt op k x y).D) :
    ∃ v, (binOp op t (.int k x) (.int k' y)).run P W = .ok v W ∧ (evInt op k x y).V = .lit v := by
  cases op <;> simp only [shifts] at hk <;>
    first
    | (have e := hk trivial; subst e
       simp only [evInt, ne_eq] at h ⊢
       refine ⟨_, ?_, rfl⟩
       first
       | (simp [binOp, Op.intArith, Op.intCmp, Op.intBits, go_sem]; done)
       | (simp [binOp, Op.intDiv, go_sem]; exact h))
    | (simp only [evInt] at h ⊢
       refine ⟨_, ?_, rfl⟩
       have : ¬ y < 0 := by omega
       simp [binOp, Op.shift, this, go_sem])

/-! ### Scalars; equality of structs and arrays of scalars -/
def scalarD : TypeDesc → Bool
  | .bool | .int _ | .string => true
  | _ => false
def litFit : TypeDesc → PV → Prop
  | .bool, .lit (.bool _) => True
  | .int k, .lit (.int k' _) => k' = k
  | .string, .lit (.string _) => True
  | _, _ => False
def litEq : PV → PV → Bool
  | .lit (.bool a), .lit (.bool b) => a == b
  | .lit (.int _ a), .lit (.int _ b) => a == b
  | .lit (.string a), .lit (.string b) => a == b
  | _, _ => false

theorem litFit_inv {ty : TypeDesc} {p : PV} (h : litFit ty p) : (∃ b, ty = .bool ∧ p = .lit (.bool b)) ∨ (∃ k n, ty = .int k ∧ p = .lit (.int k n)) ∨ (∃ s, ty = .string ∧ p = .lit (.string s)) := by
  unfold litFit at h
  split at h
  · exact .inl ⟨_, rfl, rfl⟩
  · subst h; exact .inr (.inl ⟨_, _, rfl, rfl⟩)
  · exact .inr (.inr ⟨_, rfl, rfl⟩)
  · exact h.elim

theorem litEq_run {d : Nat} {t : TypeId} {ty : TypeDesc} {p q : PV} {v w : Value} (ht : P.underlying t = some ty) (hp : litFit ty p) (hq : litFit ty q) (hv : VRel G W p v) (hw : VRel G W q w) :
    (Op.equalIn (d + 1) t v w).run P W = .ok (litEq p q) W := by
  rcases litFit_inv hp with ⟨b, rfl, rfl⟩ | ⟨k, n, rfl, rfl⟩ | ⟨s, rfl, rfl⟩ <;> rcases litFit_inv hq with ⟨b', e, rfl⟩ | ⟨k', n', e, rfl⟩ | ⟨s', e, rfl⟩ <;> cases e <;> cases hv <;> cases hw <;>
    simp [Op.equalIn, litEq, underlying, ht, go_sem, program, Sem.run_bind, Sem.run]

/-- The places and kinds that '==' at a struct or an array of scalars looks at. -/
def eqS (P : Program) (t : TypeId) : Option (List (Nat × TypeDesc)) :=
  if P.eqGuardType P.depth t then none else
  match P.underlying t with
  | some (.struct fs) =>
    if P.stoodInHeld t then none else
    fs.toList.mapM fun f =>
      if f.name = "_" then none else
      match P.underlying f.type with
      | some ty => if scalarD ty then some (f.offset, ty) else none
      | none => none
  | some (.array n e) =>
    match P.underlying e, inf P e with
    | some ty, some (1, _) => if scalarD ty then some ((List.range n).map fun i => (i, ty)) else none
    | _, _ => none
  | _ => none

def evEq (P : Program) (t : TypeId) (cs ds : List PV) : EV :=
  match eqS P t with
  | some l => ⟨∀ x ∈ l, litFit x.2 (cs.getD x.1 .any) ∧ litFit x.2 (ds.getD x.1 .any), .lit (.bool (l.all fun x => litEq (cs.getD x.1 .any) (ds.getD x.1 .any)))⟩
  | none => .no

theorem run_isAgg_scalar {t : TypeId} {ty : TypeDesc} (ht : P.underlying t = some ty) (hs : scalarD ty = true) : (isAgg t).run P W = .ok false W := by
  cases ty <;> simp [scalarD] at hs <;> simp [isAgg, Sem.run_bind, run_underlying ht]

theorem part_scalar {t : TypeId} {ty : TypeDesc} {cs : List PV} {vs : Array Value} {off : Nat} (ht : P.underlying t = some ty) (hs : scalarD ty = true) (hv : vs.size = cs.length)
    (hf : litFit ty (cs.getD off .any)) : (part t vs off).run P W = .ok (vs.getD off undef) W := by
  have hlt : off < cs.length := by
    rcases Nat.lt_or_ge off cs.length with h | h
    · exact h
    · simp [List.getD, List.getElem?_eq_none h, litFit] at hf
  have hlt' : off < vs.size := by omega
  simp [part, Sem.run_bind, run_isAgg_scalar ht hs, hlt', go_sem]

theorem eqFields_run {d : Nat} {cs ds : List PV} {vs ws : Array Value} (h1 : vs.size = cs.length) (h2 : ∀ i, i < cs.length → VRel G W (cs.getD i .any) (vs.getD i undef))
    (h3 : ws.size = ds.length) (h4 : ∀ i, i < ds.length → VRel G W (ds.getD i .any) (ws.getD i undef)) :
    ∀ (fs : List Field) (l : List (Nat × TypeDesc)), (fs.mapM fun f => if f.name = "_" then none else
      match P.underlying f.type with
      | some ty => if scalarD ty then some (f.offset, ty) else none
      | none => none) = some l → (∀ x ∈ l, litFit x.2 (cs.getD x.1 .any) ∧ litFit x.2 (ds.getD x.1 .any)) →
      (Op.eqFields (d + 1) vs ws fs).run P W = .ok (l.all fun x => litEq (cs.getD x.1 .any) (ds.getD x.1 .any)) W := by
  have lt : ∀ {cs : List PV} {ty : TypeDesc} {off : Nat}, litFit ty (cs.getD off .any) → off < cs.length := fun {cs ty off} hf => by
    rcases Nat.lt_or_ge off cs.length with h | h
    · exact h
    · simp [List.getD, List.getElem?_eq_none h, litFit] at hf
  intro fs
  induction fs with
  | nil => intro l hl _; simp at hl; subst hl; simp [Op.eqFields, go_sem]
  | cons f fs ih =>
    intro l hl hf
    rw [List.mapM_cons] at hl
    split at hl
    · simp at hl
    rename_i hn
    split at hl
    · rename_i ty hty
      split at hl
      · rename_i hs
        simp only [Option.pure_def, Option.bind_eq_bind, Option.bind_some] at hl
        obtain ⟨l', hl', he⟩ := Option.bind_eq_some_iff.1 hl
        simp at he; subst he
        obtain ⟨f1, f2⟩ := hf _ (List.mem_cons_self ..)
        have r1 := part_scalar (P := P) (W := W) hty hs h1 f1
        have r2 := part_scalar (P := P) (W := W) hty hs h3 f2
        have r3 := litEq_run (P := P) (W := W) (G := G) (d := d) hty f1 f2 (h2 _ (lt f1)) (h4 _ (lt f2))
        have r4 := ih l' hl' (fun x hx => hf x (List.mem_cons_of_mem _ hx))
        simp only [Op.eqFields, ne_eq, hn, not_false_eq_true, if_true, Sem.run_bind, r1, r2, r3, Result.andThen_ok, List.all_cons]
        cases hq : litEq (cs.getD f.offset .any) (ds.getD f.offset .any) <;> simp [r4, go_sem]
      · simp at hl
    · simp at hl

theorem inf_some {t : TypeId} {k : Nat} {a : Bool} (h : inf P t = some (k, a)) : ∃ i d, P.info? t = some i ∧ P.underlying t = some d ∧ i.size = k ∧ isAggD d = a := by
  unfold inf at h
  split at h
  · rename_i i d hi hd
    simp at h
    exact ⟨i, d, hi, hd, h.1, h.2⟩
  · cases h
theorem inf_size {t : TypeId} {k : Nat} {a : Bool} (h : inf P t = some (k, a)) : (sizeOf t).run P W = .ok k W := by
  obtain ⟨i, d, h1, _, h3, _⟩ := inf_some h
  simp [sizeOf, typeInfo, Sem.run_bind, h1, h3, program, Sem.run]
theorem inf_agg {t : TypeId} {k : Nat} {a : Bool} (h : inf P t = some (k, a)) : (isAgg t).run P W = .ok a W := by
  obtain ⟨i, d, _, h2, _, h4⟩ := inf_some h
  subst h4
  cases d <;> simp [isAgg, Sem.run_bind, run_underlying h2, isAggD]

theorem eqArr_run {t e : TypeId} {ty : TypeDesc} {m : Nat} {ag : Bool} {cs ds : List PV} {vs ws : Array Value} (ht : P.underlying t = some (.array m e)) (hty : P.underlying e = some ty) (hs : scalarD ty = true)
    (hin : inf P e = some (1, ag)) (h1 : vs.size = cs.length) (h2 : ∀ i, i < cs.length → VRel G W (cs.getD i .any) (vs.getD i undef))
    (h3 : ws.size = ds.length) (h4 : ∀ i, i < ds.length → VRel G W (ds.getD i .any) (ws.getD i undef))
    (hf : ∀ i, i < m → litFit ty (cs.getD i .any) ∧ litFit ty (ds.getD i .any)) :
    (Op.equal t (.agg vs) (.agg ws)).run P W = .ok (((List.range m).map fun i => (i, ty)).all fun x => litEq (cs.getD x.1 .any) (ds.getD x.1 .any)) W := by
  have lt : ∀ {cs : List PV} {ty : TypeDesc} {off : Nat}, litFit ty (cs.getD off .any) → off < cs.length := fun {cs ty off} hf => by
    rcases Nat.lt_or_ge off cs.length with h | h
    · exact h
    · simp [List.getD, List.getElem?_eq_none h, litFit] at hf
  have one : ∀ i, i < m → ((part e vs (i * 1)).run P W = .ok (vs.getD i undef) W ∧ (part e ws (i * 1)).run P W = .ok (ws.getD i undef) W ∧
      (Op.equalIn 9999 e (vs.getD i undef) (ws.getD i undef)).run P W = .ok (litEq (cs.getD i .any) (ds.getD i .any)) W) := fun i hi => by
    obtain ⟨f1, f2⟩ := hf i hi
    rw [Nat.mul_one]
    exact ⟨part_scalar hty hs h1 f1, part_scalar hty hs h3 f2, litEq_run (d := 9998) hty f1 f2 (h2 _ (lt f1)) (h4 _ (lt f2))⟩
  rw [Op.equal, Op.maxDepth, show (10000 : Nat) = 9999 + 1 from rfl]
  generalize hd : (9999 : Nat) = dd at one ⊢
  rw [Op.equalIn]
  simp only [Sem.run_bind, run_underlying ht, Result.andThen_ok, inf_size hin, Std.Legacy.Range.forIn_eq_forIn_range', Std.Legacy.Range.size]
  rw [show (m - 0 + 1 - 1) / 1 = m by simp, ← List.range_eq_range']
  have key : ∀ l : List Nat, (∀ i ∈ l, i < m) → (forIn l ((none : Option Bool), ()) fun i (__s : Option Bool × Unit) => do
      let a ← part e vs (i * 1)
      let b ← part e ws (i * 1)
      let r ← Op.equalIn dd e a b
      if (!r) = true then pure (ForInStep.done (some false, ())) else pure (ForInStep.yield (none, ())) : Sem (Option Bool × Unit)).run P W =
      .ok (if (l.all fun i => litEq (cs.getD i .any) (ds.getD i .any)) then none else some false, ()) W := by
    intro l
    induction l with
    | nil => intro _; simp [go_sem]
    | cons i l ih =>
      intro hl
      obtain ⟨r1, r2, r3⟩ := one i (hl i (List.mem_cons_self ..))
      have r4 := ih (fun j hj => hl j (List.mem_cons_of_mem _ hj))
      simp only [List.forIn_cons, Sem.run_bind, r1, r2, r3, Result.andThen_ok, List.all_cons]
      by_cases hq : litEq (cs.getD i .any) (ds.getD i .any) = true
      · rw [if_neg (by simp only [hq]; decide)]
        simp only [Sem.run_pure, Result.andThen_ok, hq, Bool.true_and]
        exact r4
      · simp only [Bool.not_eq_true] at hq
        rw [if_pos (by simp only [hq]; decide)]
        simp only [Sem.run_pure, Result.andThen_ok, hq, Bool.false_and, Bool.false_eq_true, if_false]
  rw [key (List.range m) (fun i hi => List.mem_range.1 hi)]
  rw [List.all_map]
  simp only [Function.comp_def, Result.andThen_ok]
  generalize (List.range m).all (fun i => litEq (cs.getD i .any) (ds.getD i .any)) = bb
  cases bb <;> simp [go_sem]

theorem evEq_run {t : TypeId} {cs ds : List PV} {v w : Value} (hv : VRel G W (.agg cs) v) (hw : VRel G W (.agg ds) w) (h : (evEq P t cs ds).D) :
    (∃ vs ws, v = .agg vs ∧ w = .agg ws) ∧ P.eqGuardType P.depth t = false ∧ ∃ b, (Op.equal t v w).run P W = .ok b W ∧ (evEq P t cs ds).V = .lit (.bool b) := by
  cases hv with
  | agg _ vs h1 h2 =>
  cases hw with
  | agg _ ws h3 h4 =>
  refine ⟨⟨_, _, rfl, rfl⟩, ?_⟩
  unfold evEq at h ⊢
  cases hl : eqS P t with
  | none => rw [hl] at h; exact h.elim
  | some l =>
    rw [hl] at h
    simp only at h ⊢
    unfold eqS at hl
    split at hl
    · cases hl
    rename_i hg
    refine ⟨by simpa using hg, _, ?_, rfl⟩
    split at hl
    · rename_i fs ht
      split at hl
      · cases hl
      rename_i hsto
      have hfs : P.fieldsOf t = fs := by simp [Program.fieldsOf, ht]
      obtain ⟨dd, hd⟩ : ∃ dd, Op.maxDepth = dd + 1 + 1 := ⟨9998, rfl⟩
      rw [Op.equal, hd, run_equalIn_struct W (dd + 1) t vs ws (by rw [hfs]; exact ht) (by simpa using hsto), hfs]
      exact eqFields_run (d := dd) h1 h2 h3 h4 _ _ hl h
    · rename_i m e ht
      split at hl
      · rename_i ty ag hty hin
        split at hl
        · rename_i hs
          simp at hl; subst hl
          exact eqArr_run ht hty hs (by rw [hin]) h1 h2 h3 h4 (fun i hi => h (i, ty) (by simpa using hi))
        · cases hl
      · cases hl
    · cases hl

/-! ### Binary and unary operators -/
def notV : PV → PV
  | .lit (.bool b) => .lit (.bool (!b))
  | v => v
def evBin (P : Program) (op : BinOp) (t : TypeId) (a b : PV) : EV :=
  match a, b with
  | .lit (.int k x), .lit (.int k' y) => ⟨(shifts op = false → k = k') ∧ (evInt op k x y).D, (evInt op k x y).V⟩
  | .lit (.bool x), .lit (.bool y) =>
    match op with
    | .eql => ⟨P.underlying t = some .bool, .lit (.bool (x == y))⟩
    | .neq => ⟨P.underlying t = some .bool, .lit (.bool (!(x == y)))⟩
    | _ => .no
  | .lit (.string x), .lit (.string y) =>
    match op with
    | .eql => ⟨True, .lit (.bool (x.toList == y.toList))⟩
    | .neq => ⟨True, .lit (.bool (!(x.toList == y.toList)))⟩
    | .lss => ⟨True, .lit (.bool (Op.bytesLess x.toList y.toList))⟩
    | _ => .no
  | .agg cs, .agg ds =>
    match op with
    | .eql => evEq P t cs ds
    | .neq => ⟨(evEq P t cs ds).D, notV (evEq P t cs ds).V⟩
    | _ => .no
  | _, _ => .no

theorem eqGuard_plain {op : BinOp} {t : TypeId} {x y : Operand} {v w : Value} (h1 : ∀ a, v ≠ .agg a) (h2 : v ≠ .nilIface) : (eqGuard op t x y v w).run P W = .ok () W := by
  have key : (match v, w with
      | .nilIface, .nilIface => (do
        if (x matches .const _) || (y matches .const _) then return
        if ← Op.eqGuardIn Op.maxDepth t v w then unsupported (.noEntry "binop/eql: two nil values of an interface type with methods, neither of them the literal nil") : Sem Unit)
      | .agg _, .agg _ => do
        if !(← program).eqGuardType (← program).depth t then return
        if ← Op.eqGuardIn Op.maxDepth t v w then unsupported (.noEntry "binop/eql: two nil values of an interface type with methods, in a part of a struct or an array")
      | _, _ => pure ()).run P W = .ok () W := by
    split
    · exact absurd rfl h2
    · exact absurd rfl (h1 _)
    · rfl
  cases op <;> first | rfl | exact key

theorem evBin_run {op : BinOp} {t : TypeId} {x y : Operand} {a b : PV} {v w : Value} (hv : VRel G W a v) (hw : VRel G W b w) (h : (evBin P op t a b).D) :
    ∃ u, (do eqGuard op t x y v w; binOp op t v w : Sem Value).run P W = .ok u W ∧ VRel G W (evBin P op t a b).V u := by
  unfold evBin at h ⊢
  split at h
  · rename_i k x' k' y'
    cases hv; cases hw
    obtain ⟨u, h1, h2⟩ := evInt_run (P := P) (W := W) (t := t) h.1 h.2
    exact ⟨u, by rw [Sem.run_bind, eqGuard_plain (by simp) (by simp)]; exact h1, by rw [h2]; exact .lit u⟩
  · cases hv; cases hw
    split at h
    · refine ⟨_, by rw [Sem.run_bind, eqGuard_plain (by simp) (by simp)]; simp [binOp, Op.equal, Op.maxDepth, run_equalIn_bool' W _ t _ _ h, go_sem], .lit _⟩
    · refine ⟨_, by rw [Sem.run_bind, eqGuard_plain (by simp) (by simp)]; simp [binOp, Op.equal, Op.maxDepth, run_equalIn_bool' W _ t _ _ h, go_sem], .lit _⟩
    · exact h.elim
  · cases hv; cases hw
    split at h
    · exact ⟨_, by rw [Sem.run_bind, eqGuard_plain (by simp) (by simp)]; simp [binOp, Op.stringOp, go_sem], .lit _⟩
    · exact ⟨_, by rw [Sem.run_bind, eqGuard_plain (by simp) (by simp)]; simp [binOp, Op.stringOp, go_sem], .lit _⟩
    · exact ⟨_, by rw [Sem.run_bind, eqGuard_plain (by simp) (by simp)]; simp [binOp, Op.stringOp, go_sem], .lit _⟩
    · exact h.elim
  · split at h
    · obtain ⟨⟨vs, ws, rfl, rfl⟩, hg, bb, h1, h2⟩ := evEq_run (P := P) hv hw h
      refine ⟨.bool bb, ?_, by rw [h2]; exact .lit _⟩
      rw [Sem.run_bind, run_eqGuard_agg W .eql t x y vs ws hg]
      simp [binOp, h1]
    · obtain ⟨⟨vs, ws, rfl, rfl⟩, hg, bb, h1, h2⟩ := evEq_run (P := P) hv hw h
      refine ⟨.bool (!bb), ?_, by simp only [h2, notV]; exact .lit _⟩
      rw [Sem.run_bind, run_eqGuard_agg W .neq t x y vs ws hg]
      simp [binOp, h1]
    · exact h.elim
  · exact h.elim

def evUn (op : UnOp) (a : PV) : EV :=
  match op, a with
  | .not, .lit (.bool b) => ⟨True, .lit (.bool (!b))⟩
  | .neg, .lit (.int k n) => ⟨True, .lit (.int k (k.wrap (0 - n)))⟩
  | _, _ => .no
theorem evUn_run {op : UnOp} {a : PV} {v : Value} (hv : VRel G W a v) (h : (evUn op a).D) : ∃ u, (Op.unary op v).run P W = .ok u W ∧ VRel G W (evUn op a).V u := by
  unfold evUn at h ⊢
  split at h
  · cases hv; exact ⟨_, rfl, .lit _⟩
  · cases hv; exact ⟨_, rfl, .lit _⟩
  · exact h.elim

end
end Go.Lo

/-
  The program logic 'Lo', part C: addresses, loads, parts of values, builders; 'ev' as a whole. Nothing of the program.
-/
set_option linter.unusedSimpArgs false
set_option linter.unusedVariables false
namespace Go.Lo
open Go

section
variable {P : Program} {G : Gh} {W : World} {σ : Heap} {fr : Fr} {n : Nat} {A : Act}

/-! ### Reading cells -/
theorem add_cell (b off i : Nat) : (⟨b, off, none⟩ : Addr).add i = ⟨b, off + i, none⟩ := by
  unfold Addr.add
  by_cases h : i = 0 <;> simp [h]

theorem loadCells_run {b off : Nat} (cv : Nat → Value) : ∀ (m i : Nat) (acc : Array Value), (∀ j, j < m → W.cell? ⟨b, off + (i + j), none⟩ = some (cv (i + j))) →
    (loadCellsFrom ⟨b, off, none⟩ i m acc).run P W = .ok (acc ++ ((List.range m).map fun j => cv (i + j)).toArray) W := by
  intro m
  induction m with
  | zero => intro i acc _; simp [loadCellsFrom, go_sem]
  | succ m ih =>
    intro i acc h
    have h0 := h 0 (by omega)
    simp only [Nat.add_zero] at h0
    simp only [loadCellsFrom, Sem.run_bind, add_cell, load, Sem.run, h0, Result.andThen_ok]
    rw [ih (i + 1) (acc.push (cv i)) (fun j hj => by have := h (j + 1) (by omega); rw [show i + 1 + j = i + (j + 1) by omega]; exact this)]
    congr 1
    rw [List.range_succ_eq_map]
    simp [Function.comp_def, Nat.add_assoc, Nat.add_comm 1]

/-! ### Conversions -/
def isB : List PV → Bool
  | [.lit (.int .u8 _)] => true
  | _ => false
def valB : List PV → Int
  | [.lit (.int _ n)] => n
  | _ => 0
/-- The bytes of rows. -/
def strB (rows : List (List PV)) : ByteArray := (rows.map valB).foldl (fun r n => r.push (UInt8.ofNat n.toNat)) ByteArray.empty
def evConv (P : Program) (src dst : TypeId) (a : PV) : EV :=
  match a, P.underlying src, P.underlying dst with
  | .lit (.int _ n), some _, some (.int k) => ⟨True, .lit (.int k (k.wrap n))⟩
  | .lit (.string s), some .string, some .string => ⟨True, .lit (.string s)⟩
  | .slice _ rows, some (.slice e), some .string => ⟨P.underlying e = some (.int .u8) ∧ rows.all isB = true, .lit (.string (strB rows))⟩
  | .lit (.slice none 0 0), some (.slice e), some .string => ⟨P.underlying e = some (.int .u8), .lit (.string ByteArray.empty)⟩
  | _, _, _ => .no
theorem isB_inv {r : List PV} (h : isB r = true) : ∃ n, r = [.lit (.int .u8 n)] ∧ valB r = n := by
  unfold isB at h
  split at h
  · exact ⟨_, rfl, rfl⟩
  · cases h
theorem bytes_run {full : Bool} {rows : List (List PV)} {v : Value} (hv : VRel G W (.slice full rows) v) (hb : rows.all isB = true) : (Conv.bytesToString v).run P W = .ok (.string (strB rows)) W := by
  cases hv with
  | nilsl _ base cap _ =>
    cases base with
    | none => simp [Conv.bytesToString, strB, go_sem]
    | some a =>
      rw [run_bytesToString W a 0 cap [] (by simp [loadCells, loadCellsFrom, go_sem])]
      rfl
  | slice _ _ b off len cap k cv h1 h2 h3 h4 h5 h6 h7 =>
    subst h1
    rcases Nat.eq_zero_or_pos rows.length with h0 | h0
    · have : rows = [] := List.length_eq_zero_iff.1 h0
      subst this
      rw [List.length_nil, run_bytesToString W _ 0 cap [] (by simp [loadCells, loadCellsFrom, go_sem])]
      rfl
    · rw [List.all_eq_true] at hb
      have hk : k = 1 := by
        have := h5 0 h0
        obtain ⟨n, e, _⟩ := isB_inv (hb _ (List.getElem_mem h0))
        rw [List.getD_eq_getElem?_getD, List.getElem?_eq_getElem h0, Option.getD_some, e] at this
        simpa using this.symm
      subst hk
      have hcv : ∀ i (hi : i < rows.length), cv i = .int .u8 (valB rows[i]) := fun i hi => by
        have := h7 i 0 hi (by omega)
        obtain ⟨n, e, e2⟩ := isB_inv (hb _ (List.getElem_mem hi))
        rw [List.getD_eq_getElem?_getD (l := rows), List.getElem?_eq_getElem hi, Option.getD_some, e] at this
        simp only [Nat.mul_one, Nat.add_zero] at this
        rw [e2]
        exact lit_inv this
      have hl : (loadCells ⟨b, off, none⟩ rows.length).run P W = .ok ((rows.map valB).map (Value.int .u8)).toArray W := by
        unfold loadCells
        rw [loadCells_run cv rows.length 0 #[] (fun j hj => by simpa using (h6 j (by omega)).2)]
        congr 1
        simp only [Nat.zero_add, List.map_map]
        rw [show (#[] : Array Value) ++ (List.map (fun j => cv j) (List.range rows.length)).toArray = (List.map (fun j => cv j) (List.range rows.length)).toArray by simp]
        congr 1
        refine List.ext_getElem (by simp) fun i q1 q2 => ?_
        simp only [List.getElem_map, List.getElem_range, Function.comp]
        exact hcv i (by simpa using q2)
      exact run_bytesToString W _ _ cap _ hl
theorem evConv_run {src dst : TypeId} {a : PV} {v : Value} (hv : VRel G W a v) (h : (evConv P src dst a).D) : ∃ u, (convert src dst v).run P W = .ok u W ∧ VRel G W (evConv P src dst a).V u := by
  unfold evConv at h ⊢
  split at h
  · rename_i n s k hs hd
    cases hv
    refine ⟨_, ?_, .lit _⟩
    simp only [convert, Sem.run_bind, run_underlying hs, run_underlying hd, Result.andThen_ok, Conv.intToInt]
    cases s <;> rfl
  · rename_i s hs hd
    cases hv
    refine ⟨_, ?_, .lit _⟩
    simp only [convert, Sem.run_bind, run_underlying hs, run_underlying hd, Result.andThen_ok]
    rfl
  · rename_i full rows e hs hd
    have hr := bytes_run (P := P) hv h.2
    obtain ⟨base, l, c, rfl⟩ : ∃ base l c, v = .slice base l c := by cases hv <;> exact ⟨_, _, _, rfl⟩
    exact ⟨_, by rw [run_convert_bytes_string W src dst e base l c hs h.1 hd]; exact hr, .lit _⟩
  · rename_i e hs hd
    cases hv
    exact ⟨_, by rw [run_convert_bytes_string W src dst e none 0 0 hs h hd]; simp [Conv.bytesToString, go_sem], .lit _⟩
  · exact h.elim

theorem load_run {a : Addr} {v : Value} (h : W.cell? a = some v) : (Go.load a).run P W = .ok v W := by simp [Go.load, Sem.run, h]

theorem getD_toArray_map (f : Nat → Value) (m i : Nat) (hi : i < m) : (((List.range m).map f).toArray).getD i undef = f i := by
  simp [hi]

/-! ### Fields -/
def evFA (P : Program) (t : TypeId) (x : PV) (f : Nat) : EV :=
  match fldT P t f, x with
  | some (o, sz, _), .ref cs => ⟨sz ≠ 0, .ref (cs.drop o)⟩
  | some (o, sz, _), .ptr id off => ⟨sz ≠ 0, .ptr id (off + o)⟩
  | _, _ => .no

theorem fldT_some {t : TypeId} {f o sz : Nat} {ag : Bool} (h : fldT P t f = some (o, sz, ag)) : ∃ fs x, P.underlying t = some (.struct fs) ∧ fs[f]? = some x ∧ inf P x.type = some (sz, ag) ∧ x.offset = o := by
  unfold fldT at h
  split at h
  · rename_i fs ht
    split at h
    · rename_i x hx
      cases hi : inf P x.type with
      | none => simp [hi] at h
      | some i => simp [hi] at h; exact ⟨fs, x, ht, hx, by rw [hi, ← h.2.1, ← h.2.2], h.1⟩
    · cases h
  · cases h

theorem getD_drop (cs : List PV) (o j : Nat) : (cs.drop o).getD j .any = cs.getD (o + j) .any := by
  simp [List.getD]

theorem VRel.ref_drop {cs : List PV} {v : Value} (h : VRel G W (.ref cs) v) (o : Nat) : ∃ b off, v = .pointer (some ⟨b, off, none⟩) ∧ VRel G W (.ref (cs.drop o)) (.pointer (some ⟨b, off + o, none⟩)) := by
  cases h with
  | ref _ b off cv h1 h2 =>
    refine ⟨b, off, rfl, .ref _ b (off + o) (fun j => cv (o + j)) (fun j hj => ?_) (fun j hj => ?_)⟩
    · rw [List.length_drop] at hj
      have := h1 (o + j) (by omega)
      rw [Nat.add_assoc]; exact this
    · rw [List.length_drop] at hj
      rw [getD_drop]; exact h2 (o + j) (by omega)

theorem evFA_run {t : TypeId} {f : Nat} {x : PV} {v : Value} (hv : VRel G W x v) (h : (evFA P t x f).D) : ∃ u, (Instr.fieldAt t v f).run P W = .ok u W ∧ VRel G W (evFA P t x f).V u := by
  unfold evFA at h ⊢
  split at h
  · rename_i o sz ag cs hf
    obtain ⟨fs, y, h1, h2, h3, h4⟩ := fldT_some hf
    obtain ⟨b, off, rfl, hr⟩ := hv.ref_drop o
    have h : sz ≠ 0 := h
    refine ⟨_, ?_, hr⟩
    simp [Instr.fieldAt, Instr.sureAddr, Sem.run_bind, run_underlying h1, h2, fieldPlace, inf_size h3, h, h4, add_cell]
  · rename_i o sz ag id off hf
    obtain ⟨fs, y, h1, h2, h3, h4⟩ := fldT_some hf
    cases hv with
    | ptr _ _ R δ hb =>
    have h : sz ≠ 0 := h
    refine ⟨_, ?_, .ptr id (off + o) R δ hb⟩
    simp [Instr.fieldAt, Instr.sureAddr, Sem.run_bind, run_underlying h1, h2, fieldPlace, inf_size h3, h, h4, add_cell, Nat.add_assoc]
  · exact h.elim

def evF (P : Program) (t : TypeId) (x : PV) (f : Nat) : EV :=
  match fldT P t f, x with
  | some (o, sz, true), .agg cs => ⟨o + sz ≤ cs.length, .agg ((cs.drop o).take sz)⟩
  | some (o, _, false), .agg cs => ⟨o < cs.length, cs.getD o .any⟩
  | _, _ => .no

theorem VRel.agg_part {cs : List PV} {vs : Array Value} (h1 : vs.size = cs.length) (h2 : ∀ i, i < cs.length → VRel G W (cs.getD i .any) (vs.getD i undef)) {o sz : Nat} (h : o + sz ≤ cs.length) :
    VRel G W (.agg ((cs.drop o).take sz)) (.agg (vs.extract o (o + sz))) := by
  refine .agg _ _ ?_ ?_
  · simp; omega
  · intro i hi
    simp at hi
    have := h2 (o + i) (by omega)
    have e1 : ((cs.drop o).take sz).getD i .any = cs.getD (o + i) .any := by
      simp only [List.getD, List.getElem?_take, List.getElem?_drop]
      rw [if_pos (by omega)]
    have e2 : (vs.extract o (o + sz)).getD i undef = vs.getD (o + i) undef := by
      have hx : i < (vs.extract o (o + sz)).size := by simp; omega
      have hy : o + i < vs.size := by omega
      rw [Array.getD_eq_getD_getElem?, Array.getD_eq_getD_getElem?, Array.getElem?_eq_getElem hx, Array.getElem?_eq_getElem hy]
      simp
    rw [e1, e2]; exact this

theorem part_run {t : TypeId} {sz o : Nat} {ag : Bool} {cs : List PV} {vs : Array Value} (hi : inf P t = some (sz, ag)) (h1 : vs.size = cs.length) (h2 : ∀ i, i < cs.length → VRel G W (cs.getD i .any) (vs.getD i undef))
    (h : if ag then o + sz ≤ cs.length else o < cs.length) : ∃ u, (part t vs o).run P W = .ok u W ∧ VRel G W (if ag then .agg ((cs.drop o).take sz) else cs.getD o .any) u := by
  cases ag with
  | true =>
    simp only [if_true] at h ⊢
    exact ⟨_, by simp [part, Sem.run_bind, inf_agg hi, inf_size hi], VRel.agg_part h1 h2 h⟩
  | false =>
    simp only [Bool.false_eq_true, if_false] at h ⊢
    have hlt : o < vs.size := by omega
    refine ⟨_, by simp [part, Sem.run_bind, inf_agg hi, hlt, go_sem]; rfl, ?_⟩
    have := h2 o h
    simpa [hlt] using this

theorem evF_run {t : TypeId} {f : Nat} {x : PV} {v : Value} (hv : VRel G W x v) (h : (evF P t x f).D) : ∃ u, (Instr.field t v f).run P W = .ok u W ∧ VRel G W (evF P t x f).V u := by
  unfold evF at h ⊢
  split at h
  · rename_i o sz cs hf
    obtain ⟨fs, y, h1, h2, h3, h4⟩ := fldT_some hf
    cases hv with
    | agg _ vs g1 g2 =>
    obtain ⟨u, r1, r2⟩ := part_run (P := P) (o := o) h3 g1 g2 (by simpa using h)
    refine ⟨u, ?_, by simpa using r2⟩
    simp only [Instr.field, Sem.run_bind, run_underlying h1, Result.andThen_ok, h2, asAgg, Sem.run_pure, h4]
    exact r1
  · rename_i o sz cs hf
    obtain ⟨fs, y, h1, h2, h3, h4⟩ := fldT_some hf
    cases hv with
    | agg _ vs g1 g2 =>
    obtain ⟨u, r1, r2⟩ := part_run (P := P) (o := o) h3 g1 g2 (by simpa using h)
    refine ⟨u, ?_, by simpa using r2⟩
    simp only [Instr.field, Sem.run_bind, run_underlying h1, Result.andThen_ok, h2, asAgg, Sem.run_pure, h4]
    exact r1
  · exact h.elim

/-! ### Indexes -/
theorem ixi_slice {t : TypeId} {sz : Nat} {ag : Bool} (h : ixi P t = some (none, sz, ag)) : ∃ e, P.underlying t = some (.slice e) ∧ inf P e = some (sz, ag) := by
  unfold ixi at h
  split at h
  · rename_i e ht
    cases hi : inf P e with
    | none => simp [hi] at h
    | some i => simp [hi] at h; exact ⟨e, ht, by rw [hi, ← h.1, ← h.2]⟩
  · rename_i m e ht
    cases hi : inf P e with
    | none => simp [hi] at h
    | some i => simp [hi] at h
  · cases h
theorem ixi_array {t : TypeId} {m sz : Nat} {ag : Bool} (h : ixi P t = some (some m, sz, ag)) : ∃ e, P.underlying t = some (.array m e) ∧ inf P e = some (sz, ag) := by
  unfold ixi at h
  split at h
  · rename_i e ht
    cases hi : inf P e with
    | none => simp [hi] at h
    | some i => simp [hi] at h
  · rename_i m' e ht
    cases hi : inf P e with
    | none => simp [hi] at h
    | some i => simp [hi] at h; obtain ⟨rfl, h1, h2⟩ := h; exact ⟨e, ht, by rw [hi, ← h1, ← h2]⟩
  · cases h

def evIA (P : Program) (t : TypeId) (x i : PV) : EV :=
  match ixi P t, x, i with
  | some (none, sz, _), .slice _ rows, .lit (.int _ z) => ⟨0 ≤ z ∧ z < rows.length ∧ (rows.getD z.toNat []).length = sz, .ref (rows.getD z.toNat [])⟩
  | some (none, sz, _), .msl id k off len _, .lit (.int _ z) => ⟨0 ≤ z ∧ z < len ∧ k = sz, .ptr id (off + z.toNat * sz)⟩
  | some (some m, sz, _), .ptr id off, .lit (.int _ z) => ⟨0 ≤ z ∧ z < m, .ptr id (off + z.toNat * sz)⟩
  | some (some m, sz, _), .ref cs, .lit (.int _ z) => ⟨0 ≤ z ∧ z < m, .ref (cs.drop (z.toNat * sz))⟩
  | _, _, _ => .no

theorem VRel.row {full : Bool} {rows : List (List PV)} {v : Value} (h : VRel G W (.slice full rows) v) {i : Nat} (hi : i < rows.length) :
    ∃ b off cap, v = .slice (some ⟨b, off, none⟩) rows.length cap ∧ VRel G W (.ref (rows.getD i [])) (.pointer (some ⟨b, off + i * (rows.getD i []).length, none⟩)) := by
  cases h with
  | nilsl => exact absurd hi (Nat.not_lt_zero _)
  | slice _ _ b off len cap k cv h1 h2 h3 h4 h5 h6 h7 =>
    subst h1
    refine ⟨b, off, cap, rfl, ?_⟩
    rw [h5 i hi]
    refine .ref _ _ _ (fun j => cv (i * k + j)) (fun j hj => ?_) (fun j hj => ?_)
    · rw [h5 i hi] at hj
      have hlt : i * k + j < rows.length * k := by
        have : (i + 1) * k ≤ rows.length * k := Nat.mul_le_mul_right k hi
        rw [Nat.add_mul] at this; omega
      have := h6 _ hlt
      rw [Nat.add_assoc]; exact this
    · rw [h5 i hi] at hj
      exact h7 i j hi hj

theorem indexAt_slice {t e : TypeId} {sz : Nat} {ag : Bool} {b off len cap : Nat} {k : IntKind} {z : Int} (ht : P.underlying t = some (.slice e)) (hi : inf P e = some (sz, ag)) (h0 : 0 ≤ z) (h1 : z < len) :
    (Instr.indexAt t (.slice (some ⟨b, off, none⟩) len cap) (.int k z)).run P W = .ok (.pointer (some ⟨b, off + z.toNat * sz, none⟩)) W := by
  simp [Instr.indexAt, asIntOf, Sem.run_bind, run_underlying ht, h0, h1, inf_size hi, add_cell, go_sem]
theorem indexAt_array {t e : TypeId} {sz m : Nat} {ag : Bool} {b off : Nat} {k : IntKind} {z : Int} (ht : P.underlying t = some (.array m e)) (hi : inf P e = some (sz, ag)) (h0 : 0 ≤ z) (h1 : z < m) :
    (Instr.indexAt t (.pointer (some ⟨b, off, none⟩)) (.int k z)).run P W = .ok (.pointer (some ⟨b, off + z.toNat * sz, none⟩)) W := by
  simp [Instr.indexAt, asIntOf, Instr.sureAddr, Sem.run_bind, run_underlying ht, h0, h1, inf_size hi, add_cell, go_sem]

theorem evIA_run {t : TypeId} {x i : PV} {v w : Value} (hv : VRel G W x v) (hw : VRel G W i w) (h : (evIA P t x i).D) : ∃ u, (Instr.indexAt t v w).run P W = .ok u W ∧ VRel G W (evIA P t x i).V u := by
  unfold evIA at h ⊢
  split at h
  · rename_i sz ag full rows k z hx
    obtain ⟨e, ht, hi⟩ := ixi_slice hx
    cases hw
    obtain ⟨h0, h1, h2⟩ := h
    have hz : z.toNat < rows.length := by omega
    obtain ⟨b, off, cap, rfl, hr⟩ := hv.row hz
    rw [h2] at hr
    exact ⟨_, indexAt_slice ht hi h0 h1, hr⟩
  · rename_i sz ag id k' off len full k z hx
    obtain ⟨e, ht, hi⟩ := ixi_slice hx
    cases hw
    obtain ⟨h0, h1, h2⟩ := h
    cases hv with
    | msl _ _ _ _ cap R δ n b off' _ e' hb g1 g2 g3 g4 g5 g6 =>
    obtain ⟨rfl, rfl⟩ := g4 (by omega)
    refine ⟨_, indexAt_slice ht hi h0 h1, ?_⟩
    rw [Nat.add_assoc]; exact .ptr _ _ _ δ hb
  · rename_i m sz ag id off k z hx
    obtain ⟨e, ht, hi⟩ := ixi_array hx
    cases hw
    obtain ⟨h0, h1⟩ := h
    cases hv with
    | ptr _ _ R δ hb =>
    refine ⟨_, indexAt_array ht hi h0 h1, ?_⟩
    rw [Nat.add_assoc]; exact .ptr _ _ R δ hb
  · rename_i m sz ag cs k z hx
    obtain ⟨e, ht, hi⟩ := ixi_array hx
    cases hw
    obtain ⟨h0, h1⟩ := h
    obtain ⟨b, off, rfl, hr⟩ := hv.ref_drop (z.toNat * sz)
    exact ⟨_, indexAt_array ht hi h0 h1, hr⟩
  · exact h.elim

def evI (P : Program) (t : TypeId) (x i : PV) : EV :=
  match ixi P t, x, i with
  | some (some m, sz, true), .agg cs, .lit (.int _ z) => ⟨0 ≤ z ∧ z < m ∧ z.toNat * sz + sz ≤ cs.length, .agg ((cs.drop (z.toNat * sz)).take sz)⟩
  | some (some m, sz, false), .agg cs, .lit (.int _ z) => ⟨0 ≤ z ∧ z < m ∧ z.toNat * sz < cs.length, cs.getD (z.toNat * sz) .any⟩
  | _, .lit (.string s), .lit (.int _ z) => ⟨P.underlying t = some .string ∧ 0 ≤ z ∧ z < s.size, .lit (.int .u8 (s.data.getD z.toNat 0).toNat)⟩
  | _, _, _ => .no

theorem evI_run {t : TypeId} {x i : PV} {v w : Value} (hv : VRel G W x v) (hw : VRel G W i w) (h : (evI P t x i).D) : ∃ u, (Instr.index t v w).run P W = .ok u W ∧ VRel G W (evI P t x i).V u := by
  unfold evI at h ⊢
  split at h
  · rename_i m sz cs k z hx
    obtain ⟨e, ht, hi⟩ := ixi_array hx
    cases hw
    obtain ⟨h0, h1, h2⟩ := h
    cases hv with
    | agg _ vs g1 g2 =>
    obtain ⟨u, r1, r2⟩ := part_run (P := P) (o := z.toNat * sz) hi g1 g2 (by simpa using h2)
    refine ⟨u, ?_, by simpa using r2⟩
    simp only [Instr.index, asIntOf, Sem.run_bind, Sem.run_pure, Result.andThen_ok, run_underlying ht]
    rw [if_pos ⟨h0, h1⟩, Sem.run_bind, inf_size hi, Result.andThen_ok]
    exact r1
  · rename_i m sz cs k z hx
    obtain ⟨e, ht, hi⟩ := ixi_array hx
    cases hw
    obtain ⟨h0, h1, h2⟩ := h
    cases hv with
    | agg _ vs g1 g2 =>
    obtain ⟨u, r1, r2⟩ := part_run (P := P) (o := z.toNat * sz) hi g1 g2 (by simpa using h2)
    refine ⟨u, ?_, by simpa using r2⟩
    simp only [Instr.index, asIntOf, Sem.run_bind, Sem.run_pure, Result.andThen_ok, run_underlying ht]
    rw [if_pos ⟨h0, h1⟩, Sem.run_bind, inf_size hi, Result.andThen_ok]
    exact r1
  · rename_i s k z
    cases hw
    cases hv
    obtain ⟨ht, h0, h1⟩ := h
    refine ⟨_, ?_, .lit _⟩
    have hz : z.toNat < s.size := by omega
    have e1 : s[z.toNat]? = some (s.data.getD z.toNat 0) := by
      have hz' : z.toNat < s.data.size := hz
      show (if h : z.toNat < s.size then some s[z.toNat] else none) = _
      rw [dif_pos hz]
      simp [ByteArray.getElem_eq_getElem_data, Array.getElem?_eq_getElem hz']
    simp only [Instr.index, asIntOf, Sem.run_bind, Sem.run_pure, Result.andThen_ok, run_underlying ht, h0, if_true, e1]
  · exact h.elim

/-! ### Loads -/
def evL (P : Program) (σ : Heap) (t : TypeId) (x : PV) : EV :=
  match inf P t, x with
  | some (sz, true), .ref cs => ⟨sz ≤ cs.length, .agg (cs.take sz)⟩
  | some (_, false), .ref cs => ⟨0 < cs.length, cs.getD 0 .any⟩
  | some (sz, true), .ptr id off => match σ id with
    | some (.cells cs) => ⟨off + sz ≤ cs.length, .agg ((cs.drop off).take sz)⟩
    | _ => .no
  | some (_, false), .ptr id off => match σ id with
    | some (.cells cs) => ⟨off < cs.length, cs.getD off .any⟩
    | _ => .no
  | _, _ => .no

theorem loadVar_agg {t : TypeId} {sz b off : Nat} (hi : inf P t = some (sz, true)) (cv : Nat → Value) (h : ∀ j, j < sz → W.cell? ⟨b, off + j, none⟩ = some (cv j)) :
    (Instr.loadAt t (.pointer (some ⟨b, off, none⟩))).run P W = .ok (.agg ((List.range sz).map cv).toArray) W := by
  simp only [Instr.loadAt, Instr.sureAddr, loadVar, Sem.run_bind, Sem.run_pure, Result.andThen_ok, inf_agg hi, if_true, inf_size hi, loadCells]
  rw [loadCells_run cv sz 0 #[] (fun j hj => by simpa using h j hj)]
  simp
theorem loadVar_one {t : TypeId} {sz b off : Nat} {v : Value} (hi : inf P t = some (sz, false)) (h : W.cell? ⟨b, off, none⟩ = some v) :
    (Instr.loadAt t (.pointer (some ⟨b, off, none⟩))).run P W = .ok v W := by
  simp only [Instr.loadAt, Instr.sureAddr, loadVar, Sem.run_bind, Sem.run_pure, Result.andThen_ok, inf_agg hi, Bool.false_eq_true, if_false]
  exact load_run h

theorem VRel.agg_range {cs : List PV} {m : Nat} (cv : Nat → Value) (hl : cs.length = m) (h : ∀ j, j < m → VRel G W (cs.getD j .any) (cv j)) : VRel G W (.agg cs) (.agg ((List.range m).map cv).toArray) :=
  .agg _ _ (by simp [hl]) fun i hi => by rw [getD_toArray_map cv m i (by omega)]; exact h i (by omega)

theorem ORel.cell {cs : List PV} {loc : Nat × Nat} (h : ORel G W loc (.cells cs)) : ∃ cv : Nat → Value, ∀ j, j < cs.length → W.cell? ⟨loc.1, loc.2 + j, none⟩ = some (cv j) ∧ VRel G W (cs.getD j .any) (cv j) := by
  obtain ⟨arr, e, h1, h2, h3⟩ := h
  refine ⟨fun j => arr.getD (loc.2 + j) undef, fun j hj => ⟨?_, h3 j hj⟩⟩
  have : loc.2 + j < arr.size := by omega
  simp [World.cell?, h1, this]

theorem getD_take (cs : List PV) (m j : Nat) (h : j < m) : (cs.take m).getD j .any = cs.getD j .any := by
  simp [List.getD, h]

theorem evL_run (hr : HRel G W σ) {t : TypeId} {x : PV} {v : Value} (hv : VRel G W x v) (h : (evL P σ t x).D) : ∃ u, (Instr.loadAt t v).run P W = .ok u W ∧ VRel G W (evL P σ t x).V u := by
  unfold evL at h ⊢
  split at h
  · rename_i sz cs hi
    have h : sz ≤ cs.length := h
    cases hv with
    | ref _ b off cv g1 g2 =>
    exact ⟨_, loadVar_agg hi cv (fun j hj => (g1 j (by omega)).2), VRel.agg_range cv (by simp; omega) fun j hj => by rw [getD_take _ _ _ hj]; exact g2 j (by omega)⟩
  · rename_i sz cs hi
    have h : 0 < cs.length := h
    cases hv with
    | ref _ b off cv g1 g2 =>
    exact ⟨_, loadVar_one hi (g1 0 h).2, g2 0 h⟩
  · rename_i sz id off hi
    cases hv with
    | ptr _ _ R δ hb =>
    split at h
    · rename_i cs ho
      have h : off + sz ≤ cs.length := h
      obtain ⟨loc, hl, horel, _⟩ := hr.obj id _ ho
      rw [hb] at hl; cases hl
      obtain ⟨cv, hc⟩ := horel.cell
      refine ⟨_, loadVar_agg hi (fun j => cv (off + j)) (fun j hj => by rw [Nat.add_assoc]; exact (hc (off + j) (by omega)).1), VRel.agg_range _ (by simp; omega) fun j hj => ?_⟩
      rw [getD_take _ _ _ hj, getD_drop]; exact (hc (off + j) (by omega)).2
    · exact h.elim
  · rename_i sz id off hi
    cases hv with
    | ptr _ _ R δ hb =>
    split at h
    · rename_i cs ho
      have h : off < cs.length := h
      obtain ⟨loc, hl, horel, _⟩ := hr.obj id _ ho
      rw [hb] at hl; cases hl
      obtain ⟨cv, hc⟩ := horel.cell
      exact ⟨_, loadVar_one hi (hc off h).1, (hc off h).2⟩
    · exact h.elim
  · exact h.elim
end
end Go.Lo

/-
  The program logic 'Lo', part D: builders, slices, builtins; 'ev' as a whole. Nothing of the program.
-/
set_option linter.unusedSimpArgs false
set_option linter.unusedVariables false
namespace Go.Lo
open Go

def cellsP : PV → List PV
  | .agg cs => cs
  | v => [v]
def isCell : PV → Bool
  | .any => false
  | .lit (.agg _) => false
  | .lit (.tuple _) => false
  | .tup _ => false
  | .gd _ _ => false
  | _ => true

def RelL (G : Gh) (W : World) (cs : List PV) (vs : Array Value) : Prop := vs.size = cs.length ∧ ∀ i, i < cs.length → VRel G W (cs.getD i .any) (vs.getD i undef)

section
variable {P : Program} {G : Gh} {W : World} {σ : Heap} {fr : Fr} {n : Nat} {A : Act}

theorem cells_rel {p : PV} {v : Value} (h : VRel G W p v) (hc : isCell p = true) : RelL G W (cellsP p) v.cells := by
  have one : ∀ v : Value, v.cells = #[v] → VRel G W p v → cellsP p = [p] → RelL G W (cellsP p) v.cells := fun v h1 h2 h3 => by
    rw [h1, h3]
    refine ⟨rfl, fun i hi => ?_⟩
    simp at hi; subst hi; exact h2
  cases h with
  | any v => simp [isCell] at hc
  | lit v =>
    refine one v ?_ (.lit v) rfl
    cases v <;> first | rfl | (simp [isCell] at hc)
  | agg cs vs h1 h2 => exact ⟨h1, h2⟩
  | tup cs vs h1 h2 => simp [isCell] at hc
  | gd g q v h1 h2 => simp [isCell] at hc
  | nilsl full base cap h => exact one _ rfl (.nilsl full base cap h) rfl
  | slice full rows b off len cap k cv h1 h2 h3 h4 h5 h6 h7 => exact one _ rfl (.slice full rows b off len cap k cv h1 h2 h3 h4 h5 h6 h7) rfl
  | ref cs b off cv h1 h2 => exact one _ rfl (.ref cs b off cv h1 h2) rfl
  | ptr id o R δ h => exact one _ rfl (.ptr id o R δ h) rfl
  | msl id k o len cap R δ n b off full e h1 h2 h3 h4 h5 h6 h7 => exact one _ rfl (.msl id k o len cap R δ n b off full e h1 h2 h3 h4 h5 h6 h7) rfl
  | fn f a b c d h1 h2 h3 h4 => exact one _ rfl (.fn f a b c d h1 h2 h3 h4) rfl
  | yld id R h => exact one _ rfl (.yld id R h) rfl
  | map id R h => exact one _ rfl (.map id R h) rfl
  | iface t q v h => exact one _ rfl (.iface t q v h) rfl

/-! ### Filling a row of cells -/
def setR (cells : List PV) (off : Nat) (new : List PV) : List PV := cells.take off ++ new ++ cells.drop (off + new.length)
theorem setR_length {cells new : List PV} {off : Nat} (h : off + new.length ≤ cells.length) : (setR cells off new).length = cells.length := by
  simp [setR]; omega
theorem setR_getD {cells new : List PV} {off : Nat} (h : off + new.length ≤ cells.length) (i : Nat) :
    (setR cells off new).getD i .any = if off ≤ i ∧ i < off + new.length then new.getD (i - off) .any else cells.getD i .any := by
  unfold setR
  simp only [List.getD]
  rcases Nat.lt_or_ge i off with h1 | h1
  · rw [List.append_assoc, List.getElem?_append_left (by simp; omega), List.getElem?_take, if_pos h1, if_neg (by omega)]
  · rcases Nat.lt_or_ge i (off + new.length) with h2 | h2
    · rw [List.getElem?_append_left (by simp; omega), List.getElem?_append_right (by simp; omega), if_pos ⟨h1, h2⟩]
      simp only [List.length_take]
      rw [show min off cells.length = off by omega]
    · rw [List.getElem?_append_right (by simp; omega), if_neg (by omega), List.getElem?_drop]
      simp only [List.length_append, List.length_take]
      rw [show off + new.length + (i - (min off cells.length + new.length)) = i by omega]

theorem foldSet (off : Nat) : ∀ (vs : List Value) (j : Nat) (cs : Array Value), ((vs.zipIdx j).foldl (fun cs (x : Value × Nat) => cs.setIfInBounds (off + x.2) x.1) cs).size = cs.size ∧
    ∀ i, off + j + vs.length ≤ cs.size → ((vs.zipIdx j).foldl (fun cs (x : Value × Nat) => cs.setIfInBounds (off + x.2) x.1) cs).getD i undef =
      if off + j ≤ i ∧ i < off + j + vs.length then vs.getD (i - (off + j)) undef else cs.getD i undef := by
  intro vs
  induction vs with
  | nil => intro j cs; refine ⟨rfl, fun i _ => ?_⟩; rw [if_neg (by simp)]; rfl
  | cons v vs ih =>
    intro j cs
    simp only [List.zipIdx_cons, List.foldl_cons, List.length_cons]
    obtain ⟨h1, h2⟩ := ih (j + 1) (cs.setIfInBounds (off + j) v)
    refine ⟨by rw [h1]; simp, fun i hi => ?_⟩
    rw [h2 i (by simp; omega)]
    by_cases ha : i = off + j
    · subst ha
      have hlt : off + j < cs.size := by omega
      rw [if_neg (by omega), if_pos (by omega)]
      simp [hlt]
    · by_cases hb : off + j ≤ i ∧ i < off + j + (vs.length + 1)
      · rw [if_pos (by omega), if_pos hb, show i - (off + j) = (i - (off + (j + 1))) + 1 by omega]
        simp
      · rw [if_neg (by omega), if_neg hb]
        rw [Array.getD_eq_getD_getElem?, Array.getD_eq_getD_getElem?, Array.getElem?_setIfInBounds_ne (by omega)]

theorem set_rel {cs new : List PV} {vs : Array Value} {ws : Array Value} {off : Nat} (h : RelL G W cs vs) (hn : RelL G W new ws) (hl : off + new.length ≤ cs.length) :
    RelL G W (setR cs off new) (ws.zipIdx.foldl (fun cs (c, j) => cs.setIfInBounds (off + j) c) vs) := by
  obtain ⟨h1, h2⟩ := h
  obtain ⟨h3, h4⟩ := hn
  have hws : ws.toList.length = new.length := by simpa using h3
  have e : ws.zipIdx.foldl (fun cs (c, j) => cs.setIfInBounds (off + j) c) vs = (ws.toList.zipIdx 0).foldl (fun cs (x : Value × Nat) => cs.setIfInBounds (off + x.2) x.1) vs := by
    rw [← Array.foldl_toList, Array.toList_zipIdx]
  obtain ⟨f1, f2⟩ := foldSet off ws.toList 0 vs
  rw [e]
  refine ⟨by rw [f1, setR_length hl, h1], fun i hi => ?_⟩
  rw [setR_length hl] at hi
  rw [f2 i (by omega), setR_getD hl]
  simp only [Nat.add_zero, hws]
  split
  · rename_i hx
    have := h4 (i - off) (by omega)
    have hlt : i - off < ws.size := by omega
    rw [List.getD, Array.getElem?_toList]
    simpa [Array.getD_eq_getD_getElem?] using this
  · exact h2 i hi

def fillP (place : Nat → Option (Nat × Nat)) (cells : List PV) : List (Nat × PV) → Option (List PV)
  | [] => some cells
  | (i, v) :: rest =>
    match place i with
    | none => none
    | some (off, size) => if isCell v && (cellsP v).length == size && decide (off + size ≤ cells.length) then fillP place (setR cells off (cellsP v)) rest else none

theorem fill_rel {place : Nat → Option (Nat × Nat)} : ∀ (ps : List (Nat × PV)) (qs : List (Nat × Value)) (cs r : List PV) (vs : Array Value), RelL G W cs vs →
    qs.length = ps.length → (∀ i, i < ps.length → (qs.getD i (0, undef)).1 = (ps.getD i (0, .any)).1 ∧ VRel G W (ps.getD i (0, .any)).2 (qs.getD i (0, undef)).2) → fillP place cs ps = some r →
    ∃ ws, Instr.fill place vs qs = some ws ∧ RelL G W r ws := by
  intro ps
  induction ps with
  | nil =>
    intro qs cs r vs h hl _ hf
    have : qs = [] := List.eq_nil_of_length_eq_zero (by simpa using hl)
    subst this
    simp [fillP] at hf; subst hf
    exact ⟨vs, rfl, h⟩
  | cons p ps ih =>
    intro qs cs r vs h hl hx hf
    obtain ⟨i, v⟩ := p
    match qs, hl with
    | q :: qs, hl =>
    obtain ⟨j, w⟩ := q
    have h0 := hx 0 (by simp)
    simp at h0
    obtain ⟨e, hv⟩ := h0
    subst e
    simp only [fillP] at hf
    cases hp : place j with
    | none => simp [hp] at hf
    | some os =>
      obtain ⟨off, size⟩ := os
      simp only [hp] at hf
      split at hf
      · rename_i hc
        simp only [Bool.and_eq_true, beq_iff_eq, decide_eq_true_eq] at hc
        obtain ⟨⟨c1, c2⟩, c3⟩ := hc
        have hcr := cells_rel hv c1
        have hs := set_rel (off := off) h hcr (by omega)
        obtain ⟨ws, g1, g2⟩ := ih qs _ r _ hs (by simpa using hl) (fun i hi => by have := hx (i + 1) (by simpa using hi); simpa using this) hf
        refine ⟨ws, ?_, g2⟩
        simp only [Instr.fill, hp]
        rw [if_neg]
        · exact g1
        · simp only [hcr.1, h.1, Bool.or_eq_true, decide_eq_true_eq]
          omega
      · cases hf

/-- A type's zero value, as cells. -/
def zeroP (P : Program) (t : TypeId) : Option (List PV) := ((P.info? t).bind (·.zero)).map fun v => v.cells.toList.map .lit
theorem lits_rel (vs : Array Value) : RelL G W (vs.toList.map .lit) vs := by
  refine ⟨by simp, fun i hi => ?_⟩
  have hlt : i < vs.size := by simpa using hi
  have e1 : (vs.toList.map PV.lit).getD i .any = .lit (vs.getD i undef) := by
    simp [List.getD, hlt]
  rw [e1]; exact .lit _
theorem zeroP_run {t : TypeId} {zs : List PV} (h : zeroP P t = some zs) : ∃ v, (zeroValue t).run P W = .ok v W ∧ RelL G W zs v.cells ∧ zs = v.cells.toList.map .lit := by
  unfold zeroP at h
  cases hi : P.info? t with
  | none => simp [hi] at h
  | some i =>
    cases hz : i.zero with
    | none => simp [hi, hz] at h
    | some v =>
      simp [hi, hz] at h
      refine ⟨v, ?_, by rw [← h]; exact lits_rel _, h.symm⟩
      simp [zeroValue, typeInfo, Sem.run_bind, hi, hz, program, Sem.run]

/-- Where a struct's fields lie. -/
def places (P : Program) (t : TypeId) : Option (List (Nat × Nat)) :=
  match P.underlying t with
  | some (.struct fs) => fs.toList.mapM fun f => (inf P f.type).map fun i => (f.offset, i.1)
  | _ => none

theorem places_run {fs : List Field} {l : List (Nat × Nat)} (h : (fs.mapM fun f => (inf P f.type).map fun i => (f.offset, i.1)) = some l) :
    ((fs.mapM fun f => do pure (f.offset, ← sizeOf f.type) : Sem (List (Nat × Nat)))).run P W = .ok l W := by
  induction fs generalizing l with
  | nil => simp at h; subst h; simp [go_sem]
  | cons f fs ih =>
    rw [List.mapM_cons] at h
    obtain ⟨x, hx, h⟩ := Option.bind_eq_some_iff.1 h
    obtain ⟨l', hl', h⟩ := Option.bind_eq_some_iff.1 h
    simp at h; subst h
    cases hi : inf P f.type with
    | none => simp [hi] at hx
    | some i =>
      simp [hi] at hx; subst hx
      have := ih hl'
      rw [List.mapM_cons]
      simp only [Sem.run_bind, inf_size (k := i.1) (a := i.2) hi, Result.andThen_ok, Sem.run_pure, this]

/-! ### Slices of slices -/
def bnd (x : Option PV) (d : Int) : Option Int :=
  match x with
  | none => some d
  | some (.lit (.int _ z)) => some z
  | _ => none

def evSl (P : Program) (σ : Heap) (t : TypeId) (x : PV) (lo hi mx : Option PV) : EV :=
  match x, ixi P t with
  | .slice full rows, some (none, sz, _) => match bnd lo 0, bnd hi rows.length, bnd mx rows.length with
    | some l, some h, some m => ⟨0 ≤ l ∧ l ≤ h ∧ h ≤ m ∧ m ≤ rows.length ∧ (mx.isSome = true → hi.isSome = true) ∧ ∀ r ∈ rows, r.length = sz,
        .slice (if mx.isSome then decide (m = h) else full && decide (h = rows.length)) ((rows.drop l.toNat).take (h - l).toNat)⟩
    | _, _, _ => .no
  | .lit (.slice none 0 0), some (none, _, _) => match bnd lo 0, bnd hi 0, bnd mx 0 with
    | some l, some h, some m => ⟨l = 0 ∧ h = 0 ∧ m = 0 ∧ (mx.isSome = true → hi.isSome = true), .lit (.slice none 0 0)⟩
    | _, _, _ => .no
  | .msl id k off len full, some (none, sz, _) => match bnd lo 0, bnd hi len, bnd mx len with
    | some l, some h, some m => ⟨0 ≤ l ∧ l ≤ h ∧ h ≤ m ∧ m ≤ len ∧ k = sz ∧ (mx.isSome = true → hi.isSome = true),
        .msl id k (off + l.toNat * k) (h - l).toNat (if mx.isSome then decide (m = h) else full && decide (h = len))⟩
    | _, _, _ => .no
  | .ptr id off, some (some n, sz, _) => match σ id with
    | some (.cells cs) => match bnd lo 0, bnd hi n, bnd mx n with
      | some l, some h, some m => ⟨0 ≤ l ∧ l ≤ h ∧ h ≤ m ∧ m ≤ n ∧ off + n * sz ≤ cs.length ∧ n ≤ maxLen ∧ (mx.isSome = true → hi.isSome = true), .msl id sz (off + l.toNat * sz) (h - l).toNat (decide (m = h))⟩
      | _, _, _ => .no
    | _ => .no
  | .ref cs, some (some n, sz, _) => match bnd lo 0, bnd hi n, bnd mx n with
    | some l, some h, some m => ⟨0 ≤ l ∧ l ≤ h ∧ h ≤ m ∧ m ≤ n ∧ n ≤ cs.length ∧ sz = 1 ∧ n ≤ maxLen ∧ (mx.isSome = true → hi.isSome = true), .slice (decide (m = h)) (((cs.drop l.toNat).take (h - l).toNat).map fun c => [c])⟩
    | _, _, _ => .no
  | _, _ => .no

/-- The bounds as the model has them. -/
def BRel (G : Gh) (W : World) : Option PV → Option Value → Prop
  | none, none => True
  | some p, some v => VRel G W p v
  | _, _ => False
theorem BRel.cases {x : Option PV} {y : Option Value} {d z : Int} (h : BRel G W x y) (hb : bnd x d = some z) : (x = none ∧ y = none ∧ z = d) ∨ ∃ k, y = some (.int k z) ∧ x.isSome = true := by
  match x, y, h with
  | none, none, _ => simp [bnd] at hb; exact .inl ⟨rfl, rfl, hb.symm⟩
  | some p, some v, h =>
    right
    unfold bnd at hb
    split at hb
    · simp_all
    · rename_i k z' hx
      simp at hx hb
      subst hx; subst hb
      cases h
      exact ⟨_, rfl, rfl⟩
    · cases hb

theorem sliceBound_run {k : IntKind} {z : Int} {y : Nat} {code : BoundsCode} (h0 : 0 ≤ z) (h1 : z ≤ y) : (Instr.sliceBound (.int k z) y code).run P W = .ok z.toNat W := run_sliceBound W k z y code h0 h1

theorem sliceBounds_run {b : Bool} {len cap : Nat} {lo hi mx : Option PV} {vlo vhi vmx : Option Value} {l h m : Int} (r1 : BRel G W lo vlo) (r2 : BRel G W hi vhi) (r3 : BRel G W mx vmx)
    (b1 : bnd lo 0 = some l) (b2 : bnd hi len = some h) (b3 : bnd mx cap = some m) (g0 : 0 ≤ l) (g1 : l ≤ h) (g2 : h ≤ m) (g3 : m ≤ cap) (g4 : mx.isSome = true → hi.isSome = true) :
    (Instr.sliceBounds b len cap vlo vhi vmx).run P W = .ok (l.toNat, h.toNat, m.toNat) W := by
  have em : (m.toNat : Int) = m := Int.toNat_of_nonneg (by omega)
  have eh : (h.toNat : Int) = h := Int.toNat_of_nonneg (by omega)
  unfold Instr.sliceBounds
  rcases r3.cases b3 with ⟨rfl, rfl, rfl⟩ | ⟨k3, rfl, i3⟩
  · rcases r2.cases b2 with ⟨rfl, rfl, rfl⟩ | ⟨k2, rfl, i2⟩
    · rcases r1.cases b1 with ⟨rfl, rfl, rfl⟩ | ⟨k1, rfl, i1⟩
      · simp
      · simp only [Sem.run_bind, Sem.run_pure, Result.andThen_ok]
        rw [sliceBound_run g0 g1]; simp
    · rcases r1.cases b1 with ⟨rfl, rfl, rfl⟩ | ⟨k1, rfl, i1⟩
      · simp only [Sem.run_bind, Sem.run_pure, Result.andThen_ok]
        rw [sliceBound_run (by omega) (by omega)]; simp
      · simp only [Sem.run_bind, Sem.run_pure, Result.andThen_ok]
        rw [sliceBound_run (by omega) (by omega)]
        simp only [Result.andThen_ok]
        rw [sliceBound_run g0 (by omega)]; simp
  · rcases r2.cases b2 with ⟨rfl, rfl, rfl⟩ | ⟨k2, rfl, i2⟩
    · simp [i3] at g4
    · rcases r1.cases b1 with ⟨rfl, rfl, rfl⟩ | ⟨k1, rfl, i1⟩
      · simp only [Sem.run_bind]
        rw [sliceBound_run (by omega) (by omega)]
        simp only [Result.andThen_ok]
        rw [sliceBound_run (by omega) (by omega)]; simp
      · simp only [Sem.run_bind]
        rw [sliceBound_run (by omega) (by omega)]
        simp only [Result.andThen_ok]
        rw [sliceBound_run (by omega) (by omega)]
        simp only [Result.andThen_ok]
        rw [sliceBound_run g0 (by omega)]; simp

theorem VRel.rows_cut {full : Bool} {rows : List (List PV)} {b off len cap k : Nat} {cv : Nat → Value} (h1 : rows.length = len) (h3 : len ≤ maxLen)
    (h5 : ∀ i, i < len → (rows.getD i []).length = k) (h6 : ∀ j, j < len * k → G.S b (off + j) ∧ W.cell? ⟨b, off + j, none⟩ = some (cv j))
    (h7 : ∀ i j, i < len → j < k → VRel G W ((rows.getD i []).getD j .any) (cv (i * k + j))) {l m : Nat} (hm : l + m ≤ len) (hc : m ≤ cap) (hf : full = true → cap = m) :
    VRel G W (.slice full ((rows.drop l).take m)) (.slice (some ⟨b, off + l * k, none⟩) m cap) := by
  have e : ∀ i, i < m → ((rows.drop l).take m).getD i [] = rows.getD (l + i) [] := fun i hi => by simp [List.getD, hi]
  refine .slice full _ b (off + l * k) m cap k (fun j => cv (l * k + j)) (by simp; omega) hc (by omega) hf (fun i hi => by rw [e i hi]; exact h5 _ (by omega)) (fun j hj => ?_) (fun i j hi hj => ?_)
  · rw [Nat.add_assoc]
    refine h6 _ ?_
    calc l * k + j < l * k + m * k := by omega
      _ = (l + m) * k := by rw [Nat.add_mul]
      _ ≤ len * k := Nat.mul_le_mul_right k hm
  · rw [e i hi]
    have := h7 (l + i) j (by omega) hj
    rwa [Nat.add_mul, Nat.add_assoc] at this

theorem VRel.rows_nil (full : Bool) (b off cap : Nat) (hf : full = true → cap = 0) : VRel G W (.slice full []) (.slice (some ⟨b, off, none⟩) 0 cap) :=
  .slice full [] b off 0 cap 0 (fun _ => undef) rfl (Nat.zero_le _) (Nat.zero_le _) hf (by simp) (by simp) (by simp)

theorem bnd_some {p : PV} {d d' : Int} : bnd (some p) d = bnd (some p) d' := by
  unfold bnd; split <;> simp_all

/-- The third bound as the model has it: the capacity where none is given. -/
theorem third {mx : Option PV} {vmx : Option Value} {len cap : Nat} {h m : Int} (r3 : BRel G W mx vmx) (b3 : bnd mx len = some m) (g2 : h ≤ m) (g3 : m ≤ len) (hc : len ≤ cap) :
    ∃ m' : Int, bnd mx cap = some m' ∧ h ≤ m' ∧ m' ≤ cap ∧ ((mx.isSome = true ∧ m' = m) ∨ (mx.isSome = false ∧ m' = cap)) := by
  rcases r3.cases b3 with ⟨rfl, rfl, rfl⟩ | ⟨k3, rfl, i3⟩
  · exact ⟨cap, rfl, by omega, by omega, .inr ⟨rfl, rfl⟩⟩
  · match mx, i3 with
    | some p, _ => exact ⟨m, bnd_some.trans b3, g2, by omega, .inl ⟨rfl, rfl⟩⟩

theorem evSl_run (hr : HRel G W σ) {t : TypeId} {x : PV} {lo hi mx : Option PV} {v : Value} {vlo vhi vmx : Option Value} (hv : VRel G W x v) (r1 : BRel G W lo vlo) (r2 : BRel G W hi vhi) (r3 : BRel G W mx vmx)
    (h : (evSl P σ t x lo hi mx).D) : ∃ u, (Instr.sliceAt t v vlo vhi vmx).run P W = .ok u W ∧ VRel G W (evSl P σ t x lo hi mx).V u := by
  unfold evSl at h ⊢
  split at h
  · rename_i full rows sz ag hx
    obtain ⟨e, ht, hi'⟩ := ixi_slice hx
    cases hv with
    | nilsl _ base cap hcap =>
      split at h
      · rename_i l hh m b1 b2 b3
        obtain ⟨g0, g1, g2, g3, g4, g5⟩ := h
        have q3 : m ≤ 0 := g3
        have e1 : l = 0 := by omega
        have e2 : hh = 0 := by omega
        have e3 : m = 0 := by omega
        subst e1; subst e2; subst e3
        obtain ⟨m', b3', hm1, hm2, hm3⟩ := third (len := 0) (cap := cap) r3 b3 (by omega) (by omega) (Nat.zero_le _)
        have hb := sliceBounds_run (P := P) (b := true) (len := 0) (cap := cap) r1 r2 r3 b1 b2 b3' (by omega) (by omega) hm1 hm2 g4
        refine ⟨_, by simp only [Instr.sliceAt, Instr.slice, Sem.run_bind, run_underlying ht, Result.andThen_ok, hb, inf_size hi', Sem.run_pure]; rfl, ?_⟩
        have hfl : (if mx.isSome = true then decide ((0 : Int) = 0) else full && decide ((0 : Int) = (([] : List (List PV)).length : Int))) = true → m'.toNat = 0 := by
          intro hf
          rcases hm3 with ⟨q1, q2⟩ | ⟨q1, q2⟩
          · omega
          · rw [if_neg (by simp [q1])] at hf
            simp at hf
            have := hcap hf
            omega
        exact .nilsl _ _ _ (by simpa using hfl)
      · exact h.elim
    | slice _ _ b off len cap k cv h1 h2 h3 h4 h5 h6 h7 =>
    split at h
    · rename_i l hh m b1 b2 b3
      obtain ⟨g0, g1, g2, g3, g4, g5⟩ := h
      subst h1
      obtain ⟨m', b3', hm1, hm2, hm3⟩ := third r3 b3 g2 g3 h2
      have hb := sliceBounds_run (P := P) (b := true) (len := rows.length) (cap := cap) r1 r2 r3 b1 b2 b3' g0 g1 hm1 hm2 g4
      refine ⟨_, by simp only [Instr.sliceAt, Instr.slice, Sem.run_bind, run_underlying ht, Result.andThen_ok, hb, inf_size hi', Sem.run_pure]; rfl, ?_⟩
      have hfl : (if mx.isSome = true then decide (m = hh) else full && decide (hh = (rows.length : Int))) = true → m'.toNat - l.toNat = hh.toNat - l.toNat := by
        intro hf
        rcases hm3 with ⟨q1, q2⟩ | ⟨q1, q2⟩
        · rw [if_pos q1] at hf; simp at hf; omega
        · rw [if_neg (by simp [q1])] at hf
          simp at hf
          have := h4 hf.1
          omega
      by_cases hml : m'.toNat = l.toNat
      · rw [if_pos hml, show hh.toNat - l.toNat = 0 by omega, show (hh - l).toNat = 0 by omega, List.take_zero]
        exact VRel.rows_nil _ _ _ _ fun hf => by have := hfl hf; omega
      · rw [if_neg hml]
        simp only [Option.map_some, add_cell]
        rw [show (hh - l).toNat = hh.toNat - l.toNat by omega]
        rcases Nat.eq_zero_or_pos (hh.toNat - l.toNat) with hz | hz
        · rw [hz, List.take_zero]
          exact VRel.rows_nil _ _ _ _ fun hf => by have := hfl hf; omega
        · have hk : sz = k := by
            have h0 : 0 < rows.length := by omega
            have e1 := h5 0 h0
            have e2 := g5 (rows[0]) (List.getElem_mem h0)
            simp [List.getD, h0] at e1
            omega
          subst hk
          exact VRel.rows_cut rfl h3 h5 h6 h7 (by omega) (by omega) hfl
    · exact h.elim
  · rename_i sz ag hx
    obtain ⟨e, ht, hi'⟩ := ixi_slice hx
    cases hv
    split at h
    · rename_i l hh m b1 b2 b3
      obtain ⟨rfl, rfl, rfl, g4⟩ := h
      have hb := sliceBounds_run (P := P) (b := true) (len := 0) (cap := 0) r1 r2 r3 b1 b2 b3 (by omega) (by omega) (by omega) (by omega) g4
      refine ⟨_, by simp only [Instr.sliceAt, Instr.slice, Sem.run_bind, run_underlying ht, Result.andThen_ok, hb, inf_size hi', Sem.run_pure]; rfl, ?_⟩
      exact .lit _
    · exact h.elim
  · rename_i id k off len full sz ag hx
    obtain ⟨e, ht, hi'⟩ := ixi_slice hx
    cases hv with
    | msl _ _ _ _ cap R δ n b off' _ e' h1 h2 h3 h4 h5 h6 h7 =>
    split at h
    · rename_i l hh m b1 b2 b3
      obtain ⟨g0, g1, g2, g3, rfl, g4⟩ := h
      obtain ⟨m', b3', hm1, hm2, hm3⟩ := third r3 b3 g2 g3 h2
      have hb := sliceBounds_run (P := P) (b := true) (len := len) (cap := cap) r1 r2 r3 b1 b2 b3' g0 g1 hm1 hm2 g4
      refine ⟨_, by simp only [Instr.sliceAt, Instr.slice, Sem.run_bind, run_underlying ht, Result.andThen_ok, hb, inf_size hi', Sem.run_pure]; rfl, ?_⟩
      have hfl : (if mx.isSome = true then decide (m = hh) else full && decide (hh = (len : Int))) = true → m'.toNat - l.toNat = hh.toNat - l.toNat := by
        intro hf
        rcases hm3 with ⟨q1, q2⟩ | ⟨q1, q2⟩
        · rw [if_pos q1] at hf; simp at hf; omega
        · rw [if_neg (by simp [q1])] at hf
          simp at hf
          have := h4 hf.1
          omega
      rw [show (hh - l).toNat = hh.toNat - l.toNat by omega]
      by_cases hml : m'.toNat = l.toNat
      · rw [if_pos hml]
        exact .msl id k _ _ _ R δ n b off' _ e' h1 (by omega) (by omega) hfl (by omega) h6 (by omega)
      · rw [if_neg hml]
        simp only [Option.map_some, add_cell]
        obtain ⟨rfl, rfl⟩ := h5 (by omega)
        refine .msl id k _ _ _ _ δ n _ _ _ e' h1 (by omega) (by omega) hfl (fun _ => ⟨rfl, by omega⟩) h6 (fun _ => ?_)
        have := h7 (by omega)
        have hx : δ + (off + l.toNat * k) + (m'.toNat - l.toNat) * k = δ + off + m'.toNat * k := by
          rw [Nat.sub_mul]
          have : l.toNat * k ≤ m'.toNat * k := Nat.mul_le_mul_right k (by omega)
          omega
        have hy : m'.toNat * k ≤ cap * k := Nat.mul_le_mul_right k (by omega)
        omega
    · exact h.elim
  · rename_i id off n sz ag hx
    obtain ⟨e, ht, hi'⟩ := ixi_array hx
    cases hv with
    | ptr _ _ R δ h1 =>
    split at h
    · rename_i cs ho
      split at h
      · rename_i l hh m b1 b2 b3
        obtain ⟨g0, g1, g2, g3, g4, g6, g5⟩ := h
        have hb := sliceBounds_run (P := P) (b := false) (len := n) (cap := n) r1 r2 r3 b1 b2 b3 g0 g1 g2 (by omega) g5
        refine ⟨_, by simp only [Instr.sliceAt, Instr.sureAddr, Sem.run_bind, run_underlying ht, Result.andThen_ok, hb, inf_size hi', Sem.run_pure]; rfl, ?_⟩
        obtain ⟨loc, hl, horel, _⟩ := hr.obj id _ ho
        rw [h1] at hl; cases hl
        obtain ⟨arr, e'', q1, q2, _⟩ := horel
        have hsh : W.shape? R = some (e'', arr.size) := by unfold World.shape?; simp only at q1; rw [q1]
        rw [show (hh - l).toNat = hh.toNat - l.toNat by omega]
        by_cases hml : m.toNat = l.toNat
        · rw [if_pos hml]
          exact .msl id sz _ _ _ R δ _ _ _ _ e'' h1 (by omega) (by omega) (fun hf => by simp at hf; omega) (by omega) hsh (by omega)
        · rw [if_neg hml]
          simp only [add_cell]
          refine .msl id sz _ _ _ R δ _ _ _ _ e'' h1 (by omega) (by omega) (fun hf => by simp at hf; omega) (fun _ => ⟨rfl, by omega⟩) hsh (fun _ => ?_)
          have hx : δ + (off + l.toNat * sz) + (m.toNat - l.toNat) * sz = δ + off + m.toNat * sz := by
            rw [Nat.sub_mul]
            have : l.toNat * sz ≤ m.toNat * sz := Nat.mul_le_mul_right sz (by omega)
            omega
          have hy : m.toNat * sz ≤ n * sz := Nat.mul_le_mul_right sz (by omega)
          simp only at q2
          omega
      · exact h.elim
    · exact h.elim
  · rename_i cs n sz ag hx
    obtain ⟨e, ht, hi'⟩ := ixi_array hx
    cases hv with
    | ref _ b off cv h1 h2 =>
    split at h
    · rename_i l hh m b1 b2 b3
      obtain ⟨g0, g1, g2, g3, g4, rfl, g6, g5⟩ := h
      have hb := sliceBounds_run (P := P) (b := false) (len := n) (cap := n) r1 r2 r3 b1 b2 b3 g0 g1 g2 (by omega) g5
      refine ⟨_, by simp only [Instr.sliceAt, Instr.sureAddr, Sem.run_bind, run_underlying ht, Result.andThen_ok, hb, inf_size hi', Sem.run_pure]; rfl, ?_⟩
      rw [show (hh - l).toNat = hh.toNat - l.toNat by omega]
      by_cases hz : hh.toNat - l.toNat = 0
      · rw [hz, List.take_zero]
        by_cases hml : m.toNat = l.toNat
        · rw [if_pos hml]; exact VRel.rows_nil _ _ _ _ fun hf => by simp at hf; omega
        · rw [if_neg hml]; simp only [add_cell]; exact VRel.rows_nil _ _ _ _ fun hf => by simp at hf; omega
      · rw [if_neg (by omega)]
        simp only [add_cell, Nat.mul_one]
        have e1 : ∀ i, i < hh.toNat - l.toNat → (((cs.drop l.toNat).take (hh.toNat - l.toNat)).map fun c => [c]).getD i [] = [cs.getD (l.toNat + i) .any] := fun i hi => by
          have : l.toNat + i < cs.length := by omega
          simp [List.getD, hi, this]
        refine .slice _ _ b (off + l.toNat) _ _ 1 (fun j => cv (l.toNat + j)) (by simp; omega) (by omega) (by omega) (fun hf => by simp at hf; omega) (fun i hi => by rw [e1 i hi]; rfl) (fun j hj => ?_) (fun i j hi hj => ?_)
        · rw [Nat.add_assoc]; exact h1 _ (by omega)
        · rw [e1 i hi]
          have : j = 0 := by omega
          subst this
          simpa using h2 (l.toNat + i) (by omega)
    · exact h.elim
  · exact h.elim
end
end Go.Lo

/-
  The program logic 'Lo', part E: builtins, builders, 'ev' as a whole. Nothing of the program.
-/
set_option linter.unusedSimpArgs false
set_option linter.unusedVariables false
namespace Go.Lo
open Go

section
variable {P : Program} {G : Gh} {W : World} {σ : Heap} {fr : Fr} {n : Nat} {A : Act}

/-! ### A new block whose cells stay as they are -/
def Gh.plus (G : Gh) (b m : Nat) : Gh := { G with S := fun b' o => G.S b' o ∨ (b' = b ∧ o < m) }
theorem heap_alloc_new (W : World) (o : Obj) : (W.alloc o).heap[W.heap.size]? = some o := World.alloc_heap_new W o
theorem heap_alloc_old (W : World) (o : Obj) {b : Nat} (h : b < W.heap.size) : (W.alloc o).heap[b]? = W.heap[b]? := Go.RowKit.Below.heap_alloc W o b h
theorem cell_alloc_new (W : World) (arr : Array Value) (e : TypeId) (fz : Nat × Nat) {o : Nat} (h : o < arr.size) : (W.alloc (.cells arr e fz)).cell? ⟨W.heap.size, o, none⟩ = some (arr.getD o undef) := by
  unfold World.cell?
  rw [heap_alloc_new]
  simp [h]
theorem size_alloc (W : World) (o : Obj) : (W.alloc o).heap.size = W.heap.size + 1 := by simp

theorem QEv.alloc (hr : HRel G W σ) (arr : Array Value) (e : TypeId) : QEv G W (G.plus W.heap.size arr.size) (W.alloc (.cells arr e)) where
  os := rfl
  tape := rfl
  output := rfl
  size := by rw [size_alloc]; omega
  keep b hb := heap_alloc_old W _ hb
  S b o h := .inl h
  snew b o h := h.elim .inl (fun x => .inr (by omega))
  stab b o h := by
    rcases h with h | ⟨rfl, h⟩
    · obtain ⟨v, hv⟩ := hr.stab b o h
      exact ⟨v, (World.cell_block (heap_alloc_old W _ (lt_of_cell hv))).trans hv⟩
    · exact ⟨_, cell_alloc_new W arr e _ h⟩
  β _ _ h := h
  bnd := hr.bnd

/-- A draw. -/
theorem QEv.drew (hr : HRel G W σ) : QEv G W G W.drew := ⟨rfl, rfl, rfl, Nat.le_refl _, fun _ _ => rfl, fun _ _ h => h, fun _ _ h => .inl h, hr.stab, fun _ _ h => h, hr.bnd⟩

/-! ### len, min, max -/
def evLen (P : Program) (σ : Heap) (t : TypeId) (x : PV) : EV :=
  match P.underlying t, x with
  | some (.slice _), .lit (.slice none 0 0) => ⟨True, .lit (.int .i64 0)⟩
  | some (.slice _), .slice _ rows => ⟨True, .lit (.int .i64 rows.length)⟩
  | some (.slice _), .msl _ _ _ len _ => ⟨True, .lit (.int .i64 len)⟩
  | some .string, .lit (.string s) => ⟨True, .lit (.int .i64 s.size)⟩
  | some (.array m _), _ => ⟨True, .lit (.int .i64 m)⟩
  | some (.map _ _), .map id => match σ id with
    | some (.map es) => ⟨True, .lit (.int .i64 es.length)⟩
    | _ => .no
  | some (.map _ _), .lit (.map none) => ⟨True, .lit (.int .i64 0)⟩
  | _, _ => .no

theorem evLen_run (hr : HRel G W σ) {t ty : TypeId} {ts : Array TypeId} {x : PV} {v : Value} (hts : ts[0]? = some t) (hv : VRel G W x v) (h : (evLen P σ t x).D) :
    ∃ u, (Builtin.len_ ts ty #[v]).run P W = .ok u W ∧ VRel G W (evLen P σ t x).V u := by
  unfold evLen at h ⊢
  split at h
  · rename_i e ht; cases hv; exact ⟨_, by simp [Builtin.len_, hts, run_underlying ht, goInt], .lit _⟩
  · rename_i e full rows ht
    cases hv with
    | nilsl => exact ⟨_, by simp [Builtin.len_, hts, run_underlying ht, goInt], .lit _⟩
    | slice _ _ b off len cap k cv h1 h2 h3 h4 h5 h6 h7 =>
    exact ⟨.int .i64 rows.length, by subst h1; simp [Builtin.len_, hts, run_underlying ht, goInt], .lit _⟩
  · rename_i e a1 a2 a3 len a5 ht
    cases hv with
    | msl _ _ _ _ cap R δ n b off' _ e' h1 h2 h3 h4 h5 h6 h7 =>
    exact ⟨_, by simp [Builtin.len_, hts, run_underlying ht, goInt], .lit _⟩
  · rename_i s ht; cases hv; exact ⟨_, by simp [Builtin.len_, hts, run_underlying ht, goInt], .lit _⟩
  · rename_i m e ht
    refine ⟨_, ?_, .lit _⟩
    simp [Builtin.len_, hts, Sem.run_bind, run_underlying ht, goInt]
  · rename_i a b id ht
    split at h
    · rename_i es ho
      obtain ⟨loc, hl, horel, _⟩ := hr.obj id _ ho
      obtain ⟨_, ms, clock, g1, g2, _⟩ := horel
      cases hv with
      | map _ R hb =>
      rw [hb] at hl; cases hl
      refine ⟨_, ?_, .lit _⟩
      simp only at g1
      simp [Builtin.len_, hts, run_underlying ht, goInt, getObj, Sem.run, g1, g2]
    · exact h.elim
  · rename_i a b ht; cases hv; exact ⟨_, by simp [Builtin.len_, hts, run_underlying ht, goInt], .lit _⟩
  · exact h.elim

def evMM (mx : Bool) (a b : PV) : EV :=
  match a, b with
  | .lit (.int k x), .lit (.int _ y) => ⟨True, .lit (.int k (if mx then max x y else min x y))⟩
  | _, _ => .no
theorem evMax_run {ty : TypeId} {ts : Array TypeId} {a b : PV} {v w : Value} (hv : VRel G W a v) (hw : VRel G W b w) (h : (evMM true a b).D) :
    ∃ u, (Builtin.max_ ts ty #[v, w]).run P W = .ok u W ∧ VRel G W (evMM true a b).V u := by
  unfold evMM at h ⊢
  split at h
  · rename_i k x k' y
    cases hv; cases hw
    refine ⟨_, run_max_int2 W ts ty k k' x y, ?_⟩
    have : (if y > x then y else x) = max x y := by omega
    rw [this]; exact .lit _
  · exact h.elim
theorem evMin_run {ty : TypeId} {ts : Array TypeId} {a b : PV} {v w : Value} (hv : VRel G W a v) (hw : VRel G W b w) (h : (evMM false a b).D) :
    ∃ u, (Builtin.min_ ts ty #[v, w]).run P W = .ok u W ∧ VRel G W (evMM false a b).V u := by
  unfold evMM at h ⊢
  split at h
  · rename_i k x k' y
    cases hv; cases hw
    refine ⟨_, run_min_int2 W ts ty k k' x y, ?_⟩
    have : (if y < x then y else x) = min x y := by omega
    rw [this]; exact .lit _
  · exact h.elim

/-! ### Builders -/
def partsP (fr : Fr) (ps : Array (Nat × Operand)) : List (Nat × PV) := ps.toList.map fun p => (p.1, sv (opv fr p.2))

theorem parts_rel (hT : TRel G W n fr A.tmps) {ps : Array (Nat × Operand)} (ha : ∀ p ∈ ps.toList, avt (opv fr p.2)) :
    ((ps.map fun (i, x) => (i, A.eval x)).toList).length = (partsP fr ps).length ∧
    ∀ i, i < (partsP fr ps).length → (((ps.map fun (i, x) => (i, A.eval x)).toList).getD i (0, undef)).1 = ((partsP fr ps).getD i (0, .any)).1 ∧
      VRel G W ((partsP fr ps).getD i (0, .any)).2 (((ps.map fun (i, x) => (i, A.eval x)).toList).getD i (0, undef)).2 := by
  refine ⟨by simp [partsP], fun i hi => ?_⟩
  have hlt : i < ps.size := by simpa [partsP] using hi
  have hm := ha ps[i] (by simp)
  have := sv_rel (opv_rel hT (ps[i]).2) hm
  simp [partsP, List.getD, hlt, this]

def evBuild (P : Program) (t : TypeId) (ps : List (Nat × PV)) : EV :=
  match zeroP P t, places P t, ixi P t with
  | some zs, some pl, _ => match fillP (pl[·]?) zs ps with
    | some r => ⟨True, .agg r⟩
    | none => .no
  | some zs, none, some (some _, sz, _) => match fillP (fun i => some (i * sz, sz)) zs ps with
    | some r => ⟨True, .agg r⟩
    | none => .no
  | _, _, _ => .no

theorem evBuild_run {t : TypeId} {ps : List (Nat × PV)} {qs : Array (Nat × Value)} (hl : qs.toList.length = ps.length)
    (hx : ∀ i, i < ps.length → (qs.toList.getD i (0, undef)).1 = (ps.getD i (0, .any)).1 ∧ VRel G W (ps.getD i (0, .any)).2 (qs.toList.getD i (0, undef)).2) (h : (evBuild P t ps).D) :
    ∃ u, (Instr.build t qs).run P W = .ok u W ∧ VRel G W (evBuild P t ps).V u := by
  unfold evBuild at h ⊢
  split at h
  · rename_i zs pl hz hp
    split at h
    · rename_i r hf
      obtain ⟨v, z1, z2, z3⟩ := zeroP_run (P := P) (W := W) (G := G) hz
      unfold places at hp
      split at hp
      · rename_i fs ht
        have hm := places_run (P := P) (W := W) hp
        obtain ⟨ws, w1, w2⟩ := fill_rel ps qs.toList zs r v.cells z2 hl hx hf
        refine ⟨_, ?_, .agg _ _ w2.1 w2.2⟩
        simp only [Instr.build, Sem.run_bind, z1, Result.andThen_ok, run_underlying ht, Array.mapM_eq_mapM_toList, Sem.run_map]
        rw [hm]
        simp only [Result.andThen_ok, List.getElem?_toArray]
        rw [w1]
        rfl
      · cases hp
    · exact h.elim
  · rename_i zs m sz ag hz hp hx'
    split at h
    · rename_i r hf
      obtain ⟨v, z1, z2, z3⟩ := zeroP_run (P := P) (W := W) (G := G) hz
      obtain ⟨e, ht, hi⟩ := ixi_array hx'
      obtain ⟨ws, w1, w2⟩ := fill_rel ps qs.toList zs r v.cells z2 hl hx hf
      refine ⟨_, ?_, .agg _ _ w2.1 w2.2⟩
      simp only [Instr.build, Sem.run_bind, z1, Result.andThen_ok, run_underlying ht, inf_size hi]
      rw [w1]
      rfl
    · exact h.elim
  · exact h.elim

/-- Parts 0, 1, 2 .. in order. -/
def inOrder : Nat → List (Nat × PV) → Bool
  | _, [] => true
  | i, (j, _) :: r => i == j && inOrder (i + 1) r

theorem fill_inOrder {sz : Nat} : ∀ (ps : List (Nat × PV)) (i0 : Nat) (cs : List PV), cs.length = (i0 + ps.length) * sz → inOrder i0 ps = true → (∀ p ∈ ps, isCell p.2 = true ∧ (cellsP p.2).length = sz) →
    ∃ r, fillP (fun i => some (i * sz, sz)) cs ps = some r ∧ r.length = cs.length ∧ (∀ j, j < i0 * sz → r.getD j .any = cs.getD j .any) ∧
      ∀ i j, i < ps.length → j < sz → r.getD ((i0 + i) * sz + j) .any = (cellsP (ps.getD i (0, .any)).2).getD j .any := by
  intro ps
  induction ps with
  | nil => intro i0 cs _ _ _; exact ⟨cs, rfl, rfl, fun _ _ => rfl, fun i j hi => absurd hi (Nat.not_lt_zero _)⟩
  | cons p ps ih =>
    intro i0 cs hl ho hp
    obtain ⟨j0, v⟩ := p
    simp only [inOrder, Bool.and_eq_true, beq_iff_eq] at ho
    obtain ⟨rfl, ho⟩ := ho
    obtain ⟨c1, c2⟩ := hp _ (List.mem_cons_self ..)
    simp only at c1 c2
    have hfit : i0 * sz + (cellsP v).length ≤ cs.length := by
      rw [c2, hl, List.length_cons]
      have : (i0 + 1) * sz ≤ (i0 + (ps.length + 1)) * sz := Nat.mul_le_mul_right sz (by omega)
      rw [Nat.add_mul, Nat.one_mul] at this
      exact this
    obtain ⟨r, r1, r2, r3, r4⟩ := ih (i0 + 1) (setR cs (i0 * sz) (cellsP v)) (by rw [setR_length hfit, hl, List.length_cons]; congr 1; omega) ho (fun q hq => hp q (List.mem_cons_of_mem _ hq))
    refine ⟨r, ?_, by rw [r2, setR_length hfit], fun j hj => ?_, fun i j hi hj => ?_⟩
    · simp only [fillP, c1, c2, beq_self_eq_true, Bool.and_self, Bool.true_and]
      rw [if_pos (by simpa [c2] using hfit)]
      exact r1
    · rw [r3 j (by rw [Nat.add_mul]; omega), setR_getD hfit, if_neg (by omega)]
    · cases i with
      | zero =>
        rw [Nat.add_zero, r3 _ (by rw [Nat.add_mul]; omega), setR_getD hfit, if_pos (by omega)]
        simp
      | succ i =>
        have := r4 i j (by simpa using hi) hj
        rw [show i0 + (i + 1) = i0 + 1 + i by omega, this]
        simp

def evBS (P : Program) (t : TypeId) (len : Nat) (ps : List (Nat × PV)) : EV :=
  match ixi P t with
  | some (none, sz, _) => ⟨inOrder 0 ps = true ∧ ps.length = len ∧ (∀ p ∈ ps, isCell p.2 = true ∧ (cellsP p.2).length = sz) ∧ len * sz ≤ 16777216 ∧ len ≤ 16777216 ∧ (len * sz = 0 ∨ (match P.underlying t with | some (.slice e) => (zeroP P e).isSome = true | _ => False)),
      .slice true (ps.map fun p => cellsP p.2)⟩
  | _ => .no

theorem buildSlice_cells {t e : TypeId} {len sz : Nat} {ag : Bool} {ps : List (Nat × PV)} {qs : Array (Nat × Value)} (ht : P.underlying t = some (.slice e)) (hi : inf P e = some (sz, ag)) (hl : qs.toList.length = ps.length)
    (hx : ∀ i, i < ps.length → (qs.toList.getD i (0, undef)).1 = (ps.getD i (0, .any)).1 ∧ VRel G W (ps.getD i (0, .any)).2 (qs.toList.getD i (0, undef)).2)
    (ho : inOrder 0 ps = true) (hlen : ps.length = len) (hp : ∀ p ∈ ps, isCell p.2 = true ∧ (cellsP p.2).length = sz) (hsz : len * sz ≤ 16777216) (hz : len * sz = 0 ∨ (zeroP P e).isSome = true) :
    ∃ arr : Array Value, (Instr.buildSlice t len qs).run P W = .ok (.slice (some ⟨W.heap.size, 0, none⟩) len len) (W.alloc (.cells arr e)) ∧ arr.size = len * sz ∧
      ∀ i j, i < len → j < sz → VRel G W ((cellsP (ps.getD i (0, .any)).2).getD j .any) (arr.getD (i * sz + j) undef) := by
  obtain ⟨zero, hzero⟩ : ∃ zero : Array Value, (len * sz = 0 ∧ zero = #[]) ∨ (len * sz ≠ 0 ∧ ∃ v, (zeroValue e).run P W = .ok v W ∧ zero = v.cells) := by
    by_cases h0 : len * sz = 0
    · exact ⟨#[], .inl ⟨h0, rfl⟩⟩
    · rcases hz with h | h
      · exact absurd h h0
      · obtain ⟨zs, hzs⟩ := Option.isSome_iff_exists.1 h
        obtain ⟨v, z1, _, _⟩ := zeroP_run (P := P) (W := W) (G := G) hzs
        exact ⟨v.cells, .inr ⟨h0, v, z1, rfl⟩⟩
  have hinit : RelL G W (((List.range (len * sz)).map fun j => PV.lit (zero[j % zero.size]!))) ((Array.range (len * sz)).map (zero[· % zero.size]!)) := by
    refine ⟨by simp, fun i hi => ?_⟩
    simp at hi
    simp [List.getD, hi]
    exact .lit _
  obtain ⟨r, r1, r2, _, r4⟩ := fill_inOrder ps 0 ((List.range (len * sz)).map fun j => PV.lit (zero[j % zero.size]!)) (by simp [hlen]) ho hp
  obtain ⟨ws, w1, w2⟩ := fill_rel ps qs.toList _ r _ hinit hl hx r1
  refine ⟨ws, ?_, by rw [w2.1, r2]; simp, fun i j hi hj => ?_⟩
  · simp only [Instr.buildSlice, Sem.run_bind, run_underlying ht, Result.andThen_ok, inf_size hi]
    rw [Sem.run_ite, if_neg (by omega)]
    rcases hzero with ⟨h0, rfl⟩ | ⟨h0, v, z1, rfl⟩
    · rw [if_pos h0]
      simp only [pure_bind]
      rw [w1]
      simp [newRow]
    · rw [if_neg h0]
      simp only [pure_bind, Sem.run_bind, z1, Result.andThen_ok]
      rw [w1]
      simp [newRow]
  · have := r4 i j (by omega) hj
    rw [Nat.zero_add] at this
    rw [← this]
    refine w2.2 _ ?_
    rw [r2]
    simp
    calc i * sz + j < i * sz + sz := by omega
      _ = (i + 1) * sz := by rw [Nat.add_mul, Nat.one_mul]
      _ ≤ len * sz := Nat.mul_le_mul_right sz hi

theorem evBS_run (hr : HRel G W σ) {t : TypeId} {len : Nat} {ps : List (Nat × PV)} {qs : Array (Nat × Value)} (hl : qs.toList.length = ps.length)
    (hx : ∀ i, i < ps.length → (qs.toList.getD i (0, undef)).1 = (ps.getD i (0, .any)).1 ∧ VRel G W (ps.getD i (0, .any)).2 (qs.toList.getD i (0, undef)).2) (h : (evBS P t len ps).D) :
    ∃ u G' W', (Instr.buildSlice t len qs).run P W = .ok u W' ∧ QEv G W G' W' ∧ VRel G' W' (evBS P t len ps).V u := by
  unfold evBS at h ⊢
  split at h
  · rename_i sz ag hx'
    obtain ⟨e, ht, hi⟩ := ixi_slice hx'
    simp only [ht] at h
    obtain ⟨h1, h2, h3, h4, h6, h5⟩ := h
    obtain ⟨arr, g1, g2, g3⟩ := buildSlice_cells ht hi hl hx h1 h2 h3 h4 h5
    have q := QEv.alloc hr arr e
    refine ⟨_, _, _, g1, q, ?_⟩
    have e1 : ∀ i, i < len → (ps.map fun p => cellsP p.2).getD i [] = cellsP (ps.getD i (0, .any)).2 := fun i hi => by
      have : i < ps.length := by omega
      simp [List.getD, this]
    refine .slice true _ W.heap.size 0 len len sz (fun j => arr.getD j undef) (by simp [h2]) (Nat.le_refl _) ?_ (fun _ => rfl) (fun i hi => ?_) (fun j hj => ?_) (fun i j hi hj => ?_)
    · unfold maxLen; omega
    · rw [e1 i hi]
      have hlt : i < ps.length := by omega
      have := (h3 ps[i] (List.getElem_mem hlt)).2
      simpa [List.getD, hlt] using this
    · rw [Nat.zero_add]
      exact ⟨.inr ⟨rfl, by omega⟩, cell_alloc_new W arr e _ (by omega)⟩
    · rw [e1 i hi]
      exact (g3 i j hi hj).mono ((q.evol hr).ext hr)
  · exact h.elim

/-! ### 'ev' as a whole -/
def gate (fr : Fr) (xs : List Operand) (e : EV) : EV := ⟨(∀ x ∈ xs, avt (opv fr x)) ∧ e.D, e.V⟩
def pickV (c : Bool) (a b : PV) : PV :=
  match a, b with
  | .lit (.bool x), .lit (.bool y) => .lit (.bool (bif c then x else y))
  | a, b => bif c then a else b
def evPick (fr : Fr) (c a b : Operand) : EV :=
  match sv (opv fr c) with
  | .lit (.bool t) => ⟨avt (opv fr c) ∧ (t = true → avt (opv fr a)) ∧ (t = false → avt (opv fr b)), pickV t (sv (opv fr a)) (sv (opv fr b))⟩
  | _ => .no
def notIface (P : Program) (t : TypeId) : Bool :=
  match P.underlying t with
  | some (.interface _) => false
  | some _ => true
  | none => false
def evExtract (x : PV) (i : Nat) : EV :=
  match x with
  | .tup cs => ⟨i < cs.length, cs.getD i .any⟩
  | _ => .no
def evNil (x : PV) : EV :=
  match x with
  | .ptr id off => ⟨True, .ptr id off⟩
  | .ref cs => ⟨True, .ref cs⟩
  | .fn (.func f) a b => ⟨True, .fn (.func f) a b⟩
  | _ => .no
def evCall (P : Program) (σ : Heap) (fr : Fr) (c : Call) : EV :=
  match c.callee with
  | .builtin .len => match c.args.toList, c.argTypes.toList with
    | [x], t :: _ => gate fr [x] (evLen P σ t (sv (opv fr x)))
    | _, _ => .no
  | .builtin .max => match c.args.toList with
    | [x, y] => gate fr [x, y] (evMM true (sv (opv fr x)) (sv (opv fr y)))
    | _ => .no
  | .builtin .min => match c.args.toList with
    | [x, y] => gate fr [x, y] (evMM false (sv (opv fr x)) (sv (opv fr y)))
    | _ => .no
  | _ => .no

def ev (P : Program) (σ : Heap) (fr : Fr) (o : Oper) : EV :=
  match o.op with
  | .move x => gate fr [x] ⟨True, sv (opv fr x)⟩
  | .assign x => gate fr [x] ⟨True, sv (opv fr x)⟩
  | .pick c a b => evPick fr c a b
  | .build t ps => gate fr (ps.toList.map (·.2)) (evBuild P t (partsP fr ps))
  | .buildSlice t len ps => gate fr (ps.toList.map (·.2)) (evBS P t len (partsP fr ps))
  | .load t a => gate fr [a] (evL P σ t (sv (opv fr a)))
  | .nilCheck x => gate fr [x] (evNil (sv (opv fr x)))
  | .binOp op t x y _ => gate fr [x, y] (evBin P op t (sv (opv fr x)) (sv (opv fr y)))
  | .unOp op _ x => gate fr [x] (evUn op (sv (opv fr x)))
  | .convert s d x => gate fr [x] (evConv P s d (sv (opv fr x)))
  | .makeInterface t x => gate fr [x] ⟨notIface P t = true, .iface t (sv (opv fr x))⟩
  | .makeFunc f first cap => gate fr (first.toList ++ cap.toList) ⟨True, .fn f (first.toList.map fun x => sv (opv fr x)) (cap.toList.map fun x => sv (opv fr x))⟩
  | .slice t x lo hi mx => gate fr (x :: (lo.toList ++ hi.toList ++ mx.toList)) (evSl P σ t (sv (opv fr x)) (lo.map fun x => sv (opv fr x)) (hi.map fun x => sv (opv fr x)) (mx.map fun x => sv (opv fr x)))
  | .fieldAddr s x f => gate fr [x] (evFA P s (sv (opv fr x)) f)
  | .field t x f => gate fr [x] (evF P t (sv (opv fr x)) f)
  | .indexAddr t x i => gate fr [x, i] (evIA P t (sv (opv fr x)) (sv (opv fr i)))
  | .index t x i => gate fr [x, i] (evI P t (sv (opv fr x)) (sv (opv fr i)))
  | .extract x i => gate fr [x] (evExtract (sv (opv fr x)) i)
  | .call c => evCall P σ fr c
  | _ => .no

theorem bif_rel {c : Bool} {a b : PV} {v w : Value} (ha : c = true → VRel G W a v) (hb : c = false → VRel G W b w) : VRel G W (pickV c a b) (if c then v else w) := by
  unfold pickV
  split
  · cases c
    · have := hb rfl; cases this; exact .lit _
    · have := ha rfl; cases this; exact .lit _
  · cases c
    · exact hb rfl
    · exact ha rfl

theorem list_rel (hT : TRel G W n fr A.tmps) {xs : Array Operand} (ha : ∀ x ∈ xs.toList, avt (opv fr x)) :
    (xs.map A.eval).size = (xs.toList.map fun x => sv (opv fr x)).length ∧ ∀ i, i < (xs.toList.map fun x => sv (opv fr x)).length → VRel G W ((xs.toList.map fun x => sv (opv fr x)).getD i .any) ((xs.map A.eval).getD i undef) := by
  refine ⟨by simp, fun i hi => ?_⟩
  have hlt : i < xs.size := by simpa using hi
  have := sv_rel (opv_rel hT xs[i]) (ha xs[i] (by simp))
  simpa [List.getD, hlt] using this

theorem ret_ok {s : Sem Value} {u : Value} {W' : World} (h : s.run P W = .ok u W') : (do pure (Next.value (← s)) : Sem Next).run P W = .ok (.value u) W' := by
  simp [h]

theorem opt_rel (hT : TRel G W n fr A.tmps) (x : Option Operand) (ha : ∀ y ∈ x.toList, avt (opv fr y)) : BRel G W (x.map fun x => sv (opv fr x)) (x.map A.eval) := by
  cases x with
  | none => trivial
  | some y => exact sv_rel (opv_rel hT y) (ha y (by simp))

theorem ev_run (hr : HRel G W σ) (hT : TRel G W n fr A.tmps) (o : Oper) (h : (ev P σ fr o).D) : RunQ P G W (execOp A.eval o) (ev P σ fr o).V := by
  obtain ⟨dst, op, ty, pos, after, guard⟩ := o
  have R : ∀ x, avt (opv fr x) → VRel G W (sv (opv fr x)) (A.eval x) := fun x hx => sv_rel (opv_rel hT x) hx
  cases op <;> simp only [ev] at h ⊢
  case move x => exact RunQ.same hr (by simp [execOp]) (R x (h.1 x (by simp)))
  case assign x => exact RunQ.same hr (by simp [execOp]) (R x (h.1 x (by simp)))
  case pick c a b =>
    unfold evPick at h ⊢
    split at h
    · rename_i t ht
      obtain ⟨h1, h2, h3⟩ := h
      have hc := R c h1
      rw [ht] at hc
      have hc := lit_inv hc
      refine RunQ.same hr (v := if t then A.eval a else A.eval b) ?_ (bif_rel (fun e => R a (h2 e)) (fun e => R b (h3 e)))
      simp [execOp, hc, asBool]
    · exact h.elim
  case build t ps =>
    obtain ⟨h1, h2⟩ := h
    obtain ⟨p1, p2⟩ := parts_rel hT (ps := ps) (fun p hp => h1 p.2 (List.mem_map.2 ⟨p, hp, rfl⟩))
    obtain ⟨u, r1, r2⟩ := evBuild_run p1 p2 h2
    exact RunQ.same hr (ret_ok r1) r2
  case buildSlice t len ps =>
    obtain ⟨h1, h2⟩ := h
    obtain ⟨p1, p2⟩ := parts_rel hT (ps := ps) (fun p hp => h1 p.2 (List.mem_map.2 ⟨p, hp, rfl⟩))
    obtain ⟨u, G', W', r1, r2, r3⟩ := evBS_run hr p1 p2 h2
    exact ⟨u, G', W', ret_ok r1, r2, r3⟩
  case load t a =>
    obtain ⟨u, r1, r2⟩ := evL_run (P := P) hr (R a (h.1 a (by simp))) h.2
    exact RunQ.same hr (ret_ok r1) r2
  case nilCheck x =>
    obtain ⟨h1, h2⟩ := h
    have hx := R x (h1 x (by simp))
    unfold evNil at h2
    simp only [gate, evNil]
    split at h2
    · rename_i id off e
      rw [e] at hx
      generalize hv : A.eval x = v at hx
      cases hx with
      | ptr _ _ R δ hb => exact RunQ.same hr (by simp [execOp, hv]) (.ptr _ _ R δ hb)
    · rename_i cs e
      rw [e] at hx
      generalize hv : A.eval x = v at hx
      cases hx with
      | ref _ b off cv g1 g2 => exact RunQ.same hr (by simp [execOp, hv]) (.ref _ b off cv g1 g2)
    · rename_i f a b e
      rw [e] at hx
      generalize hv : A.eval x = v at hx
      cases hx with
      | fn _ _ _ vf vc g1 g2 g3 g4 => exact RunQ.same hr (by simp [execOp, hv]) (.fn _ _ _ vf vc g1 g2 g3 g4)
    · exact h2.elim
  case binOp op t x y _ =>
    obtain ⟨u, r1, r2⟩ := evBin_run (P := P) (x := x) (y := y) (R x (h.1 x (by simp))) (R y (h.1 y (by simp))) h.2
    exact RunQ.same hr (ret_ok r1) r2
  case unOp op t x =>
    obtain ⟨u, r1, r2⟩ := evUn_run (P := P) (R x (h.1 x (by simp))) h.2
    exact RunQ.same hr (ret_ok r1) r2
  case convert s d x =>
    obtain ⟨u, r1, r2⟩ := evConv_run (P := P) (R x (h.1 x (by simp))) h.2
    exact RunQ.same hr (ret_ok r1) r2
  case makeInterface t x =>
    obtain ⟨h1, h2⟩ := h
    simp only [notIface] at h2
    refine RunQ.same hr (ret_ok (u := .iface t (A.eval x)) ?_) (.iface t _ _ (R x (h1 x (by simp))))
    split at h2
    · cases h2
    · rename_i d hn hd
      cases d <;> first | (simp [Instr.makeInterface, Sem.run_bind, run_underlying hd]; done) | exact (hn _ rfl).elim
    · cases h2
  case makeFunc f first cap =>
    obtain ⟨h1, _⟩ := h
    obtain ⟨a1, a2⟩ := list_rel hT (xs := first) (fun x hx => h1 x (by simp [hx]))
    obtain ⟨b1, b2⟩ := list_rel hT (xs := cap) (fun x hx => h1 x (by simp [hx]))
    exact RunQ.same hr (by simp [execOp, Instr.makeFunc]) (.fn f _ _ _ _ a1 a2 b1 b2)
  case slice t x lo hi mx =>
    obtain ⟨h1, h2⟩ := h
    obtain ⟨u, r1, r2⟩ := evSl_run (P := P) hr (R x (h1 x (by simp))) (opt_rel hT lo (fun y hy => h1 y (by simp; simp at hy; simp [hy]))) (opt_rel hT hi (fun y hy => h1 y (by simp; simp at hy; simp [hy])))
      (opt_rel hT mx (fun y hy => h1 y (by simp; simp at hy; simp [hy]))) h2
    exact RunQ.same hr (ret_ok r1) r2
  case fieldAddr s x f =>
    obtain ⟨u, r1, r2⟩ := evFA_run (P := P) (R x (h.1 x (by simp))) h.2
    exact RunQ.same hr (ret_ok r1) r2
  case field t x f =>
    obtain ⟨u, r1, r2⟩ := evF_run (P := P) (R x (h.1 x (by simp))) h.2
    exact RunQ.same hr (ret_ok r1) r2
  case indexAddr t x i =>
    obtain ⟨u, r1, r2⟩ := evIA_run (P := P) (R x (h.1 x (by simp))) (R i (h.1 i (by simp))) h.2
    exact RunQ.same hr (ret_ok r1) r2
  case index t x i =>
    obtain ⟨u, r1, r2⟩ := evI_run (P := P) (R x (h.1 x (by simp))) (R i (h.1 i (by simp))) h.2
    exact RunQ.same hr (ret_ok r1) r2
  case extract x i =>
    obtain ⟨h1, h2⟩ := h
    have hx := R x (h1 x (by simp))
    simp only [gate]
    unfold evExtract at h2 ⊢
    split at h2
    · rename_i cs e
      rw [e] at hx
      generalize hv : A.eval x = v at hx
      cases hx with
      | tup _ vs g1 g2 =>
      have hlt : i < vs.size := by have : i < cs.length := h2; omega
      refine RunQ.same hr (v := vs.getD i undef) ?_ (g2 i h2)
      simp [execOp, hv, Instr.extract, hlt]
    · exact h2.elim
  case call c =>
    obtain ⟨callee, args, argTypes⟩ := c
    unfold evCall at h ⊢
    split at h
    · rename_i hcal
      split at h
      · rename_i x t ts e1 e2
        obtain ⟨h1, h2⟩ := h
        have e3 : args = #[x] := by rw [← Array.toArray_toList (xs := args)]; simp only at e1; rw [e1]
        have e4 : argTypes[0]? = some t := by rw [← Array.getElem?_toList]; simp only at e2; rw [e2]; rfl
        obtain ⟨u, r1, r2⟩ := evLen_run (P := P) (ty := ty) hr e4 (R x (h1 x (by simp))) h2
        simp only at hcal
        subst hcal; subst e3
        refine RunQ.same hr (v := u) ?_ (by simpa [gate] using r2)
        simp only [execOp, resolve, Sem.run_bind, Sem.run_pure, Result.andThen_ok, invoke, builtin]
        rw [show Array.map A.eval _ = _ from rfl]
        simp [r1]
      · exact h.elim
    · rename_i hcal
      split at h
      · rename_i x y e1
        obtain ⟨h1, h2⟩ := h
        have e3 : args = #[x, y] := by rw [← Array.toArray_toList (xs := args)]; simp only at e1; rw [e1]
        obtain ⟨u, r1, r2⟩ := evMax_run (P := P) (ts := argTypes) (ty := ty) (R x (h1 x (by simp))) (R y (h1 y (by simp))) h2
        simp only at hcal
        subst hcal; subst e3
        refine RunQ.same hr (v := u) ?_ (by simpa [gate] using r2)
        simp only [execOp, resolve, Sem.run_bind, Sem.run_pure, Result.andThen_ok, invoke, builtin]
        rw [show Array.map A.eval _ = _ from rfl]
        simp [r1]
      · exact h.elim
    · rename_i hcal
      split at h
      · rename_i x y e1
        obtain ⟨h1, h2⟩ := h
        have e3 : args = #[x, y] := by rw [← Array.toArray_toList (xs := args)]; simp only at e1; rw [e1]
        obtain ⟨u, r1, r2⟩ := evMin_run (P := P) (ts := argTypes) (ty := ty) (R x (h1 x (by simp))) (R y (h1 y (by simp))) h2
        simp only at hcal
        subst hcal; subst e3
        refine RunQ.same hr (v := u) ?_ (by simpa [gate] using r2)
        simp only [execOp, resolve, Sem.run_bind, Sem.run_pure, Result.andThen_ok, invoke, builtin]
        rw [show Array.map A.eval _ = _ from rfl]
        simp [r1]
      · exact h.elim
    · exact h.elim
  all_goals exact h.elim
end
end Go.Lo

/-
  The program logic 'Lo', part F: code, regions in the text's order, calls, functions. Nothing of the program.
-/
set_option linter.unusedSimpArgs false
set_option linter.unusedVariables false
namespace Go.Lo
open Go

inductive Out where
  | val (v : PV)
  | pan (v : PV)
inductive PX where
  | normal
  | exit (id : Nat)
  | goto (l : Nat)
  | ret
  | pan (v : PV)

def XRel (G : Gh) (W : World) : PX → Exit → Prop
  | .normal, .normal => True
  | .exit i, .exit j => i = j
  | .goto i, .goto j => i = j
  | .ret, .ret => True
  | .pan v, .panic ch => ∃ x, ch = [{ v := x, recovered := false }] ∧ VRel G W v x
  | _, _ => False
def OutRel (G : Gh) (W : World) : Out → Ending → Prop
  | .val v, .returned x => VRel G W v x
  | .pan v, .panicked ch => ∃ x, ch = [{ v := x, recovered := false }] ∧ VRel G W v x
  | _, _ => False

def Post (G0 : Gh) (W0 : World) (σ0 : Heap) (n base : Nat) (Q : PX → Fr → Heap → Prop) : Exit → Act → World → Prop := fun e A W =>
  ∃ pe fr σ G, Q pe fr σ ∧ XRel G W pe e ∧ Evol G0 W0 σ0 G W σ ∧ HRel G W σ ∧ TRel G W n fr A.tmps ∧ DRel base W A.defers

theorem Post.trans {G0 G1 : Gh} {W0 W1 : World} {σ0 σ1 : Heap} {n base : Nat} {Q : PX → Fr → Heap → Prop} (h : Evol G0 W0 σ0 G1 W1 σ1) {e : Exit} {A : Act} {W : World}
    (k : Post G1 W1 σ1 n base Q e A W) : Post G0 W0 σ0 n base Q e A W :=
  let ⟨pe, fr, σ, G, h1, h2, h3, h4, h5, h6⟩ := k
  ⟨pe, fr, σ, G, h1, h2, h.trans h3, h4, h5, h6⟩
theorem Post.mono {G0 : Gh} {W0 : World} {σ0 : Heap} {n base : Nat} {Q Q' : PX → Fr → Heap → Prop} (h : ∀ pe fr σ, Q pe fr σ → Q' pe fr σ) {e : Exit} {A : Act} {W : World}
    (k : Post G0 W0 σ0 n base Q e A W) : Post G0 W0 σ0 n base Q' e A W :=
  let ⟨pe, fr, σ, G, h1, h2⟩ := k
  ⟨pe, fr, σ, G, h _ _ _ h1, h2⟩

/-- **Code, from an abstract state on.** 'rd': in a round of a range over a function. -/
def pwp (P : Program) (rd : Bool) (n : Nat) (c : Code) (Q : PX → Fr → Heap → Prop) (fr : Fr) (σ : Heap) : Prop :=
  ∀ (G : Gh) (W : World) (A : Act) (r : Option Nat) (m base : Nat), r.isSome = rd → HRel G W σ → TRel G W n fr A.tmps → DRel base W A.defers → base ≤ W.heap.size →
    c.wpIn (FW r) m P (Post G W σ n base Q) A W

section
variable {P : Program} {rd : Bool} {n : Nat} {Q Q' : PX → Fr → Heap → Prop} {fr : Fr} {σ : Heap}

theorem pwp_mono {c : Code} (h : pwp P rd n c Q fr σ) (hq : ∀ pe fr σ, Q pe fr σ → Q' pe fr σ) : pwp P rd n c Q' fr σ :=
  fun G W A r m base h1 h2 h3 h4 h5 => wpIn_mono (h G W A r m base h1 h2 h3 h4 h5) fun _ _ _ k => k.mono hq

/-- Less may be known of the state. -/
theorem pwp_state {c : Code} {fr' : Fr} {σ' : Heap} (h : pwp P rd n c Q fr' σ')
    (hf : ∀ G W tmps, HRel G W σ → TRel G W n fr tmps → ∃ G', HRel G' W σ' ∧ TRel G' W n fr' tmps ∧ Evol G W σ G' W σ') : pwp P rd n c Q fr σ := by
  intro G W A r m base h1 h2 h3 h4 h5
  obtain ⟨G', k1, k2, k3⟩ := hf G W A.tmps h2 h3
  exact wpIn_mono (h G' W A r m base h1 k1 k2 h4 h5) fun _ _ _ k => k.trans k3

def PX.thn (K : Fr → Heap → Prop) (Q : PX → Fr → Heap → Prop) : PX → Fr → Heap → Prop
  | .normal, fr, σ => K fr σ
  | e, fr, σ => Q e fr σ
def PX.blk (id : Nat) (Q : PX → Fr → Heap → Prop) : PX → Fr → Heap → Prop
  | .exit i, fr, σ => if i = id then Q .normal fr σ else Q (.exit i) fr σ
  | e, fr, σ => Q e fr σ

theorem post_start (G : Gh) (W : World) (A : Act) (base : Nat) {pe : PX} {e : Exit} (hq : Q pe fr σ) (hx : XRel G W pe e) (h2 : HRel G W σ) (h3 : TRel G W n fr A.tmps) (h4 : DRel base W A.defers) :
    Post G W σ n base Q e A W := ⟨pe, fr, σ, G, hq, hx, .refl _ _ _, h2, h3, h4⟩

theorem pwp_skip (h : Q .normal fr σ) : pwp P rd n .skip Q fr σ := fun G W A _ _ base _ h2 h3 h4 _ => wpIn_skip (post_start G W A base (e := .normal) h trivial h2 h3 h4)
theorem pwp_ret (h : Q .ret fr σ) : pwp P rd n .ret Q fr σ := fun G W A _ _ base _ h2 h3 h4 _ => wpIn_ret (post_start G W A base (e := .ret) h trivial h2 h3 h4)
theorem pwp_exit {id : Nat} (h : Q (.exit id) fr σ) : pwp P rd n (.exit id) Q fr σ := fun G W A _ _ base _ h2 h3 h4 _ => wpIn_exit (post_start G W A base (e := .exit id) h rfl h2 h3 h4)
theorem pwp_goto {l : Nat} (h : Q (.goto l) fr σ) : pwp P rd n (.goto l) Q fr σ := fun G W A _ _ base _ h2 h3 h4 _ => wpIn_goto (post_start G W A base (e := .goto l) h rfl h2 h3 h4)

theorem pwp_seq {a b : Code} (h : pwp P rd n a (PX.thn (fun fr σ => pwp P rd n b Q fr σ) Q) fr σ) : pwp P rd n (.seq a b) Q fr σ := by
  intro G W A r m base h1 h2 h3 h4 h5
  refine wpIn_seq (wpIn_mono (h G W A r m base h1 h2 h3 h4 h5) fun e A' W' k => ?_)
  obtain ⟨pe, fr', σ', G', k1, k2, k3, k4, k5, k6⟩ := k
  cases e with
  | normal =>
    cases pe <;> simp only [XRel] at k2
    exact wpIn_mono (k1 G' W' A' r m base h1 k4 k5 k6 (Nat.le_trans h5 k3.size)) fun _ _ _ k => k.trans k3
  | exit i => cases pe <;> simp only [XRel] at k2; exact ⟨_, fr', σ', G', k1, k2, k3, k4, k5, k6⟩
  | goto i => cases pe <;> simp only [XRel] at k2; exact ⟨_, fr', σ', G', k1, k2, k3, k4, k5, k6⟩
  | ret => cases pe <;> simp only [XRel] at k2; exact ⟨.ret, fr', σ', G', k1, k2, k3, k4, k5, k6⟩
  | panic ch => cases pe <;> simp only [XRel] at k2; exact ⟨_, fr', σ', G', k1, k2, k3, k4, k5, k6⟩
  | outgrown => cases pe <;> simp only [XRel] at k2

/-- .. with what follows behind a variable. -/
theorem pwp_seq_k {a b : Code} (h : ∀ K : Fr → Heap → Prop, (∀ fr σ, pwp P rd n b Q fr σ → K fr σ) → pwp P rd n a (PX.thn K Q) fr σ) : pwp P rd n (.seq a b) Q fr σ :=
  pwp_seq (h _ fun _ _ h => h)

theorem pwp_cond {c : Operand} {x y : Code} {b : Bool} (hc : opv fr c = .lit (.bool b)) (ht : b = true → pwp P rd n x Q fr σ) (hf : b = false → pwp P rd n y Q fr σ) : pwp P rd n (.cond c x y) Q fr σ := by
  intro G W A r m base h1 h2 h3 h4 h5
  have := opv_rel h3 c
  rw [hc] at this
  have := lit_inv this
  exact wpIn_cond_split this (fun e => ht e G W A r m base h1 h2 h3 h4 h5) (fun e => hf e G W A r m base h1 h2 h3 h4 h5)

theorem pwp_block {id : Nat} {c : Code} (h : pwp P rd n c (PX.blk id Q) fr σ) : pwp P rd n (.block id c) Q fr σ := by
  intro G W A r m base h1 h2 h3 h4 h5
  refine wpIn_block (wpIn_mono (h G W A r m base h1 h2 h3 h4 h5) fun e A' W' k => ?_)
  obtain ⟨pe, fr', σ', G', k1, k2, k3, k4, k5, k6⟩ := k
  cases e with
  | normal => cases pe <;> simp only [XRel] at k2; exact ⟨.normal, fr', σ', G', k1, k2, k3, k4, k5, k6⟩
  | exit i =>
    cases pe <;> simp only [XRel] at k2
    subst k2
    simp only [PX.blk] at k1
    simp only [Exit.inBlock]
    split
    · rename_i e; rw [if_pos e] at k1; exact ⟨.normal, fr', σ', G', k1, trivial, k3, k4, k5, k6⟩
    · rename_i e; rw [if_neg e] at k1; exact ⟨_, fr', σ', G', k1, rfl, k3, k4, k5, k6⟩
  | goto i => cases pe <;> simp only [XRel] at k2; exact ⟨_, fr', σ', G', k1, k2, k3, k4, k5, k6⟩
  | ret => cases pe <;> simp only [XRel] at k2; exact ⟨.ret, fr', σ', G', k1, k2, k3, k4, k5, k6⟩
  | panic ch => cases pe <;> simp only [XRel] at k2; exact ⟨_, fr', σ', G', k1, k2, k3, k4, k5, k6⟩
  | outgrown => cases pe <;> simp only [XRel] at k2

theorem least {p : Nat → Prop} (h : ∃ N, p N) : ∃ N, p N ∧ ∀ M, p M → N ≤ M := by
  obtain ⟨N, hN⟩ := h
  induction N using Nat.strongRecOn with
  | _ N ih =>
    by_cases hx : ∃ M, M < N ∧ p M
    · obtain ⟨M, h1, h2⟩ := hx; exact ih M h1 h2
    · refine ⟨N, hN, fun M hM => ?_⟩
      rcases Nat.lt_or_ge M N with h1 | h1
      · exact absurd ⟨M, h1, hM⟩ hx
      · exact h1
noncomputable def leastOf (p : Nat → Prop) : Nat := @dite Nat (∃ N, p N) (Classical.propDecidable _) (fun h => Classical.choose (least h)) (fun _ => 0)
theorem leastOf_spec {p : Nat → Prop} (h : ∃ N, p N) : p (leastOf p) ∧ ∀ M, p M → leastOf p ≤ M := by
  unfold leastOf
  rw [dif_pos h]
  exact Classical.choose_spec (least h)

/-- A loop: 'I N fr σ': the invariant with N rounds' worth left. -/
theorem pwp_loop {c : Code} (I : Nat → Fr → Heap → Prop) {N : Nat} (h0 : I N fr σ)
    (round : ∀ N fr σ, I N fr σ → pwp P rd n c (PX.thn (fun fr' σ' => ∃ N', N' < N ∧ I N' fr' σ') Q) fr σ) : pwp P rd n (.loop c) Q fr σ := by
  intro G W A r m base h1 h2 h3 h4 h5
  let J : Nat → Act → World → Prop := fun N A' W' => ∃ fr' σ' G', I N fr' σ' ∧ Evol G W σ G' W' σ' ∧ HRel G' W' σ' ∧ TRel G' W' n fr' A'.tmps ∧ DRel base W' A'.defers
  refine wpIn_loop (fun A' W' => ∃ N, J N A' W') (fun A' W' => leastOf fun N => J N A' W') ⟨N, fr, σ, G, h0, .refl _ _ _, h2, h3, h4⟩ ?_
  intro A' W' hJ
  obtain ⟨fr', σ', G', k1, k2, k3, k4, k5⟩ := (leastOf_spec hJ).1
  refine wpIn_mono (round _ fr' σ' k1 G' W' A' r m base h1 k3 k4 k5 (Nat.le_trans h5 k2.size)) fun e A2 W2 k => ?_
  obtain ⟨pe, fr2, σ2, G2, q1, q2, q3, q4, q5, q6⟩ := k
  cases e with
  | normal =>
    cases pe <;> simp only [XRel] at q2
    obtain ⟨N', hN, hI⟩ := q1
    have hJ2 : ∃ N, J N A2 W2 := ⟨N', fr2, σ2, G2, hI, k2.trans q3, q4, q5, q6⟩
    exact ⟨hJ2, Nat.lt_of_le_of_lt ((leastOf_spec hJ2).2 N' ⟨fr2, σ2, G2, hI, k2.trans q3, q4, q5, q6⟩) hN⟩
  | exit i => cases pe <;> simp only [XRel] at q2; exact ⟨_, fr2, σ2, G2, q1, q2, k2.trans q3, q4, q5, q6⟩
  | goto i => cases pe <;> simp only [XRel] at q2; exact ⟨_, fr2, σ2, G2, q1, q2, k2.trans q3, q4, q5, q6⟩
  | ret => cases pe <;> simp only [XRel] at q2; exact ⟨.ret, fr2, σ2, G2, q1, q2, k2.trans q3, q4, q5, q6⟩
  | panic ch => cases pe <;> simp only [XRel] at q2; exact ⟨_, fr2, σ2, G2, q1, q2, k2.trans q3, q4, q5, q6⟩
  | outgrown => cases pe <;> simp only [XRel] at q2

/-! ### Operations -/
def frSet (fr : Fr) (dst : Option Tmp) (v : PV) : Fr :=
  match dst with
  | some d => fr.set d v
  | none => fr
def dstOk (n : Nat) (o : Oper) : Bool :=
  match o.dst with
  | some d => decide (d < n)
  | none => true

theorem TRel.put {G : Gh} {W : World} {A : Act} (h : TRel G W n fr A.tmps) {V : PV} {v : Value} (hv : VRel G W V v) {dst : Option Tmp} (hd : ∀ d, dst = some d → d < n) : TRel G W n (frSet fr dst V) (A.put dst v).tmps := by
  cases dst with
  | none => exact h
  | some d =>
    refine ⟨by simp [Act.put, h.1], fun t => ?_⟩
    have hlt : d < A.tmps.size := by rw [h.1]; exact hd d rfl
    simp only [frSet, Fr.set, Act.put]
    by_cases e : t = d
    · subst e
      rw [if_pos rfl]
      simpa [hlt] using hv
    · rw [if_neg e]
      have := h.2 t
      rw [Array.getD_eq_getD_getElem?] at this ⊢
      rwa [Array.getElem?_setIfInBounds_ne (Ne.symm e)]

/-- An operation that leaves the memory as it is and yields V. -/
def qop (P : Program) (n : Nat) (o : Oper) (fr : Fr) (σ : Heap) (V : PV) : Prop :=
  ∀ (G : Gh) (W : World) (A : Act) (r : Option Nat) (m : Nat), HRel G W σ → TRel G W n fr A.tmps → ∀ (next : Act → World → Prop) (Q : Exit → Act → World → Prop),
    (∀ G' W' v, Evol G W σ G' W' σ → HRel G' W' σ → VRel G' W' V v → next (A.put o.dst v) W') → o.wpIn (FW r) m P A W next Q

/-- An operation at large. -/
def gop (P : Program) (rd : Bool) (n : Nat) (o : Oper) (fr : Fr) (σ : Heap) (K : Out → Heap → Prop) : Prop :=
  ∀ (G : Gh) (W : World) (A : Act) (r : Option Nat) (m : Nat), r.isSome = rd → HRel G W σ → TRel G W n fr A.tmps → ∀ (next : Act → World → Prop) (Q : Exit → Act → World → Prop),
    (∀ V σ' G' W' v, K (.val V) σ' → Evol G W σ G' W' σ' → HRel G' W' σ' → VRel G' W' V v → next (A.put o.dst v) W') →
    (∀ V σ' G' W' v, K (.pan V) σ' → Evol G W σ G' W' σ' → HRel G' W' σ' → VRel G' W' V v → Q (.panic [{ v := v, recovered := false }]) A W') → o.wpIn (FW r) m P A W next Q

theorem gop_of_qop {o : Oper} {V : PV} {K : Out → Heap → Prop} (h : qop P n o fr σ V) (hK : K (.val V) σ) : gop P rd n o fr σ K :=
  fun G W A r m _ h2 h3 next Q hn _ => h G W A r m h2 h3 next Q fun G' W' v q q' hv => hn V σ G' W' v hK q q' hv

theorem semAt_exec {o : Oper} (hd : ∀ c, o.op ≠ .defer c) (r : Option Nat) (ρ : Operand → Value) : o.semAt r ρ = execOp ρ o := by
  cases r with
  | none => rfl
  | some l => exact Oper.semAt_some l ρ o hd

theorem wpIn_value {o : Oper} {A : Act} {W W' : World} {r : Option Nat} {m : Nat} {next : Act → World → Prop} {Q : Exit → Act → World → Prop} {v : Value} (hd : ∀ c, o.op ≠ .defer c)
    (hr : (execOp A.eval o).run P W = .ok (.value v) W') (h : next (A.put o.dst v) W') : o.wpIn (FW r) m P A W next Q :=
  ⟨fun _ _ => trivial, by rw [show (FW r).round = r from rfl, semAt_exec hd, hr]; exact h⟩
theorem wpIn_skipped {o : Oper} {A : Act} {W W' : World} {r : Option Nat} {m : Nat} {next : Act → World → Prop} {Q : Exit → Act → World → Prop} (hd : ∀ c, o.op ≠ .defer c)
    (hr : (execOp A.eval o).run P W = .ok .skip W') (h : next (A.put o.dst undef) W') : o.wpIn (FW r) m P A W next Q :=
  ⟨fun _ _ => trivial, by rw [show (FW r).round = r from rfl, semAt_exec hd, hr]; exact h⟩

theorem qop_of_ev {o : Oper} (h : (ev P σ fr o).D) : qop P n o fr σ (ev P σ fr o).V := by
  intro G W A r m h2 h3 next Q hn
  obtain ⟨v, G', W', e, q, hv⟩ := ev_run h2 h3 o h
  exact wpIn_value (fun c hc => by simp [ev, hc, EV.no] at h) e (hn G' W' v (q.evol h2) (q.hrel h2) hv)

/-! ### Regions -/
def gval (ops : Array Oper) (fr : Fr) (o : Oper) : Option Bool :=
  match o.guard with
  | none => some true
  | some (j, want) => match (ops[j]?).bind (·.dst) with
    | some d => match fr d with
      | .lit (.bool b) => some (b == want)
      | .gd true (.lit (.bool b)) => some (b == want)
      | .gd false _ => some false
      | _ => none
    | none => none

theorem gval_spec {ops : Array Oper} {o : Oper} {g : Bool} {G : Gh} {W : World} {A : Act} (h : gval ops fr o = some g) (hT : TRel G W n fr A.tmps) : Region.wanted o (yielded ops A.tmps) = g := by
  unfold gval at h
  unfold Region.wanted
  split at h
  · rename_i hg; rw [hg]; simpa using h
  · rename_i j want hg
    rw [hg]
    simp only
    split at h
    · rename_i d hd
      have hT := hT.2 d
      have key : ∀ b : Bool, A.tmps.getD d undef = .bool b → yielded ops A.tmps j = some b := fun b hb => by
        unfold yielded
        rw [hd]
        rw [Array.getD_eq_getD_getElem?] at hb
        cases hx : A.tmps[d]? with
        | none => rw [hx] at hb; simp [undef] at hb
        | some x => rw [hx] at hb; simp at hb; subst hb; simp [hx]
      split at h
      · rename_i b hfr
        rw [hfr] at hT
        rw [key b (lit_inv hT)]
        simp at h; subst h
        cases b <;> cases want <;> rfl
      · rename_i b hfr
        rw [hfr] at hT
        simp at h; subst h
        cases hT with
        | gd _ _ _ h1 h2 =>
        rw [key b (lit_inv (h1 rfl))]
        cases b <;> cases want <;> rfl
      · rename_i q hfr
        rw [hfr] at hT
        simp at h; subst h
        cases hT with
        | gd _ _ _ h1 h2 =>
        have hu := h2 rfl
        have : yielded ops A.tmps j = none := by
          unfold yielded
          rw [hd]
          rw [Array.getD_eq_getD_getElem?] at hu
          cases hx : A.tmps[d]? with
          | none => simp [hx]
          | some x => rw [hx] at hu; simp at hu; subst hu; simp [hx, undef]
        rw [this]; simp
      · cases h
    · cases h

def wpL (F : Fence) (m : Nat) (P : Program) (ops : Array Oper) (Q : Exit → Act → World → Prop) : List Oper → Act → World → Prop
  | [], a, w => Q .normal a w
  | o :: rest, a, w => if Region.wanted o (yielded ops a.tmps) then o.wpIn F m P a w (wpL F m P ops Q rest) Q else wpL F m P ops Q rest (a.put o.dst undef) w

theorem Oper.wpIn_mono {F : Fence} {m : Nat} {o : Oper} {a : Act} {w : World} {K K' : Act → World → Prop} {Q : Exit → Act → World → Prop} (h : ∀ a w, K a w → K' a w)
    (hh : o.wpIn F m P a w K Q) : o.wpIn F m P a w K' Q := by
  refine ⟨hh.1, ?_⟩
  have h2 := hh.2
  generalize (o.semAt F.round a.eval).run P w = r at *
  unfold Oper.uponIn at *
  split <;> rename_i hr <;> simp only at h2
  · exact h _ _ h2
  · exact h _ _ h2
  · exact h _ _ h2
  · exact ⟨h2.1, h2.2.mono fun e w' k => by cases e <;> first | exact h _ _ k | exact k⟩
  · exact ⟨h2.1, h2.2.mono fun e w' k => h _ _ k⟩
  · exact ⟨h2.1, h2.2.mono fun e w' k => by cases e <;> first | exact h _ _ k | exact k⟩
  · exact h2

theorem wpOpsIn_of_wpL {r : Option Nat} {m : Nat} {ops : Array Oper} {Q : Exit → Act → World → Prop} : ∀ (rest pre : List Oper) (a : Act) (w : World), ops.toList = pre ++ rest → wpL (FW r) m P ops Q rest a w →
    wpOpsIn (FW r) m P ops Q (List.range' pre.length rest.length) a w := by
  intro rest
  induction rest with
  | nil => intro pre a w _ h; exact h
  | cons o rest ih =>
    intro pre a w he h
    simp only [List.length_cons, List.range'_succ, wpOpsIn]
    have ho : ops[pre.length]? = some o := by rw [← Array.getElem?_toList, he]; simp
    have ih' := fun a w => ih (pre ++ [o]) a w (by rw [he]; simp)
    simp only [List.length_append, List.length_cons, List.length_nil] at ih'
    simp only [ho]
    simp only [wpL] at h
    split
    · rename_i hw; rw [if_pos hw] at h; exact Oper.wpIn_mono ih' h
    · rename_i hw; rw [if_neg hw] at h; exact ⟨fun _ _ => trivial, ih' _ _ h⟩

def pops (P : Program) (rd : Bool) (n : Nat) (ops : Array Oper) (l : List Oper) (Q : PX → Fr → Heap → Prop) (fr : Fr) (σ : Heap) : Prop :=
  ∀ (G : Gh) (W : World) (A : Act) (r : Option Nat) (m base : Nat), r.isSome = rd → HRel G W σ → TRel G W n fr A.tmps → DRel base W A.defers → base ≤ W.heap.size →
    wpL (FW r) m P ops (Post G W σ n base Q) l A W

theorem pwp_region {id : Nat} {ops : Array Oper} (h : pops P rd n ops ops.toList Q fr σ) : pwp P rd n (.region id ops false) Q fr σ := by
  intro G W A r m base h1 h2 h3 h4 h5
  refine wpIn_region ?_
  have := wpOpsIn_of_wpL ops.toList [] A W rfl (h G W A r m base h1 h2 h3 h4 h5)
  rw [List.range_eq_range']
  simpa using this

theorem pops_nil {ops : Array Oper} (h : Q .normal fr σ) : pops P rd n ops [] Q fr σ :=
  fun G W A _ _ base _ h2 h3 h4 _ => post_start G W A base (e := .normal) h trivial h2 h3 h4

theorem wpL_post {F : Fence} {m : Nat} {ops : Array Oper} {Q Q' : Exit → Act → World → Prop} (hq : ∀ e a w, Q e a w → Q' e a w) : ∀ (l : List Oper) (a : Act) (w : World), wpL F m P ops Q l a w → wpL F m P ops Q' l a w := by
  intro l
  induction l with
  | nil => exact fun a w h => hq _ _ _ h
  | cons o l ih =>
    intro a w h
    simp only [wpL] at *
    split
    · rename_i hw
      rw [if_pos hw] at h
      have h' := Oper.wpIn_mono ih h
      refine ⟨h'.1, ?_⟩
      have h2 := h'.2
      generalize (o.semAt F.round a.eval).run P w = r at *
      unfold Oper.uponIn at *
      split <;> rename_i hr <;> simp only at h2
      · exact h2
      · exact h2
      · exact h2
      · exact ⟨h2.1, h2.2.mono fun e w' k => by
          cases e with
          | returned v => exact k
          | panicked ch => exact hq _ _ _ k
          | outgrown => obtain ⟨a0, w0, k⟩ := k; exact ⟨a0, w0, hq _ _ _ k⟩⟩
      · exact h2
      · exact ⟨h2.1, h2.2.mono fun e w' k => by
          cases e with
          | returned v => exact k
          | panicked ch => exact hq _ _ _ k
          | outgrown => obtain ⟨a0, w0, k⟩ := k; exact ⟨a0, w0, hq _ _ _ k⟩⟩
      · exact hq _ _ _ h2
    · rename_i hw; rw [if_neg hw] at h; exact ih _ _ h

theorem pops_gop {ops : Array Oper} {o : Oper} {l : List Oper} (hg : gval ops fr o = some true) (hd : dstOk n o = true)
    (h : gop P rd n o fr σ (fun out σ' => match out with
      | .val V => pops P rd n ops l Q (frSet fr o.dst V) σ'
      | .pan V => Q (.pan V) fr σ')) : pops P rd n ops (o :: l) Q fr σ := by
  intro G W A r m base h1 h2 h3 h4 h5
  simp only [wpL, gval_spec hg h3, if_true]
  refine h G W A r m h1 h2 h3 _ _ (fun V σ' G' W' v hK he hr hv => ?_) (fun V σ' G' W' v hK he hr hv => ?_)
  · have hT := (h3.mono (he.ext h2)).put hv (dst := o.dst) (fun d hd' => by simpa [dstOk, hd'] using hd)
    refine wpL_post (fun e a w k => k.trans he) _ _ _ (hK G' W' _ r m base h1 hr hT ?_ (Nat.le_trans h5 he.size))
    have : (A.put o.dst v).defers = A.defers := by cases o.dst <;> rfl
    rw [this]; exact h4.evol h2 he
  · exact ⟨_, fr, σ', G', hK, ⟨v, rfl, hv⟩, he, hr, h3.mono (he.ext h2), h4.evol h2 he⟩

theorem pops_guard {ops : Array Oper} {o : Oper} {l : List Oper} {g : Bool} {V : PV} (hg : gval ops fr o = some g) (hd : dstOk n o = true) (hq : g = true → qop P n o fr σ V)
    (h : pops P rd n ops l Q (frSet fr o.dst (.gd g V)) σ) : pops P rd n ops (o :: l) Q fr σ := by
  intro G W A r m base h1 h2 h3 h4 h5
  simp only [wpL, gval_spec hg h3]
  have hdf : ∀ v, (A.put o.dst v).defers = A.defers := fun v => by cases o.dst <;> rfl
  cases g with
  | true =>
    simp only [if_true]
    refine hq rfl G W A r m h2 h3 _ _ (fun G' W' v he hr' hv => ?_)
    have hT := (h3.mono (he.ext h2)).put (.gd true V v (fun _ => hv) (fun e => by cases e)) (dst := o.dst) (fun d hd' => by simpa [dstOk, hd'] using hd)
    refine wpL_post (fun e a w k => k.trans he) _ _ _ (h G' W' _ r m base h1 hr' hT ?_ (Nat.le_trans h5 he.size))
    rw [hdf]; exact h4.evol h2 he
  | false =>
    simp only [Bool.false_eq_true, if_false]
    have hT := h3.put (.gd false V undef (fun e => by cases e) (fun _ => rfl)) (dst := o.dst) (fun d hd' => by simpa [dstOk, hd'] using hd)
    exact h G W _ r m base h1 h2 hT (by rw [hdf]; exact h4) h5

theorem pops_quiet {ops : Array Oper} {o : Oper} {l : List Oper} {V : PV} (hg : o.guard = none) (hd : dstOk n o = true) (hq : qop P n o fr σ V)
    (h : pops P rd n ops l Q (frSet fr o.dst V) σ) : pops P rd n ops (o :: l) Q fr σ :=
  pops_gop (by simp [gval, hg]) hd (gop_of_qop hq h)

/-- Skipped, the guard being false. -/
theorem pops_skip {ops : Array Oper} {o : Oper} {l : List Oper} (hg : gval ops fr o = some false) (hd : dstOk n o = true) (h : pops P rd n ops l Q (frSet fr o.dst (.lit undef)) σ) : pops P rd n ops (o :: l) Q fr σ := by
  intro G W A r m base h1 h2 h3 h4 h5
  simp only [wpL, gval_spec hg h3, Bool.false_eq_true, if_false]
  have hdf : ∀ v, (A.put o.dst v).defers = A.defers := fun v => by cases o.dst <;> rfl
  exact h G W _ r m base h1 h2 (h3.put (.lit undef) (fun d hd' => by simpa [dstOk, hd'] using hd)) (by rw [hdf]; exact h4) h5

/-- Which operations 'ev' knows. -/
def quietK : Op → Bool
  | .move _ | .assign _ | .pick _ _ _ | .build _ _ | .buildSlice _ _ _ | .load _ _ | .nilCheck _ | .binOp _ _ _ _ _ | .unOp _ _ _ | .convert _ _ _ | .makeInterface _ _ | .makeFunc _ _ _ | .slice _ _ _ _ _
  | .fieldAddr _ _ _ | .field _ _ _ | .indexAddr _ _ _ | .index _ _ _ | .extract _ _ => true
  | .call { callee := .builtin .len, .. } | .call { callee := .builtin .max, .. } | .call { callee := .builtin .min, .. } => true
  | _ => false

end
end Go.Lo

/-
  The program logic 'Lo', part G: contracts of functions, calls, a function from its body. Nothing of the program.
-/
set_option linter.unusedSimpArgs false
set_option linter.unusedVariables false
namespace Go.Lo
open Go

/-- **The contract of a function**: called with values that read as 'args', in memory that holds 'σ'. -/
def pcalls (P : Program) (f : FuncId) (args : List PV) (σ : Heap) (K : Out → Heap → Prop) : Prop :=
  ∀ (G : Gh) (W : World) (xs : Array Value) (m : Nat), HRel G W σ → RelL G W args xs →
    CallsIn (FW none) m P f xs W fun e W' => ∃ o σ' G', K o σ' ∧ OutRel G' W' o e ∧ Evol G W σ G' W' σ' ∧ HRel G' W' σ'

/-- A function that only computes. -/
def PFun (P : Program) (f : FuncId) (args : List PV) (r : PV) : Prop := pcalls P f args Heap.empty fun o _ => o = .val r

def Heap.patch (σ σ1 σ1' : Heap) : Heap := fun id => if (σ1' id).isSome then σ1' id else if (σ1 id).isSome then none else σ id

section
variable {P : Program} {rd : Bool} {n : Nat} {fr : Fr} {σ : Heap}

theorem pcalls.mono {f : FuncId} {args : List PV} {K K' : Out → Heap → Prop} (h : pcalls P f args σ K) (hK : ∀ o σ', K o σ' → K' o σ') : pcalls P f args σ K' :=
  fun G W xs m h1 h2 => (h G W xs m h1 h2).mono fun _ _ ⟨o, σ', G', k1, k2⟩ => ⟨o, σ', G', hK _ _ k1, k2⟩

/-- Less may be said of the memory behind. -/
theorem pcalls.less {f : FuncId} {args : List PV} {K : Out → Heap → Prop} (h : pcalls P f args σ fun o σ' => ∃ σ'', (∀ id x, σ'' id = some x → σ' id = some x) ∧ K o σ'') : pcalls P f args σ K :=
  fun G W xs m h1 h2 => (h G W xs m h1 h2).mono fun _ _ ⟨o, σ', G', ⟨σ'', k0, k1⟩, k2, k3, k4⟩ => ⟨o, σ'', G', k1, k2, k3.less (fun id hid => by
    cases hx : σ'' id with
    | none => exact absurd hx hid
    | some x => rw [k0 id x hx]; simp), k4.less k0⟩

theorem some_of_ne {α : Type} {x : Option α} (h : x ≠ none) : ∃ y, x = some y := by
  cases x with
  | none => exact absurd rfl h
  | some y => exact ⟨y, rfl⟩

/-- What a step on a part of the memory does to the whole of it. -/
theorem frame_patch {σ1 σ1' : Heap} {G G' : Gh} {W W' : World} (hs : ∀ id x, σ1 id = some x → σ id = some x) (h : HRel G W σ) (he : Evol G W σ1 G' W' σ1') (h' : HRel G' W' σ1') :
    HRel G' W' (σ.patch σ1 σ1') ∧ Evol G W σ G' W' (σ.patch σ1 σ1') := by
  have h1 : HRel G W σ1 := h.less hs
  have dom1 : ∀ id, σ1 id ≠ none → σ id ≠ none := fun id hid => by obtain ⟨x, hx⟩ := some_of_ne hid; rw [hs id x hx]; simp
  have img1 : ∀ {b}, Img G σ1 b → Img G σ b := fun hb => hb.more dom1
  -- an object of the rest: untouched
  have rest : ∀ id o, σ1 id = none → σ id = some o → ∃ loc, G.β id = some loc ∧ loc.1 < W.heap.size ∧ ¬ Img G σ1 loc.1 ∧ ORel G W loc o ∧ (∀ off, ¬ G.S loc.1 off) := fun id o hn ho => by
    obtain ⟨loc, l1, l2, l3⟩ := h.obj id o ho
    refine ⟨loc, l1, img_lt h ⟨id, loc, by rw [ho]; simp, l1, rfl⟩, ?_, l2, l3⟩
    rintro ⟨id1, loc1, q1, q2, q3⟩
    have := h.inj id1 id loc1 loc (dom1 id1 q1) (by rw [ho]; simp) q2 l1 q3
    subst this; exact q1 hn
  have cases3 : ∀ id o, σ.patch σ1 σ1' id = some o → σ1' id = some o ∨ (σ1' id = none ∧ σ1 id = none ∧ σ id = some o) := fun id o ho => by
    unfold Heap.patch at ho
    cases hx : σ1' id with
    | some x => rw [hx] at ho; simp at ho; exact .inl (by rw [ho])
    | none =>
      rw [hx] at ho
      cases hy : σ1 id with
      | some x => rw [hy] at ho; simp at ho
      | none => rw [hy] at ho; simp at ho; exact .inr ⟨rfl, rfl, ho⟩
  have apart : ∀ id1 id2 l1 l2, σ1' id1 ≠ none → σ1 id2 = none → σ id2 ≠ none → G'.β id1 = some l1 → G.β id2 = some l2 → l1.1 = l2.1 → False := fun id1 id2 l1 l2 q1 q2 q3 q4 q5 q6 => by
    obtain ⟨o, ho⟩ := some_of_ne q3
    obtain ⟨loc, r1, r2, r3, _⟩ := rest id2 o q2 ho
    rw [q5] at r1; cases r1
    rcases he.own l1.1 ⟨id1, l1, q1, q4, rfl⟩ with hh | hh
    · omega
    · rw [q6] at hh; exact r3 hh
  refine ⟨⟨fun id o ho => ?_, fun id id' l l' q1 q2 q3 q4 q5 => ?_, h'.stab, h'.bnd⟩, ?_⟩
  · rcases cases3 id o ho with hh | ⟨_, hh, ho'⟩
    · exact h'.obj id o hh
    · obtain ⟨loc, l1, l2, l3, l4, l5⟩ := rest id o hh ho'
      refine ⟨loc, he.β _ _ l1, l4.mono (he.ext h1) (he.keep _ l2 l3), fun off hs' => ?_⟩
      rcases he.snew _ _ hs' with r | r | r
      · exact l5 off r
      · omega
      · exact l3 r
  · obtain ⟨o, ho⟩ := some_of_ne q1
    obtain ⟨o', ho'⟩ := some_of_ne q2
    rcases cases3 id o ho with a | ⟨_, a, a'⟩ <;> rcases cases3 id' o' ho' with b | ⟨_, b, b'⟩
    · exact h'.inj id id' l l' (by rw [a]; simp) (by rw [b]; simp) q3 q4 q5
    · obtain ⟨loc, r1, _⟩ := rest id' o' b b'
      have := he.β _ _ r1; rw [q4] at this; cases this
      exact (apart id id' l l' (by rw [a]; simp) b (by rw [b']; simp) q3 r1 q5).elim
    · obtain ⟨loc, r1, _⟩ := rest id o a a'
      have := he.β _ _ r1; rw [q3] at this; cases this
      exact (apart id' id l' l (by rw [b]; simp) a (by rw [a']; simp) q4 r1 q5.symm).elim
    · obtain ⟨loc, r1, _⟩ := rest id o a a'
      obtain ⟨loc', r2, _⟩ := rest id' o' b b'
      have e1 := he.β _ _ r1; rw [q3] at e1; cases e1
      have e2 := he.β _ _ r2; rw [q4] at e2; cases e2
      exact h.inj id id' l l' (by rw [a']; simp) (by rw [b']; simp) r1 r2 q5
  · exact
    { os := he.os, tape := he.tape, output := he.output, size := he.size
      keep := fun b hb hi => he.keep b hb fun hx => hi (img1 hx)
      shape := he.shape, S := he.S
      snew := fun b o hs' => (he.snew b o hs').elim .inl fun x => x.elim (fun y => .inr (.inl y)) fun y => .inr (.inr (img1 y))
      β := he.β
      own := fun b ⟨id, loc, q1, q2, q3⟩ => by
        obtain ⟨o, ho⟩ := some_of_ne q1
        rcases cases3 id o ho with a | ⟨_, a, a'⟩
        · exact (he.own b ⟨id, loc, by rw [a]; simp, q2, q3⟩).elim .inl fun x => .inr (img1 x)
        · obtain ⟨loc', r1, _⟩ := rest id o a a'
          have e1 := he.β _ _ r1; rw [q2] at e1; cases e1
          exact .inr ⟨id, loc, by rw [a']; simp, r1, q3⟩
      fresh := fun id q1 => by
        obtain ⟨o, ho⟩ := some_of_ne q1
        rcases cases3 id o ho with a | ⟨_, a, a'⟩
        · exact (he.fresh id (by rw [a]; simp)).elim (fun x => .inl (dom1 id x)) .inr
        · exact .inl (by rw [a']; simp) }

theorem pcalls.frame {f : FuncId} {args : List PV} {σ1 : Heap} {K : Out → Heap → Prop} (h : pcalls P f args σ1 K) (hs : ∀ id x, σ1 id = some x → σ id = some x) :
    pcalls P f args σ fun o σ' => ∃ σ1', K o σ1' ∧ σ' = σ.patch σ1 σ1' :=
  fun G W xs m h1 h2 => (h G W xs m (h1.less hs) h2).mono fun _ _ ⟨o, σ1', G', k1, k2, k3, k4⟩ =>
    let ⟨p1, p2⟩ := frame_patch hs h1 k3 k4
    ⟨o, _, G', ⟨σ1', k1, rfl⟩, k2, p2, p1⟩

theorem PFun.calls {f : FuncId} {args : List PV} {r : PV} (h : PFun P f args r) : pcalls P f args σ fun o σ' => o = .val r ∧ σ' = σ := by
  intro G W xs m h1 h2
  have hs : ∀ id x, Heap.empty id = some x → σ id = some x := fun id x hx => by cases hx
  refine (h G W xs m (h1.less hs) h2).mono ?_
  rintro e W' ⟨o, σ1', G', rfl, k2, k3, k4⟩
  obtain ⟨p1, p2⟩ := frame_patch hs h1 k3 k4
  have keep : ∀ id x, σ id = some x → σ.patch Heap.empty σ1' id = some x := fun id x hx => by
    unfold Heap.patch
    cases hy : σ1' id with
    | none => simp [Heap.empty, hx]
    | some y =>
      rcases k3.fresh id (by rw [hy]; simp) with q | q
      · exact absurd rfl q
      · obtain ⟨loc, l1, _⟩ := h1.obj id x hx
        rw [q] at l1; cases l1
  exact ⟨_, σ, G', ⟨rfl, rfl⟩, k2, p2.less (fun id hid => by obtain ⟨x, hx⟩ := some_of_ne hid; rw [keep id x hx]; simp), p1.less keep⟩

/-! ### Calls -/
def Enters (P : Program) (f : FuncId) : Prop := ∀ args w, (callFunc f args).run P w = .ok (.enter f args) w

def argsP (fr : Fr) (xs : Array Operand) : List PV := xs.toList.map fun x => sv (opv fr x)

theorem RelL.append {G : Gh} {W : World} {cs ds : List PV} {vs ws : Array Value} (h : RelL G W cs vs) (k : RelL G W ds ws) : RelL G W (cs ++ ds) (vs ++ ws) := by
  refine ⟨by simp [h.1, k.1], fun i hi => ?_⟩
  rw [List.length_append] at hi
  rcases Nat.lt_or_ge i cs.length with hl | hl
  · have := h.2 i hl
    have hl' : i < vs.size := by rw [h.1]; exact hl
    simpa [List.getD, hl, hl', Array.getElem?_append_left, List.getElem?_append_left] using this
  · have := k.2 (i - cs.length) (by omega)
    have hl' : vs.size ≤ i := by rw [h.1]; exact hl
    simpa [List.getD, hl, Array.getElem?_append_right hl', List.getElem?_append_right hl, h.1] using this

theorem wpIn_enter {o : Oper} {A : Act} {W W' : World} {r : Option Nat} {m : Nat} {next : Act → World → Prop} {Q : Exit → Act → World → Prop} {f : FuncId} {xs : Array Value} {R : Ending → World → Prop} (hd : ∀ c, o.op ≠ .defer c)
    (hr : (execOp A.eval o).run P W = .ok (.enter f xs) W') (hc : CallsIn (FW none) (m - 1) P f xs W' R)
    (hR : ∀ e w, R e w → match e with
      | .returned v => next (A.put o.dst v) w
      | .panicked ch => Q (.panic ch) A w
      | .outgrown => False) : o.wpIn (FW r) m P A W next Q := by
  refine ⟨fun _ _ => trivial, ?_⟩
  rw [show (FW r).round = r from rfl, semAt_exec hd, hr]
  refine And.intro (fun h => by cases h) ?_
  have hc' : CallsIn (FW r) (m - 1) P f xs W' R := hc
  refine hc'.mono fun e w k => ?_
  have := hR e w k
  cases e with
  | returned v => exact this
  | panicked ch => exact this
  | outgrown => exact this.elim

/-- What is known of the function value that is called. -/
theorem gop_call {o : Oper} {c : Call} {fo : Operand} {g : FuncId} {first captured : List PV} {K : Out → Heap → Prop} (ho : o.op = .call c) (hcl : c.callee = .value fo) (hg : sv (opv fr fo) = .fn (.func g) first captured) (hga : avt (opv fr fo))
    (he : Enters P g) (ha : ∀ x ∈ c.args.toList, avt (opv fr x)) (h : pcalls P g (first ++ argsP fr c.args ++ captured) σ K) : gop P rd n o fr σ K := by
  intro G W A r m h1 h2 h3 next Q hn hp
  have hf := sv_rel (opv_rel h3 fo) hga
  rw [hg] at hf
  generalize hv : A.eval fo = v at hf
  cases hf with
  | fn _ _ _ vf vc g1 g2 g3 g4 =>
  have hargs : RelL G W (argsP fr c.args) (c.args.map A.eval) := list_rel h3 ha
  have hall : RelL G W (first ++ argsP fr c.args ++ captured) (vf ++ c.args.map A.eval ++ vc) := (RelL.append ⟨g1, g2⟩ hargs).append ⟨g3, g4⟩
  have hrun : (execOp A.eval o).run P W = .ok (.enter g (vf ++ c.args.map A.eval ++ vc)) W := by
    simp only [execOp, ho, resolve, hcl, hv, Deferred.ofValue, Sem.run_bind, Sem.run_pure, Result.andThen_ok, invoke]
    exact he _ _
  refine wpIn_enter (fun c' hc => by rw [ho] at hc; cases hc) hrun (h G W _ (m - 1) h2 hall) ?_
  rintro e W' ⟨out, σ', G', k1, k2, k3, k4⟩
  cases e with
  | returned x => cases out <;> simp only [OutRel] at k2; exact hn _ _ _ _ _ k1 k3 k4 k2
  | panicked ch =>
    cases out <;> simp only [OutRel] at k2
    obtain ⟨x, rfl, hx⟩ := k2
    exact hp _ _ _ _ _ k1 k3 k4 hx
  | outgrown => cases out <;> simp only [OutRel] at k2

/-- A call that leaves the memory as it is. -/
theorem qop_call {o : Oper} {c : Call} {fo : Operand} {g : FuncId} {first captured : List PV} {V : PV} (ho : o.op = .call c) (hcl : c.callee = .value fo) (hg : sv (opv fr fo) = .fn (.func g) first captured) (hga : avt (opv fr fo))
    (he : Enters P g) (ha : ∀ x ∈ c.args.toList, avt (opv fr x)) (h : pcalls P g (first ++ argsP fr c.args ++ captured) σ fun o σ' => o = .val V ∧ σ' = σ) : qop P n o fr σ V :=
  fun G W A r m h2 h3 next Q hn => gop_call (rd := r.isSome) ho hcl hg hga he ha h G W A r m rfl h2 h3 next Q (fun V' σ' G' W' v hK h4 h5 h6 => by
    obtain ⟨e1, e2⟩ := hK
    cases e1; subst e2
    exact hn G' W' v h4 h5 h6) (fun V' σ' G' W' v hK _ _ _ => by cases hK.1)

/-! ### A function from its body -/
def Fr.init (args : List PV) : Fr := fun t => args.getD t (.lit undef)

def rvP (P : Program) (fr : Fr) (σ : Heap) : ResultVar → EV
  | .tmp t => ⟨avt (fr t), sv (fr t)⟩
  | .cell a t => ⟨avt (fr a) ∧ (evL P σ t (sv (fr a))).D, (evL P σ t (sv (fr a))).V⟩
def resP (P : Program) (rs : List ResultVar) (fr : Fr) (σ : Heap) : EV :=
  match rs with
  | [] => ⟨True, .lit (.tuple #[])⟩
  | [r] => rvP P fr σ r
  | rs => ⟨∀ r ∈ rs, (rvP P fr σ r).D, .tup (rs.map fun r => (rvP P fr σ r).V)⟩

def rvS (tmps : Array Value) : ResultVar → Sem Value
  | .tmp t => pure (tmps.getD t undef)
  | .cell a t => do loadVar t (← asAddr (tmps.getD a undef))

theorem asAddr_load {v : Value} {t : TypeId} {W : World} {u : Value} (h : (Instr.loadAt t v).run P W = .ok u W) : (do loadVar t (← asAddr v) : Sem Value).run P W = .ok u W := by
  cases v <;> simp [Instr.loadAt, Instr.sureAddr] at h
  rename_i a
  cases a with
  | none => simp at h
  | some a => simpa [asAddr] using h

theorem rv_run {G : Gh} {W : World} {tmps : Array Value} (hr : HRel G W σ) (hT : TRel G W n fr tmps) {r : ResultVar} (h : (rvP P fr σ r).D) : ∃ u, (rvS tmps r).run P W = .ok u W ∧ VRel G W (rvP P fr σ r).V u := by
  cases r with
  | tmp t => exact ⟨_, rfl, sv_rel (hT.2 t) h⟩
  | cell a t =>
    obtain ⟨u, r1, r2⟩ := evL_run (P := P) hr (sv_rel (hT.2 a) h.1) h.2
    exact ⟨u, asAddr_load r1, r2⟩

theorem rvs_run {G : Gh} {W : World} {tmps : Array Value} (hr : HRel G W σ) (hT : TRel G W n fr tmps) : ∀ {rs : List ResultVar}, (∀ r ∈ rs, (rvP P fr σ r).D) →
    ∃ us : List Value, (rs.mapM (rvS tmps)).run P W = .ok us W ∧ us.length = rs.length ∧ ∀ i, i < rs.length → VRel G W ((rs.map fun r => (rvP P fr σ r).V).getD i .any) (us.getD i undef) := by
  intro rs
  induction rs with
  | nil => intro _; exact ⟨[], by simp, rfl, by simp⟩
  | cons r rs ih =>
    intro h
    obtain ⟨u, r1, r2⟩ := rv_run hr hT (h r (List.mem_cons_self ..))
    obtain ⟨us, g1, g2, g3⟩ := ih (fun x hx => h x (List.mem_cons_of_mem _ hx))
    refine ⟨u :: us, by simp only [List.mapM_cons, Sem.run_bind, r1, Result.andThen_ok, g1, Sem.run_pure], by simp [g2], fun i hi => ?_⟩
    cases i with
    | zero => exact r2
    | succ i => exact g3 i (by simpa using hi)

theorem results_run {G : Gh} {W : World} {tmps : Array Value} {fn : Func} (hr : HRel G W σ) (hT : TRel G W n fr tmps) (h : (resP P fn.results.toList fr σ).D) :
    ∃ u, (results fn tmps).run P W = .ok u W ∧ VRel G W (resP P fn.results.toList fr σ).V u := by
  have key : ∀ us : List Value, (fn.results.toList.mapM (rvS tmps)).run P W = .ok us W → (results fn tmps).run P W = .ok (if h : us.toArray.size = 1 then us.toArray[0] else .tuple us.toArray) W := fun us hus => by
    have e : results fn tmps = (do let vs ← fn.results.mapM (rvS tmps); pure (if h : vs.size = 1 then vs[0] else .tuple vs)) := by
      unfold results
      congr 1
    rw [e, Array.mapM_eq_mapM_toList]
    simp [hus]
  generalize fn.results.toList = rs at *
  match rs, h, key with
  | [], h, key =>
    refine ⟨_, key [] (by simp), ?_⟩
    exact .lit _
  | [r], h, key =>
    obtain ⟨u, r1, r2⟩ := rv_run hr hT h
    exact ⟨u, by simpa using key [u] (by simp [r1]), r2⟩
  | r0 :: r1 :: rs', h, key =>
    obtain ⟨rs, hrs⟩ : ∃ rs, rs = r0 :: r1 :: rs' := ⟨_, rfl⟩
    simp only [resP]
    rw [← hrs] at h key ⊢
    have h1 : ∀ r, rs ≠ [r] := fun r e => by rw [e] at hrs; cases hrs
    have h : ∀ r ∈ rs, (rvP P fr σ r).D := by rw [hrs]; rw [hrs] at h; exact h
    obtain ⟨us, g1, g2, g3⟩ := rvs_run hr hT h
    refine ⟨_, key us g1, ?_⟩
    have hne : ¬ us.toArray.size = 1 := by
      intro hx
      simp at hx
      rw [hx] at g2
      match rs, g2, h1 with
      | [r], _, h1 => exact h1 r rfl
    rw [dif_neg hne]
    refine .tup _ _ (by simp [g2]) fun i hi => ?_
    have := g3 i (by simpa using hi)
    simpa [List.getD, Array.getD_eq_getD_getElem?] using this

/-- What a function's body must achieve. -/
def bodyQ (P : Program) (rs : List ResultVar) (K : Out → Heap → Prop) : PX → Fr → Heap → Prop
  | .normal, fr, σ | .ret, fr, σ => (resP P rs fr σ).D ∧ K (.val (resP P rs fr σ).V) σ
  | .pan v, _, σ => K (.pan v) σ
  | _, _, _ => False

theorem Evol.takeD {G : Gh} {W : World} {σ : Heap} (hr : HRel G W σ) {D : Nat} {x : Option (List Deferred)} (hD : W.heap[D]? = some (.deferred x)) :
    HRel G (W.putObj D (.deferred none)) σ ∧ Ext G W G (W.putObj D (.deferred none)) := by
  have hS : ∀ b o, G.S b o → b ≠ D := fun b o hs e => by
    obtain ⟨v, hv⟩ := hr.stab b o hs
    subst e
    simp [World.cell?, hD] at hv
  have hE : Ext G W G (W.putObj D (.deferred none)) := ⟨fun _ _ h => h, fun b o hs => World.cell_block (World.putObj_heap_other (hS b o hs)), fun _ _ h => h, fun b s hs => by
    by_cases e : b = D
    · subst e; simp [World.shape?, hD] at hs
    · exact (shape_block (World.putObj_heap_other e)).trans hs⟩
  refine ⟨⟨fun id o ho => ?_, hr.inj, fun b o hs => ?_, hr.bnd⟩, hE⟩
  · obtain ⟨loc, l1, l2, l3⟩ := hr.obj id o ho
    refine ⟨loc, l1, l2.mono hE (World.putObj_heap_other ?_), l3⟩
    intro e
    exact hr.deferred hD ⟨id, loc, by rw [ho]; simp, l1, e⟩
  · obtain ⟨v, hv⟩ := hr.stab b o hs
    exact ⟨v, (World.cell_block (World.putObj_heap_other (hS b o hs))).trans hv⟩

theorem leaves_marks {fn : Func} {G0 G : Gh} {W0 W : World} {σ0 σ : Heap} {tmps : Array Value} {R : Ending → World → Prop} {m : Nat} {u : FrameMode} (hu : u ≠ .run)
    (hfin : ∀ W', HRel G W' σ → Ext G W G W' → Evol G0 W0 σ0 G W' σ → LeavesIn (FW none) m P fn tmps R [] u W') :
    ∀ (Ds : List Nat) (W1 : World), Ds.Nodup → (∀ D ∈ Ds, W0.heap.size ≤ D ∧ W1.heap[D]? = some (.deferred (some []))) → HRel G W1 σ → Ext G W G W1 → Evol G0 W0 σ0 G W1 σ →
      LeavesInM (FW none) m P fn tmps R (Ds.map fun D => { target := .collected D, args := #[] }) u W1 := by
  intro Ds
  induction Ds with
  | nil => intro W1 _ _ h1 h2 h3; exact hfin W1 h1 h2 h3
  | cons D Ds ih =>
    intro W1 hnd hD h1 h2 h3
    obtain ⟨d1, d2⟩ := hD D (List.mem_cons_self ..)
    obtain ⟨k1, k2⟩ := Evol.takeD h1 d2
    refine ⟨hu, .inl ⟨D, _, rfl, run_takeDeferred d2, ?_⟩⟩
    refine ih _ (List.nodup_cons.1 hnd).2 (fun D' hD' => ?_) k1 ?_ ?_
    · obtain ⟨e1, e2⟩ := hD D' (List.mem_cons_of_mem _ hD')
      refine ⟨e1, (World.putObj_heap_other ?_).trans e2⟩
      intro e; subst e; exact (List.nodup_cons.1 hnd).1 hD'
    · exact ⟨fun b o hs => hs, fun b o hs => (k2.cell b o hs).trans (h2.cell b o hs), fun _ _ h => h, fun b s hs => k2.shape b s (h2.shape b s hs)⟩
    · exact
      { os := h3.os, tape := h3.tape, output := h3.output, size := by rw [World.putObj_size]; exact h3.size
        keep := fun b hb hi => (World.putObj_heap_other (by omega)).trans (h3.keep b hb hi)
        shape := fun b s hs => k2.shape b s (h3.shape b s hs)
        S := h3.S, snew := h3.snew, β := h3.β, own := h3.own, fresh := h3.fresh }

theorem init_rel {G : Gh} {W : World} {args : List PV} {xs : Array Value} (h : RelL G W args xs) (hl : args.length ≤ n) : TRel G W n (Fr.init args) (xs ++ Array.replicate (n - xs.size) undef) := by
  refine ⟨by simp [h.1]; omega, fun t => ?_⟩
  unfold Fr.init
  rcases Nat.lt_or_ge t args.length with ht | ht
  · have := h.2 t ht
    have hx : t < xs.size := by rw [h.1]; exact ht
    simpa [List.getD, ht, Array.getElem?_append_left, hx] using this
  · have hx : xs.size ≤ t := by rw [h.1]; exact ht
    have e1 : args.getD t (.lit undef) = .lit undef := by simp [List.getD, List.getElem?_eq_none ht]
    have e2 : (xs ++ Array.replicate (n - xs.size) undef).getD t undef = undef := by
      rw [Array.getD_eq_getD_getElem?, Array.getElem?_append_right hx]
      rcases Nat.lt_or_ge (t - xs.size) (n - xs.size) with h1 | h1
      · simp [h1]
      · simp [h1]
    rw [e1, e2]; exact .lit _

/-- **The contract of a function, from its body.** -/
theorem pcalls_body {f : FuncId} {fn : Func} {c : Code} {args : List PV} {K : Out → Heap → Prop} {rs : List ResultVar} (hf : P.funcs[f]? = some fn) (hb : fn.body = some c) (hn : fn.ntmps = n) (hrs : fn.results.toList = rs) (hl : args.length ≤ n)
    (h : pwp P false n c (bodyQ P rs K) (Fr.init args) σ) : pcalls P f args σ K := by
  intro G W xs m h1 h2
  subst hrs
  refine callsIn_of_wp_marks hf hb trivial ?_
  rw [hn]
  refine wpIn_mono (h G W _ none m W.heap.size rfl h1 (init_rel h2 hl) (.nil _ _) (Nat.le_refl _)) fun e A W' k => ?_
  obtain ⟨pe, fr, σ', G', k1, k2, k3, k4, k5, Ds, d1, d2, d3⟩ := k
  have fin : ∀ (u : FrameMode) (hu : u ≠ .run), (∀ W2, HRel G' W2 σ' → Ext G' W' G' W2 → Evol G W σ G' W2 σ' → LeavesIn (FW none) m P fn A.tmps (fun e W' => ∃ o σ' G', K o σ' ∧ OutRel G' W' o e ∧ Evol G W σ G' W' σ' ∧ HRel G' W' σ') [] u W2) →
      LeavesInM (FW none) m P fn A.tmps (fun e W' => ∃ o σ' G', K o σ' ∧ OutRel G' W' o e ∧ Evol G W σ G' W' σ' ∧ HRel G' W' σ') A.defers u W' := fun u hu hx => by
    rw [d1]
    exact leaves_marks hu hx Ds W' d2 d3 k4 (.refl _ _) k3
  have back : (resP P fn.results.toList fr σ').D ∧ K (.val (resP P fn.results.toList fr σ').V) σ' → LeavesInM (FW none) m P fn A.tmps (fun e W' => ∃ o σ' G', K o σ' ∧ OutRel G' W' o e ∧ Evol G W σ G' W' σ' ∧ HRel G' W' σ') A.defers .returning W' := fun ⟨q1, q2⟩ => by
    refine fin .returning (by simp) fun W2 g1 g2 g3 => ?_
    obtain ⟨v, r1, r2⟩ := results_run g1 (k5.mono g2) q1
    exact ⟨v, r1, _, σ', G', q2, r2, g3, g1⟩
  cases e with
  | normal => cases pe <;> simp only [XRel] at k2; exact back k1
  | ret => cases pe <;> simp only [XRel] at k2; exact back k1
  | panic ch =>
    cases pe <;> simp only [XRel] at k2
    obtain ⟨x, rfl, hx⟩ := k2
    exact fin _ (by simp) fun W2 g1 g2 g3 => ⟨_, σ', G', k1, ⟨x, rfl, hx.mono g2⟩, g3, g1⟩
  | exit i => cases pe <;> simp only [XRel] at k2; exact k1
  | goto i => cases pe <;> simp only [XRel] at k2; exact k1
  | outgrown => cases pe <;> simp only [XRel] at k2
end
end Go.Lo

/-
  The program logic 'Lo', part I: operations that make or write memory. Nothing of the program.
-/
set_option linter.unusedSimpArgs false
set_option linter.unusedVariables false
namespace Go.Lo
open Go

section
variable {P : Program} {rd : Bool} {n : Nat} {fr : Fr} {σ : Heap} {G : Gh} {W : World}

def Gh.bind (G : Gh) (id : Nat) (loc : Nat × Nat) : Gh := { G with β := fun j => if j = id then some loc else G.β j }
theorem bind_same (G : Gh) (id : Nat) (loc : Nat × Nat) : (G.bind id loc).β id = some loc := if_pos rfl
theorem bind_ext {G : Gh} {id : Nat} {loc : Nat × Nat} (h : G.β id = none) : ∀ j l, G.β j = some l → (G.bind id loc).β j = some l := fun j l hj => by
  show (if j = id then some loc else G.β j) = some l
  rw [if_neg (fun e => by subst e; rw [h] at hj; cases hj)]; exact hj
theorem fresh_id (hr : HRel G W σ) : ∃ id, G.β id = none ∧ σ id = none := by
  obtain ⟨N, hN⟩ := hr.bnd
  refine ⟨N, hN N (Nat.le_refl _), ?_⟩
  cases hx : σ N with
  | none => rfl
  | some o => obtain ⟨loc, l1, _⟩ := hr.obj N o hx; rw [hN N (Nat.le_refl _)] at l1; cases l1
theorem bnd_bind {G : Gh} {id : Nat} {loc : Nat × Nat} (h : ∃ N, ∀ id, N ≤ id → G.β id = none) : ∃ N, ∀ j, N ≤ j → (G.bind id loc).β j = none := by
  obtain ⟨N, hN⟩ := h
  refine ⟨max N (id + 1), fun j hj => ?_⟩
  show (if j = id then some loc else G.β j) = none
  rw [if_neg (by omega)]; exact hN j (by omega)

theorem ext_alloc (hr : HRel G W σ) {id : Nat} (hid : G.β id = none) (loc : Nat × Nat) (ob : Obj) : Ext G W (G.bind id loc) (W.alloc ob) :=
  ⟨fun _ _ h => h, fun b o hs => by obtain ⟨v, hv⟩ := hr.stab b o hs; exact World.cell_block (heap_alloc_old W ob (lt_of_cell hv)), bind_ext hid,
   fun b s hs => (shape_block (heap_alloc_old W ob (lt_of_shape hs))).trans hs⟩

/-- A new object in a new block. -/
theorem new_obj (hr : HRel G W σ) {id : Nat} (hid : G.β id = none) (ob : Obj) (o : PObj) (ho : ORel (G.bind id (W.heap.size, 0)) (W.alloc ob) (W.heap.size, 0) o) :
    HRel (G.bind id (W.heap.size, 0)) (W.alloc ob) (σ.set id o) ∧ Evol G W σ (G.bind id (W.heap.size, 0)) (W.alloc ob) (σ.set id o) := by
  have hE := ext_alloc hr hid (W.heap.size, 0) ob
  have hSn : ∀ o, ¬ G.S W.heap.size o := fun o hs => by obtain ⟨v, hv⟩ := hr.stab _ _ hs; have := lt_of_cell hv; omega
  have old : ∀ j x, σ.set id o j = some x → (j = id ∧ x = o) ∨ (j ≠ id ∧ σ j = some x) := fun j x hx => by
    unfold Heap.set at hx
    by_cases e : j = id
    · rw [if_pos e] at hx; cases hx; exact .inl ⟨e, rfl⟩
    · rw [if_neg e] at hx; exact .inr ⟨e, hx⟩
  have img : ∀ {b}, Img (G.bind id (W.heap.size, 0)) (σ.set id o) b → W.heap.size ≤ b ∨ Img G σ b := fun {b} ⟨j, loc, h1, h2, h3⟩ => by
    obtain ⟨x, hx⟩ := some_of_ne h1
    rcases old j x hx with ⟨rfl, rfl⟩ | ⟨hne, hx'⟩
    · rw [bind_same] at h2; cases h2; exact .inl (by omega)
    · obtain ⟨loc', l1, _⟩ := hr.obj j x hx'
      have := hE.β _ _ l1; rw [h2] at this; cases this
      exact .inr ⟨j, loc, by rw [hx']; simp, l1, h3⟩
  refine ⟨⟨fun j x hx => ?_, fun j j' l l' h1 h2 h3 h4 h5 => ?_, fun b o hs => ?_, bnd_bind hr.bnd⟩, ?_⟩
  · rcases old j x hx with ⟨rfl, rfl⟩ | ⟨hne, hx'⟩
    · exact ⟨_, bind_same _ _ _, ho, hSn⟩
    · obtain ⟨loc, l1, l2, l3⟩ := hr.obj j x hx'
      exact ⟨loc, hE.β _ _ l1, l2.mono hE (heap_alloc_old W ob (img_lt hr ⟨j, loc, by rw [hx']; simp, l1, rfl⟩)), l3⟩
  · obtain ⟨x, hx⟩ := some_of_ne h1
    obtain ⟨x', hx'⟩ := some_of_ne h2
    have lt : ∀ j x l, j ≠ id → σ j = some x → (G.bind id (W.heap.size, 0)).β j = some l → G.β j = some l ∧ l.1 < W.heap.size := fun j x l hne hx hl => by
      obtain ⟨loc, l1, _⟩ := hr.obj j x hx
      have := hE.β _ _ l1; rw [hl] at this; cases this
      exact ⟨l1, img_lt hr ⟨j, l, by rw [hx]; simp, l1, rfl⟩⟩
    rcases old j x hx with ⟨q1, _⟩ | ⟨hne, hxo⟩ <;> rcases old j' x' hx' with ⟨q2, _⟩ | ⟨hne', hxo'⟩
    · rw [q1, q2]
    · obtain ⟨_, q⟩ := lt j' x' l' hne' hxo' h4
      rw [q1, bind_same] at h3; cases h3
      simp only at h5; omega
    · obtain ⟨_, q⟩ := lt j x l hne hxo h3
      rw [q2, bind_same] at h4; cases h4
      simp only at h5; omega
    · exact hr.inj j j' l l' (by rw [hxo]; simp) (by rw [hxo']; simp) (lt j x l hne hxo h3).1 (lt j' x' l' hne' hxo' h4).1 h5
  · obtain ⟨v, hv⟩ := hr.stab b o hs
    exact ⟨v, (hE.cell b o hs).trans hv⟩
  · exact
    { os := rfl, tape := rfl, output := rfl, size := by rw [size_alloc]; omega
      keep := fun b hb _ => heap_alloc_old W ob hb
      shape := hE.shape, S := fun _ _ h => h, snew := fun _ _ h => .inl h, β := hE.β
      own := fun b hb => img hb
      fresh := fun j hj => by
        obtain ⟨x, hx⟩ := some_of_ne hj
        rcases old j x hx with ⟨rfl, rfl⟩ | ⟨hne, hx'⟩
        · exact .inr hid
        · exact .inl (by rw [hx']; simp) }

/-- An object turned in its own block. -/
theorem upd_obj (hr : HRel G W σ) {id : Nat} {o0 o : PObj} {loc : Nat × Nat} (ho0 : σ id = some o0) (hb : G.β id = some loc) (ob : Obj)
    (hshape : ∀ s, W.shape? loc.1 = some s → (W.putObj loc.1 ob).shape? loc.1 = some s) (ho : Ext G W G (W.putObj loc.1 ob) → ORel G (W.putObj loc.1 ob) loc o) :
    HRel G (W.putObj loc.1 ob) (σ.set id o) ∧ Evol G W σ G (W.putObj loc.1 ob) (σ.set id o) := by
  have hI : Img G σ loc.1 := ⟨id, loc, by rw [ho0]; simp, hb, rfl⟩
  have hlt := img_lt hr hI
  obtain ⟨loc', l1, l2, l3⟩ := hr.obj id o0 ho0
  rw [hb] at l1; cases l1
  have hE : Ext G W G (W.putObj loc.1 ob) := ⟨fun _ _ h => h, fun b o hs => World.cell_block (World.putObj_heap_other (fun e => l3 o (e ▸ hs))), fun _ _ h => h, fun b s hs => by
    by_cases e : b = loc.1
    · subst e; exact hshape s hs
    · exact (shape_block (World.putObj_heap_other e)).trans hs⟩
  have old : ∀ j x, σ.set id o j = some x → (j = id ∧ x = o) ∨ (j ≠ id ∧ σ j = some x) := fun j x hx => by
    unfold Heap.set at hx
    by_cases e : j = id
    · rw [if_pos e] at hx; cases hx; exact .inl ⟨e, rfl⟩
    · rw [if_neg e] at hx; exact .inr ⟨e, hx⟩
  have dom : ∀ j, σ.set id o j ≠ none → σ j ≠ none := fun j hj => by
    obtain ⟨x, hx⟩ := some_of_ne hj
    rcases old j x hx with ⟨rfl, rfl⟩ | ⟨_, hx'⟩
    · rw [ho0]; simp
    · rw [hx']; simp
  refine ⟨⟨fun j x hx => ?_, fun j j' l l' h1 h2 h3 h4 h5 => hr.inj j j' l l' (dom j h1) (dom j' h2) h3 h4 h5, fun b o hs => ?_, hr.bnd⟩, ?_⟩
  · rcases old j x hx with ⟨rfl, rfl⟩ | ⟨hne, hx'⟩
    · exact ⟨loc, hb, ho hE, l3⟩
    · obtain ⟨lj, m1, m2, m3⟩ := hr.obj j x hx'
      refine ⟨lj, m1, m2.mono hE (World.putObj_heap_other fun e => hne ?_), m3⟩
      exact hr.inj j id lj loc (by rw [hx']; simp) (by rw [ho0]; simp) m1 hb e
  · obtain ⟨v, hv⟩ := hr.stab b o hs
    exact ⟨v, (hE.cell b o hs).trans hv⟩
  · exact
    { os := rfl, tape := rfl, output := rfl, size := by rw [World.putObj_size]; omega
      keep := fun b _ hi => World.putObj_heap_other fun e => hi (e ▸ hI)
      shape := hE.shape, S := fun _ _ h => h, snew := fun _ _ h => .inl h, β := fun _ _ h => h
      own := fun b hb => .inr (hb.more dom)
      fresh := fun j hj => .inl (dom j hj) }

/-! ### box, alloc -/
theorem orel_new {cs : List PV} {arr : Array Value} {e : TypeId} {id : Nat} (hr : HRel G W σ) (hid : G.β id = none) (h : RelL G W cs arr) : ORel (G.bind id (W.heap.size, 0)) (W.alloc (.cells arr e)) (W.heap.size, 0) (.cells cs) :=
  ⟨arr, e, heap_alloc_new W _, by simp [h.1], fun j hj => by rw [Nat.zero_add]; exact (h.2 j hj).mono (ext_alloc hr hid _ _)⟩

theorem gop_new {o : Oper} {K : Out → Heap → Prop} (hd : ∀ c, o.op ≠ .defer c)
    (h : ∀ (G : Gh) (W : World) (A : Act), HRel G W σ → TRel G W n fr A.tmps → ∃ (cs : List PV) (arr : Array Value) (e : TypeId) (v : Value) (V : Nat → PV), (execOp A.eval o).run P W = .ok (.value v) (W.alloc (.cells arr e)) ∧ RelL G W cs arr ∧
      (∀ id, σ id = none → K (.val (V id)) (σ.set id (.cells cs))) ∧ ∀ id G', G'.β id = some (W.heap.size, 0) → VRel G' (W.alloc (.cells arr e)) (V id) v) : gop P rd n o fr σ K := by
  intro G W A r m _ h2 h3 next Q hn _
  obtain ⟨cs, arr, e, v, V, e1, e2, e3, e4⟩ := h G W A h2 h3
  obtain ⟨id, f1, f2⟩ := fresh_id h2
  obtain ⟨k1, k2⟩ := new_obj h2 f1 (.cells arr e) (.cells cs) (orel_new h2 f1 e2)
  exact wpIn_value hd e1 (hn _ _ _ _ v (e3 id f2) k2 k1 (e4 id _ (bind_same _ _ _)))

theorem gop_box {o : Oper} {t : TypeId} {x : Operand} {K : Out → Heap → Prop} (ho : o.op = .box t x) (ha : avt (opv fr x)) (hc : isCell (sv (opv fr x)) = true)
    (h : ∀ id, σ id = none → K (.val (.ptr id 0)) (σ.set id (.cells (cellsP (sv (opv fr x)))))) : gop P rd n o fr σ K :=
  gop_new (fun c hd => by rw [ho] at hd; cases hd) fun G W A h2 h3 => by
    have hv := cells_rel (sv_rel (opv_rel h3 x) ha) hc
    refine ⟨_, _, t, .pointer (some ⟨W.heap.size, 0, none⟩), fun id => .ptr id 0, ?_, hv, h, fun id G' hb => .ptr id 0 W.heap.size 0 hb⟩
    simp [execOp, ho, Instr.box, newVar, newRow]

theorem gop_alloc {o : Oper} {t : TypeId} {zs : List PV} {K : Out → Heap → Prop} (ho : o.op = .alloc t) (hz : zeroP P t = some zs)
    (h : ∀ id, σ id = none → K (.val (.ptr id 0)) (σ.set id (.cells zs))) : gop P rd n o fr σ K :=
  gop_new (fun c hd => by rw [ho] at hd; cases hd) fun G W A h2 h3 => by
    obtain ⟨v, z1, z2, _⟩ := zeroP_run (P := P) (W := W) (G := G) hz
    refine ⟨_, _, t, .pointer (some ⟨W.heap.size, 0, none⟩), fun id => .ptr id 0, ?_, z2, h, fun id G' hb => .ptr id 0 W.heap.size 0 hb⟩
    simp [execOp, ho, Instr.alloc, newVar, newRow, Sem.run_bind, z1]

/-! ### store -/
/-- One cell, for sure. -/
def isCell1 : PV → Bool
  | .agg _ => false
  | v => isCell v
theorem isCell1_one {p : PV} {v : Value} (h : VRel G W p v) (hc : isCell1 p = true) : v.oneCell' = true := by
  cases h with
  | lit v => cases v <;> first | rfl | (simp [isCell1, isCell] at hc)
  | any v => simp [isCell1, isCell] at hc
  | agg cs vs h1 h2 => simp [isCell1] at hc
  | tup cs vs h1 h2 => simp [isCell1, isCell] at hc
  | gd g q v h1 h2 => simp [isCell1, isCell] at hc
  | _ => rfl

theorem setCell_put {R : Nat} {arr : Array Value} {e : TypeId} {fz : Nat × Nat} (h : W.heap[R]? = some (.cells arr e fz)) (o : Nat) (v : Value) :
    W.setCell ⟨R, o, none⟩ v = W.putObj R (.cells (arr.setIfInBounds o v) e fz) := by
  unfold World.setCell World.putObj
  congr 1
  obtain ⟨hlt, hg⟩ := Array.getElem?_eq_some_iff.1 h
  apply Array.ext_getElem?
  intro i
  rw [Array.getElem?_modify, Array.getElem?_setIfInBounds]
  by_cases e : R = i
  · subst e; simp [hlt, hg]
  · simp [e]

theorem putObj_put (W : World) (R : Nat) (a b : Obj) : (W.putObj R a).putObj R b = W.putObj R b := by
  unfold World.putObj
  congr 1
  simp
theorem putObj_same {R : Nat} {a : Obj} (h : W.heap[R]? = some a) : W.putObj R a = W := by
  unfold World.putObj
  obtain ⟨hlt, hg⟩ := Array.getElem?_eq_some_iff.1 h
  have : W.heap.setIfInBounds R a = W.heap := by
    apply Array.ext_getElem?
    intro i
    rw [Array.getElem?_setIfInBounds]
    by_cases e : R = i
    · subst e; simp [hlt, hg]
    · simp [e]
  rw [this]

theorem storeCells_run {R e : Nat} : ∀ (vs : List Value) (arr : Array Value) (W : World) (off i : Nat), W.heap[R]? = some (.cells arr e (0, 0)) → off + i + vs.length ≤ arr.size → (∀ v ∈ vs, v.oneCell' = true) →
    (storeCells ⟨R, off, none⟩ vs i).run P W = .ok () (W.putObj R (.cells ((vs.zipIdx i).foldl (fun cs (x : Value × Nat) => cs.setIfInBounds (off + x.2) x.1) arr) e (0, 0))) := by
  intro vs
  induction vs with
  | nil => intro arr W off i h _ _; simp [storeCells, putObj_same h]
  | cons v vs ih =>
    intro arr W off i h hl hv
    have hlt : off + i < arr.size := by simp at hl; omega
    have hc : W.cell? ⟨R, off + i, none⟩ = some arr[off + i] := by simp [World.cell?, h, hlt]
    have hf : W.frozen? ⟨R, off + i, none⟩ = false := by simp [World.frozen?, h]
    have h1 : (Go.store ((⟨R, off, none⟩ : Addr).add i) v).run P W = .ok () (W.putObj R (.cells (arr.setIfInBounds (off + i) v) e (0, 0))) := by
      rw [add_cell, run_store P W _ v _ (hv v (List.mem_cons_self ..)), hc]
      simp [hf, setCell_put h]
    simp only [storeCells, Sem.run_bind, h1, Result.andThen_ok]
    rw [ih (arr.setIfInBounds (off + i) v) _ off (i + 1) (World.putObj_heap_same (lt_of_heap h)) (by simp at hl ⊢; omega) (fun x hx => hv x (List.mem_cons_of_mem _ hx)), putObj_put]
    rfl

/-- What a store leaves. -/
def storeP (P : Program) (σ : Heap) (t : TypeId) (a x : PV) (C : Heap → Prop) : Prop :=
  match a, inf P t with
  | .ptr id off, some (sz, _) => match σ id with
    | some (.cells cs) => (cellsP x).length = sz ∧ isCell x = true ∧ (∀ c ∈ cellsP x, isCell1 c = true) ∧ off + sz ≤ cs.length ∧ C (σ.set id (.cells (setR cs off (cellsP x))))
    | _ => False
  | _, _ => False

theorem gop_store {o : Oper} {t : TypeId} {a x : Operand} {K : Out → Heap → Prop} (ho : o.op = .store t a x) (ha : avt (opv fr a)) (hx : avt (opv fr x))
    (h : storeP P σ t (sv (opv fr a)) (sv (opv fr x)) fun σ' => K (.val (.lit undef)) σ') : gop P rd n o fr σ K := by
  intro G W A r m _ h2 h3 next Q hn _
  have va := sv_rel (opv_rel h3 a) ha
  have vx := sv_rel (opv_rel h3 x) hx
  generalize hav : A.eval a = av at va
  generalize hxv : A.eval x = xv at vx
  unfold storeP at h
  split at h
  · rename_i id off sz ag e1 hi
    rw [e1] at va
    split at h
    · rename_i cs hs
      obtain ⟨c1, c2, c3, c4, hK⟩ := h
      cases va with
      | ptr _ _ R δ hb =>
      obtain ⟨loc, l1, l2, l3⟩ := h2.obj id _ hs
      rw [hb] at l1; cases l1
      obtain ⟨arr, e, g1, g2, g3⟩ := l2
      simp only at g1 g2 g3
      have hcr := cells_rel vx c2
      have hone : ∀ v ∈ xv.cells.toList, v.oneCell' = true := fun v hv => by
        obtain ⟨i, hi', hv'⟩ := List.getElem_of_mem hv
        have hlen : i < (cellsP (sv (opv fr x))).length := by rw [← hcr.1]; simpa using hi'
        have hrel := hcr.2 i hlen
        have e1 : (xv.cells).getD i undef = v := by
          have : i < xv.cells.size := by simpa using hi'
          simp [this]; simpa using hv'
        rw [e1] at hrel
        refine isCell1_one hrel (c3 _ ?_)
        simp [List.getD, hlen]
      have hsz : xv.cells.size = sz := by rw [hcr.1]; exact c1
      obtain ⟨arr', harr⟩ : ∃ arr', arr' = (xv.cells.toList.zipIdx 0).foldl (fun cs (x : Value × Nat) => cs.setIfInBounds (δ + off + x.2) x.1) arr := ⟨_, rfl⟩
      obtain ⟨f1, f2⟩ := foldSet (δ + off) xv.cells.toList 0 arr
      rw [← harr] at f1
      have hrun : (execOp A.eval o).run P W = .ok .skip (W.putObj R (.cells arr' e (0, 0))) := by
        have hst := storeCells_run (P := P) xv.cells.toList arr W (δ + off) 0 g1 (by rw [Array.length_toList, hsz]; omega) hone
        rw [harr]
        simp only [execOp, ho, hav, hxv, Instr.storeAt, Instr.sureAddr, storeVar, Sem.run_bind, Sem.run_pure, Result.andThen_ok, inf_size hi]
        rw [Sem.run_ite, if_neg (by simp [hsz])]
        simp only [hst, Result.andThen_ok]
      have hshape : ∀ s, W.shape? R = some s → (W.putObj R (.cells arr' e (0, 0))).shape? R = some s := fun s hs' => by
        unfold World.shape? at hs' ⊢
        rw [World.putObj_heap_same (lt_of_heap g1)]
        rw [g1] at hs'
        simpa [f1] using hs'
      obtain ⟨k1, k2⟩ := upd_obj h2 hs hb _ hshape (o := .cells (setR cs off (cellsP (sv (opv fr x))))) fun hE => by
        have hfit : off + (cellsP (sv (opv fr x))).length ≤ cs.length := by omega
        refine ⟨arr', e, World.putObj_heap_same (lt_of_heap g1), ?_, fun j hj => ?_⟩
        · rw [setR_length hfit, f1]; exact g2
        · rw [setR_length hfit] at hj
          have f3 := f2 (δ + j) (by rw [Array.length_toList]; omega)
          rw [← harr] at f3
          simp only [Nat.add_zero, Array.length_toList, hsz] at f3
          rw [setR_getD hfit, f3]
          by_cases hin : off ≤ j ∧ j < off + (cellsP (sv (opv fr x))).length
          · rw [if_pos hin, if_pos (by omega)]
            have h1 := (hcr.2 (j - off) (by omega)).mono hE
            have e3 : xv.cells.toList.getD (δ + j - (δ + off)) undef = xv.cells.getD (j - off) undef := by
              rw [show δ + j - (δ + off) = j - off by omega, List.getD, Array.getElem?_toList, Array.getD_eq_getD_getElem?]
            rw [e3]; exact h1
          · rw [if_neg hin, if_neg (by omega)]
            exact (g3 j hj).mono hE
      exact wpIn_skipped (fun c hd => by rw [ho] at hd; cases hd) hrun (hn _ _ _ _ _ hK k2 k1 (.lit _))
    · exact h.elim
  · exact h.elim

/-! ### make -/
def elemB (P : Program) (t : TypeId) : Option (Nat × List PV) :=
  match P.underlying t with
  | some (.slice e) => match P.info? e, zeroP P e with
    | some i, some zs => if zs.length = i.size then some (i.bytes, zs) else none
    | _, _ => none
  | _ => none

theorem elemB_some {t : TypeId} {b : Nat} {zs : List PV} (h : elemB P t = some (b, zs)) : ∃ e i, P.underlying t = some (.slice e) ∧ P.info? e = some i ∧ i.bytes = b ∧ zeroP P e = some zs ∧ zs.length = i.size := by
  unfold elemB at h
  split at h
  · rename_i e ht
    split at h
    · rename_i i zs' hi hz
      split at h
      · rename_i hl
        simp at h
        obtain ⟨rfl, rfl⟩ := h
        exact ⟨e, i, ht, hi, rfl, hz, hl⟩
      · cases h
    · cases h
  · cases h

def replP (m : Nat) (zs : List PV) : List PV := (List.replicate m zs).flatten
def makeP (P : Program) (σ : Heap) (t : TypeId) (l c : PV) (C : PV → Heap → Prop) : Prop :=
  match elemB P t, l, c with
  | some (b, zs), .lit (.int .i64 x), .lit (.int .i64 y) => 0 ≤ x ∧ x ≤ y ∧ y ≤ 4294967296 ∧ b ≤ 65536 ∧ zs ≠ [] ∧
      ∀ id, σ id = none → C (.msl id zs.length 0 x.toNat (decide (x = y))) (σ.set id (.cells (replP y.toNat zs)))
  | _, _, _ => False

theorem flatten_replicate_getD (zs : List PV) (hz : zs ≠ []) : ∀ (m j : Nat), j < m * zs.length → ((List.replicate m zs).flatten).getD j .any = zs.getD (j % zs.length) .any := by
  have hpos : 0 < zs.length := List.length_pos_iff.2 hz
  intro m
  induction m with
  | zero => intro j hj; omega
  | succ m ih =>
    intro j hj
    rw [List.replicate_succ, List.flatten_cons]
    simp only [List.getD] at ih ⊢
    rcases Nat.lt_or_ge j zs.length with h | h
    · rw [List.getElem?_append_left h, Nat.mod_eq_of_lt h]
    · rw [List.getElem?_append_right h, ih (j - zs.length) (by rw [Nat.add_mul] at hj; omega), ← Nat.mod_eq_sub_mod h]

theorem gop_make {o : Oper} {t : TypeId} {l c : Operand} {K : Out → Heap → Prop} (ho : o.op = .makeSlice t l c) (hl : avt (opv fr l)) (hc : avt (opv fr c))
    (h : makeP P σ t (sv (opv fr l)) (sv (opv fr c)) fun V σ' => K (.val V) σ') : gop P rd n o fr σ K := by
  unfold makeP at h
  split at h
  · rename_i b zs x y e1 e2 e3
    obtain ⟨h0, h1, h2, h3, h4, hK⟩ := h
    unfold replP at hK
    obtain ⟨e, i, ht, hi, rfl, hz, hlen⟩ := elemB_some e1
    refine gop_new (fun c hd => by rw [ho] at hd; cases hd) fun G W A g2 g3 => ?_
    have vl := lit_inv (by have := sv_rel (opv_rel g3 l) hl; rwa [e2] at this)
    have vc := lit_inv (by have := sv_rel (opv_rel g3 c) hc; rwa [e3] at this)
    obtain ⟨v, z1, z2, z3⟩ := zeroP_run (P := P) (W := W) (G := G) hz
    have hpos : 0 < zs.length := List.length_pos_iff.2 h4
    have hvs : v.cells.size = zs.length := z2.1
    have wl : IntKind.i64.wrap x = x := IntWalk.i64_in x ⟨by omega, by omega⟩
    have wc : IntKind.i64.wrap y = y := IntWalk.i64_in y ⟨by omega, by omega⟩
    have hb : (i.bytes : Int) * y ≤ 281474976710656 := by
      calc (i.bytes : Int) * y ≤ 65536 * 4294967296 := Int.mul_le_mul (by omega) h2 (by omega) (by omega)
        _ = 281474976710656 := by decide
    obtain ⟨zero, hzero⟩ : ∃ zero : Array Value, zero = if y.toNat * i.size = 0 then #[] else v.cells := ⟨_, rfl⟩
    refine ⟨(List.replicate y.toNat zs).flatten, (Array.range (y.toNat * i.size)).map (zero[· % zero.size]!), e, .slice (some ⟨W.heap.size, 0, none⟩) x.toNat y.toNat, fun id => .msl id zs.length 0 x.toNat (decide (x = y)), ?_, ?_, hK, ?_⟩
    · simp only [execOp, ho, vl, vc, Instr.makeSlice, Sem.run_bind, run_underlying ht, Result.andThen_ok, asInt, asIntOf, Sem.run_pure, typeInfo, run_program, hi]
      rw [Sem.run_ite, if_neg]
      · simp only [Sem.run_bind, run_askRoom, Result.andThen_ok, sizeOf, typeInfo, run_program, hi, Sem.run_pure, wl, wc]
        rw [Sem.run_ite]
        by_cases hz0 : y.toNat * i.size = 0
        · rw [if_pos hz0] at hzero ⊢
          subst hzero
          simp [newRow, hz0]
        · rw [if_neg hz0] at hzero ⊢
          subst hzero
          simp [newRow, z1]
      · simp only [wl, wc]
        simp only [Bool.or_eq_true, decide_eq_true_eq, not_or]
        refine ⟨⟨⟨by omega, ?_⟩, by omega⟩, by omega⟩
        have : (2 : Int) ^ 48 = 281474976710656 := by decide
        omega
    · refine ⟨by simp [hlen, List.length_flatten], fun j hj => ?_⟩
      have hj' : j < y.toNat * zs.length := by simpa [List.length_flatten] using hj
      rw [flatten_replicate_getD zs h4 _ _ hj']
      have hne : y.toNat * i.size ≠ 0 := by rw [← hlen]; omega
      rw [if_neg hne] at hzero
      subst hzero
      have hjr : j < y.toNat * i.size := by rw [← hlen]; exact hj'
      have hm : j % zs.length < v.cells.size := by rw [hvs]; exact Nat.mod_lt _ hpos
      have e4 : ((Array.range (y.toNat * i.size)).map (v.cells[· % v.cells.size]!)).getD j undef = v.cells.getD (j % zs.length) undef := by
        rw [Array.getD_eq_getD_getElem?, Array.getElem?_map, Array.getElem?_range]
        simp only [hjr, if_true, Option.map_some, Option.getD_some]
        have hm' : j % v.cells.size < v.cells.size := by rw [hvs] at hm ⊢; exact hm
        rw [getElem!_pos v.cells _ hm', show j % zs.length = j % v.cells.size by rw [hvs]]
        simp [hm']
      rw [e4]
      exact z2.2 _ (Nat.mod_lt _ hpos)
    · intro id G' hb'
      refine .msl id zs.length 0 x.toNat y.toNat W.heap.size 0 _ _ _ _ e hb' (by omega) (by unfold maxLen; omega) (fun hf => by simp at hf; omega) (fun _ => ⟨rfl, rfl⟩) (by unfold World.shape?; rw [heap_alloc_new]) (fun _ => ?_)
      simp [hlen]
  · exact h.elim

/-! ### append -/
/-- An object turned in its own block, under a new name. -/
theorem move_obj (hr : HRel G W σ) {id0 id : Nat} {o0 o : PObj} {R δ δ' : Nat} (ho0 : σ id0 = some o0) (hb : G.β id0 = some (R, δ)) (hid : G.β id = none) (ob : Obj)
    (hshape : ∀ s, W.shape? R = some s → (W.putObj R ob).shape? R = some s) (ho : Ext G W (G.bind id (R, δ')) (W.putObj R ob) → ORel (G.bind id (R, δ')) (W.putObj R ob) (R, δ') o) :
    HRel (G.bind id (R, δ')) (W.putObj R ob) ((σ.del id0).set id o) ∧ Evol G W σ (G.bind id (R, δ')) (W.putObj R ob) ((σ.del id0).set id o) := by
  have hI : Img G σ R := ⟨id0, (R, δ), by rw [ho0]; simp, hb, rfl⟩
  have hlt := img_lt hr hI
  obtain ⟨loc', l1, l2, l3⟩ := hr.obj id0 o0 ho0
  rw [hb] at l1; cases l1
  simp only at l3
  have hE : Ext G W (G.bind id (R, δ')) (W.putObj R ob) := ⟨fun _ _ h => h, fun b o hs => World.cell_block (World.putObj_heap_other (fun e => l3 o (e ▸ hs))), bind_ext hid, fun b s hs => by
    by_cases e : b = R
    · subst e; exact hshape s hs
    · exact (shape_block (World.putObj_heap_other e)).trans hs⟩
  have old : ∀ j x, (σ.del id0).set id o j = some x → (j = id ∧ x = o) ∨ (j ≠ id ∧ j ≠ id0 ∧ σ j = some x) := fun j x hx => by
    unfold Heap.set Heap.del at hx
    by_cases e : j = id
    · rw [if_pos e] at hx; cases hx; exact .inl ⟨e, rfl⟩
    · rw [if_neg e] at hx
      by_cases e0 : j = id0
      · rw [if_pos e0] at hx; cases hx
      · rw [if_neg e0] at hx; exact .inr ⟨e, e0, hx⟩
  have rest : ∀ j x l, j ≠ id → j ≠ id0 → σ j = some x → (G.bind id (R, δ')).β j = some l → G.β j = some l ∧ l.1 ≠ R := fun j x l h1 h0 hx hl => by
    obtain ⟨loc, m1, _⟩ := hr.obj j x hx
    have := hE.β _ _ m1; rw [hl] at this; cases this
    exact ⟨m1, fun e => h0 (hr.inj j id0 l (R, δ) (by rw [hx]; simp) (by rw [ho0]; simp) m1 hb e)⟩
  refine ⟨⟨fun j x hx => ?_, fun j j' l l' h1 h2 h3 h4 h5 => ?_, fun b o hs => ?_, bnd_bind hr.bnd⟩, ?_⟩
  · rcases old j x hx with ⟨rfl, rfl⟩ | ⟨hne, hne0, hx'⟩
    · exact ⟨_, bind_same _ _ _, ho hE, l3⟩
    · obtain ⟨loc, m1, m2, m3⟩ := hr.obj j x hx'
      have := (rest j x loc hne hne0 hx' (hE.β _ _ m1)).2
      exact ⟨loc, hE.β _ _ m1, m2.mono hE (World.putObj_heap_other this), m3⟩
  · obtain ⟨x, hx⟩ := some_of_ne h1
    obtain ⟨x', hx'⟩ := some_of_ne h2
    rcases old j x hx with ⟨q1, _⟩ | ⟨hne, hne0, hxo⟩ <;> rcases old j' x' hx' with ⟨q2, _⟩ | ⟨hne', hne0', hxo'⟩
    · rw [q1, q2]
    · obtain ⟨_, q⟩ := rest j' x' l' hne' hne0' hxo' h4
      rw [q1, bind_same] at h3; cases h3
      exact absurd h5.symm q
    · obtain ⟨_, q⟩ := rest j x l hne hne0 hxo h3
      rw [q2, bind_same] at h4; cases h4
      exact absurd h5 q
    · exact hr.inj j j' l l' (by rw [hxo]; simp) (by rw [hxo']; simp) (rest j x l hne hne0 hxo h3).1 (rest j' x' l' hne' hne0' hxo' h4).1 h5
  · obtain ⟨v, hv⟩ := hr.stab b o hs
    exact ⟨v, (hE.cell b o hs).trans hv⟩
  · exact
    { os := rfl, tape := rfl, output := rfl, size := by rw [World.putObj_size]; omega
      keep := fun b _ hi => World.putObj_heap_other fun e => hi (e ▸ hI)
      shape := hE.shape, S := fun _ _ h => h, snew := fun _ _ h => .inl h, β := hE.β
      own := fun b ⟨j, loc, h1, h2, h3⟩ => by
        obtain ⟨x, hx⟩ := some_of_ne h1
        rcases old j x hx with ⟨rfl, _⟩ | ⟨hne, hne0, hx'⟩
        · rw [bind_same] at h2; cases h2; exact .inr (h3 ▸ hI)
        · exact .inr ⟨j, loc, by rw [hx']; simp, (rest j x loc hne hne0 hx' h2).1, h3⟩
      fresh := fun j hj => by
        obtain ⟨x, hx⟩ := some_of_ne hj
        rcases old j x hx with ⟨rfl, _⟩ | ⟨hne, hne0, hx'⟩
        · exact .inr hid
        · exact .inl (by rw [hx']; simp) }

/-- What is appended. -/
structure YV where
  D : Prop
  n : Nat
  cs : List PV
def yv (σ : Heap) (sz : Nat) (y : PV) : YV :=
  match y with
  | .slice _ rows => ⟨∀ r ∈ rows, r.length = sz, rows.length, rows.flatten⟩
  | .lit (.slice none 0 0) => ⟨True, 0, []⟩
  | .msl id k off len _ => match σ id with
    | some (.cells cs) => ⟨k = sz ∧ off + len * k ≤ cs.length, len, (cs.drop off).take (len * k)⟩
    | _ => ⟨False, 0, []⟩
  | _ => ⟨False, 0, []⟩

theorem flatten_getD {k : Nat} : ∀ {rows : List (List PV)}, (∀ r ∈ rows, r.length = k) → rows.flatten.length = rows.length * k ∧ ∀ i j, i < rows.length → j < k → rows.flatten.getD (i * k + j) .any = (rows.getD i []).getD j .any := by
  intro rows
  induction rows with
  | nil => intro _; exact ⟨by simp, fun i j hi => absurd hi (Nat.not_lt_zero _)⟩
  | cons r rows ih =>
    intro h
    obtain ⟨h1, h2⟩ := ih (fun x hx => h x (List.mem_cons_of_mem _ hx))
    have hr := h r (List.mem_cons_self ..)
    refine ⟨by rw [List.flatten_cons, List.length_append, h1, hr, List.length_cons, Nat.add_mul]; omega, fun i j hi hj => ?_⟩
    cases i with
    | zero => simp [List.getD, List.getElem?_append_left (show j < r.length by omega)]
    | succ i =>
      have := h2 i j (by simpa using hi) hj
      rw [← List.getD_cons_succ (x := r)] at this
      rw [List.getD_cons_succ] at this ⊢
      rw [← this, List.flatten_cons]
      simp only [List.getD]
      rw [List.getElem?_append_right (by rw [hr, Nat.add_mul]; omega), hr]
      congr 2
      rw [Nat.add_mul]; omega

theorem row_split {m k j : Nat} (hj : j < m * k) : ∃ i r, j = i * k + r ∧ i < m ∧ r < k := by
  have hk : 0 < k := by
    rcases Nat.eq_zero_or_pos k with h | h
    · subst h; simp at hj
    · exact h
  refine ⟨j / k, j % k, by rw [Nat.mul_comm]; exact (Nat.div_add_mod j k).symm, (Nat.div_lt_iff_lt_mul hk).2 hj, Nat.mod_lt _ hk⟩

/-- The real cells behind a slice. -/
theorem slice_cells (hr : HRel G W σ) {sz : Nat} {y : PV} {w : Value} (hv : VRel G W y w) (h : (yv σ sz y).D) :
    (yv σ sz y).cs.length = (yv σ sz y).n * sz ∧ (Builtin.lenOf w).run P W = .ok (yv σ sz y).n W ∧
    ∃ cv : Nat → Value, (Builtin.firstCells sz (yv σ sz y).n w).run P W = .ok ((List.range ((yv σ sz y).n * sz)).map cv).toArray W ∧ ∀ j, j < (yv σ sz y).n * sz → VRel G W ((yv σ sz y).cs.getD j .any) (cv j) := by
  have run : ∀ (b off m cap : Nat) (cv : Nat → Value), (∀ j, j < m * sz → W.cell? ⟨b, off + j, none⟩ = some (cv j)) → (Builtin.firstCells sz m (.slice (some ⟨b, off, none⟩) m cap)).run P W = .ok ((List.range (m * sz)).map cv).toArray W := fun b off m cap cv hc => by
    simp only [Builtin.firstCells, loadCells]
    rw [loadCells_run cv (m * sz) 0 #[] (fun j hj => by simpa using hc j hj)]
    simp
  unfold yv at h ⊢
  split at h
  · rename_i full rows
    have h : ∀ r ∈ rows, r.length = sz := h
    obtain ⟨f1, f2⟩ := flatten_getD h
    cases hv with
    | nilsl _ base cap _ => exact ⟨f1, rfl, fun _ => undef, by cases base <;> simp [Builtin.firstCells, loadCells, loadCellsFrom], by simp⟩
    | slice _ _ b off len cap k cv h1 h2 h3 h4 h5 h6 h7 =>
    subst h1
    have hk : 0 < rows.length → k = sz := fun hp => by
      have e1 := h5 0 hp
      have e2 := h (rows[0]) (List.getElem_mem hp)
      simp [List.getD, hp] at e1
      omega
    refine ⟨f1, rfl, cv, run b off _ cap cv (fun j hj => ?_), fun j hj => ?_⟩
    · have hp : 0 < rows.length := by
        rcases Nat.eq_zero_or_pos rows.length with e | e
        · rw [e] at hj; simp at hj
        · exact e
      rw [← hk hp] at hj; exact (h6 j hj).2
    · have hj : j < rows.length * sz := hj
      obtain ⟨i, r, rfl, hi, hr'⟩ := row_split hj
      simp only
      rw [f2 i r hi hr']
      have := h7 i r hi (by rw [hk (by omega)]; exact hr')
      rwa [hk (by omega)] at this
  · cases hv
    exact ⟨by simp, rfl, fun _ => undef, by simp [Builtin.firstCells], by simp⟩
  · rename_i id k off len full
    split at h
    · rename_i cs ho
      obtain ⟨rfl, h2⟩ := h
      obtain ⟨loc, l1, l2, _⟩ := hr.obj id _ ho
      obtain ⟨cv, hc⟩ := l2.cell
      cases hv with
      | msl _ _ _ _ cap R δ n b off' _ e' g1 g2 g3 g4 g5 g6 g7 =>
      rw [g1] at l1; cases l1
      simp only at hc
      refine ⟨by simp; omega, rfl, fun j => cv (off + j), ?_, fun j hj => ?_⟩
      · rcases Nat.eq_zero_or_pos len with e | e
        · subst e
          have := run b off' 0 cap (fun j => cv (off + j)) (by simp)
          simpa using this
        · obtain ⟨rfl, rfl⟩ := g5 (by omega)
          exact run _ _ len cap _ (fun j hj => by rw [Nat.add_assoc]; exact (hc (off + j) (by omega)).1)
      · have hj : j < len * k := hj
        simp only
        rw [getD_take _ _ _ hj, getD_drop]; exact (hc (off + j) (by omega)).2
    · exact h.elim
  · exact h.elim

theorem growBy_le (L : Nat) : ∀ (r c : Nat), Builtin.growBy L r c ≤ max c (L + (L + 768) / 4) := by
  intro r
  induction r with
  | zero => intro c; simp only [Builtin.growBy]; omega
  | succ r ih =>
    intro c
    simp only [Builtin.growBy]
    split
    · omega
    · have := ih (c + (c + 768) / 4); omega
theorem nextcap_le {need cap : Nat} (h : cap < need) : Builtin.nextslicecap need cap ≤ 2 * need + 1000 := by
  unfold Builtin.nextslicecap
  have := growBy_le need 4 cap
  split
  · omega
  · split
    · omega
    · omega

def isSliceT (P : Program) (t : TypeId) : Bool :=
  match P.underlying t with
  | some (.slice _) => true
  | _ => false
theorem isSliceT_some {t : TypeId} (h : isSliceT P t = true) : ∃ e, P.underlying t = some (.slice e) := by
  unfold isSliceT at h
  split at h
  · rename_i e he; exact ⟨e, he⟩
  · cases h

section app
variable {t t2 e ty : TypeId} {ts : Array TypeId} {i : TypeInfo} {zs : List PV} {w : Value} {m : Nat}

/-- There is room. -/
theorem app_room {a : Addr} {sLen sCap : Nat} {new : Array Value} {W' : World} (h0 : ts[0]? = some t) (h1 : ts[1]? = some t2) (hni : isSliceT P t2 = true) (ht : P.underlying t = some (.slice e)) (hi : P.info? e = some i)
    (hl : (Builtin.lenOf w).run P W = .ok m W) (hc : (Builtin.firstCells i.size m w).run P W = .ok new W) (hroom : sLen + m ≤ sCap) (hst : (storeCells (a.add (sLen * i.size)) new.toList).run P W = .ok () W') :
    (Builtin.append_ ts ty #[.slice (some a) sLen sCap, w]).run P W = .ok (.slice (some a) (sLen + m) sCap) W' := by
  obtain ⟨e2, hd⟩ := isSliceT_some hni
  have hsz : (sizeOf e).run P W = .ok i.size W := by simp [sizeOf, typeInfo, hi]
  unfold Builtin.append_
  simp only [h0, h1, List.getElem?_toArray, List.getElem?_cons_zero, List.getElem?_cons_succ, Sem.run_bind, run_underlying ht, run_underlying hd, Result.andThen_ok, hsz, Sem.run_pure, Bool.false_eq_true, if_false, hl, hroom, if_true, Bool.not_false, hc, hst]

/-- It must grow. -/
theorem app_grow {base : Option Addr} {sLen sCap : Nat} {old new : Array Value} (h0 : ts[0]? = some t) (h1 : ts[1]? = some t2) (hni : isSliceT P t2 = true) (ht : P.underlying t = some (.slice e)) (hi : P.info? e = some i)
    (hz0 : zeroP P e = some zs) (hl : (Builtin.lenOf w).run P W = .ok m W) (hroom : sCap < sLen + m) (hmax : sLen + m ≤ 4294967296) (hb : i.bytes ≤ 4096)
    (o1 : (Builtin.firstCells i.size sLen (.slice base sLen sCap)).run P W.drew = .ok old W.drew)
    (n1 : (Builtin.firstCells i.size m w).run P W.drew = .ok new W.drew) :
    ∃ (newCap : Nat) (rest : Array Value), sLen + m ≤ newCap ∧ rest.size = (newCap - (sLen + m)) * zs.length ∧
      (Builtin.append_ ts ty #[.slice base sLen sCap, w]).run P W = .ok (.slice (some ⟨W.heap.size, 0, none⟩) (sLen + m) newCap) (W.drew.alloc (.cells (old ++ new ++ rest) e)) := by
  obtain ⟨e2, hd⟩ := isSliceT_some hni
  have hsz : ∀ W : World, (sizeOf e).run P W = .ok i.size W := fun W => by simp [sizeOf, typeInfo, hi]
  have hti : ∀ W : World, (typeInfo e).run P W = .ok i W := fun W => by simp [typeInfo, hi]
  obtain ⟨v, z1, z2, z3⟩ := zeroP_run (P := P) (W := W.drew) (G := ⟨fun _ _ => False, fun _ => none⟩) hz0
  have hcap := nextcap_le hroom
  have hbig : ¬ (Builtin.nextslicecap (sLen + m) sCap * i.bytes > 2 ^ 48) := by
    have : Builtin.nextslicecap (sLen + m) sCap * i.bytes ≤ (2 * 4294967296 + 1000) * 4096 := Nat.mul_le_mul (by omega) hb
    have h2 : (2 : Nat) ^ 48 = 281474976710656 := by decide
    omega
  have hi64 : ¬ (((sLen + m : Nat) : Int) > IntKind.i64.max ∧ (False ∨ i.bytes = 0)) := by
    intro ⟨hx, _⟩
    have : IntKind.i64.max = 9223372036854775807 := by decide
    omega
  refine ⟨sLen + m + W.tape W.drawn (.appendCap (sLen + m) sCap e) % (2 ^ 63 - (sLen + m)), Builtin.zeroCells v.cells (sLen + m + W.tape W.drawn (.appendCap (sLen + m) sCap e) % (2 ^ 63 - (sLen + m)) - (sLen + m)), by omega, ?_, ?_⟩
  · rw [← z2.1]; simp [Builtin.zeroCells]
  · unfold Builtin.append_
    simp only [h0, h1, List.getElem?_toArray, List.getElem?_cons_zero, List.getElem?_cons_succ, Sem.run_bind, run_underlying ht, run_underlying hd, Result.andThen_ok, hsz, Sem.run_pure, Bool.false_eq_true, if_false, hl]
    rw [if_neg (by omega)]
    simp only [Sem.run_bind, hti, Result.andThen_ok]
    rw [Sem.run_ite, if_neg (by simpa using hi64)]
    simp only [Sem.run_bind, hti, Result.andThen_ok]
    rw [Sem.run_ite, if_neg hbig]
    simp only [Sem.run_bind, run_choose_drew, Question.forced, Bool.false_eq_true, if_false, Result.andThen_ok, Question.cut, hti, run_askRoom, o1, Bool.not_false, if_true, n1, z1, newRow, run_newObj_alloc, Sem.run_pure]
    rfl
end app

def appendP (P : Program) (σ : Heap) (t t2 : TypeId) (x y : PV) (C : PV → Heap → Prop) : Prop :=
  match elemB P t with
  | some (b, zs) => isSliceT P t2 = true ∧ b ≤ 4096 ∧ zs ≠ [] ∧ (yv σ zs.length y).D ∧ (yv σ zs.length x).D ∧ (yv σ zs.length x).n + (yv σ zs.length y).n ≤ 4294967296 ∧
    match x with
    | .msl id0 _ off len false => (match σ id0 with | some (.cells cs) => off + len * zs.length = cs.length | _ => False) ∧ (∀ c ∈ (yv σ zs.length y).cs, isCell1 c = true) ∧
        ∀ id, σ id = none → C (.msl id zs.length 0 (len + (yv σ zs.length y).n) false) ((σ.del id0).set id (.cells ((yv σ zs.length x).cs ++ (yv σ zs.length y).cs)))
    | .lit (.slice none 0 0) | .slice true _ | .msl _ _ _ _ true => ((yv σ zs.length y).n = 0 → C x σ) ∧
        ((yv σ zs.length y).n ≠ 0 → ∀ id, σ id = none → C (.msl id zs.length 0 ((yv σ zs.length x).n + (yv σ zs.length y).n) false) (σ.set id (.cells ((yv σ zs.length x).cs ++ (yv σ zs.length y).cs))))
    | _ => False
  | none => False

/-- Growth, or nothing to append: the first operand's capacity is its length. -/
theorem append_full (hr : HRel G W σ) {t t2 e ty : TypeId} {ts : Array TypeId} {i : TypeInfo} {zs : List PV} {x y : PV} {w : Value} {base : Option Addr} {l : Nat} {C : PV → Heap → Prop}
    (h0 : ts[0]? = some t) (h1 : ts[1]? = some t2) (hni : isSliceT P t2 = true) (ht : P.underlying t = some (.slice e)) (hi : P.info? e = some i) (hz : zeroP P e = some zs) (hzl : zs.length = i.size) (hne : zs ≠ []) (hb : i.bytes ≤ 4096)
    (hx : VRel G W x (.slice base l l)) (hy : VRel G W y w) (dx : (yv σ zs.length x).D) (dy : (yv σ zs.length y).D) (hmax : (yv σ zs.length x).n + (yv σ zs.length y).n ≤ 4294967296)
    (c0 : (yv σ zs.length y).n = 0 → C x σ)
    (c1 : (yv σ zs.length y).n ≠ 0 → ∀ id, σ id = none → C (.msl id zs.length 0 ((yv σ zs.length x).n + (yv σ zs.length y).n) false) (σ.set id (.cells ((yv σ zs.length x).cs ++ (yv σ zs.length y).cs)))) :
    ∃ V σ' G' W' v, (Builtin.append_ ts ty #[.slice base l l, w]).run P W = .ok v W' ∧ C V σ' ∧ Evol G W σ G' W' σ' ∧ HRel G' W' σ' ∧ VRel G' W' V v := by
  have hlx : (yv σ zs.length x).n = l := by
    obtain ⟨_, q, _⟩ := slice_cells (P := P) hr hx dx
    simp [Builtin.lenOf] at q; exact q.symm
  have qd := QEv.drew hr
  have hr' : HRel G W.drew σ := qd.hrel hr
  have hE := (qd.evol hr).ext hr
  obtain ⟨y1, y2, cy, y3, y4⟩ := slice_cells (P := P) hr' (hy.mono hE) dy
  obtain ⟨x1, x2, cx, x3, x4⟩ := slice_cells (P := P) hr' (hx.mono hE) dx
  obtain ⟨_, yl, cy0, y30, _⟩ := slice_cells (P := P) hr hy dy
  generalize hny : (yv σ zs.length y).n = m at *
  generalize hycs : (yv σ zs.length y).cs = ycs at *
  generalize hxcs : (yv σ zs.length x).cs = xcs at *
  rw [hlx] at *
  have hk : zs.length = i.size := hzl
  by_cases hm : m = 0
  · subst hm
    refine ⟨x, σ, G, W, .slice base l l, ?_, c0 rfl, .refl _ _ _, hr, hx⟩
    obtain ⟨e2, hd⟩ := isSliceT_some hni
    have hsz : (sizeOf e).run P W = .ok i.size W := by simp [sizeOf, typeInfo, hi]
    rw [hk] at y30
    unfold Builtin.append_
    simp only [h0, h1, List.getElem?_toArray, List.getElem?_cons_zero, List.getElem?_cons_succ, Sem.run_bind, run_underlying ht, run_underlying hd, Result.andThen_ok, hsz, Sem.run_pure, Bool.false_eq_true, if_false, yl, Nat.add_zero, Nat.le_refl, if_true, Bool.not_false, y30]
    cases base with
    | none => rfl
    | some a => simp [storeCells]
  · have hgrow : l < l + m := by omega
    rw [hk] at y3 x3
    obtain ⟨newCap, rest, g1, g2, g3⟩ := app_grow (ty := ty) h0 h1 hni ht hi hz yl hgrow hmax hb x3 y3
    obtain ⟨id, f1, f2⟩ := fresh_id hr
    have sx : xcs.length = l * zs.length := x1
    have sy : ycs.length = m * zs.length := y1
    have ho : ORel (G.bind id (W.drew.heap.size, 0)) (W.drew.alloc (.cells (((List.range (l * i.size)).map cx).toArray ++ ((List.range (m * i.size)).map cy).toArray ++ rest) e)) (W.drew.heap.size, 0) (.cells (xcs ++ ycs)) := by
      refine ⟨_, e, heap_alloc_new _ _, by simp [sx, sy, hk], fun j hj => ?_⟩
      have hE2 := ext_alloc hr' f1 (W.drew.heap.size, 0) (.cells (((List.range (l * i.size)).map cx).toArray ++ ((List.range (m * i.size)).map cy).toArray ++ rest) e)
      rw [List.length_append, sx, sy, hk] at hj
      refine VRel.mono hE2 ?_
      rw [Nat.zero_add]
      rw [hk] at sx sy x4 y4
      rcases Nat.lt_or_ge j (l * i.size) with hl | hl
      · have := x4 j hl
        have e1 : (xcs ++ ycs).getD j .any = xcs.getD j .any := by simp [List.getD, List.getElem?_append_left (show j < xcs.length by omega)]
        rw [e1]
        have e2 : (((List.range (l * i.size)).map cx).toArray ++ ((List.range (m * i.size)).map cy).toArray ++ rest).getD j undef = cx j := by
          rw [Array.getD_eq_getD_getElem?, Array.getElem?_append_left (by simp; omega), Array.getElem?_append_left (by simpa using hl)]
          simp [hl]
        rw [e2]; exact this
      · have := y4 (j - l * i.size) (by omega)
        have e1 : (xcs ++ ycs).getD j .any = ycs.getD (j - l * i.size) .any := by simp [List.getD, List.getElem?_append_right (show xcs.length ≤ j by omega), sx]
        rw [e1]
        have e2 : (((List.range (l * i.size)).map cx).toArray ++ ((List.range (m * i.size)).map cy).toArray ++ rest).getD j undef = cy (j - l * i.size) := by
          rw [Array.getD_eq_getD_getElem?, Array.getElem?_append_left (by simp; omega), Array.getElem?_append_right (by simpa using hl)]
          simp [show j - l * i.size < m * i.size by omega]
        rw [e2]; exact this
    obtain ⟨k1, k2⟩ := new_obj hr' f1 _ _ ho
    refine ⟨_, _, _, _, _, g3, c1 hm id f2, (qd.evol hr).trans k2, k1, ?_⟩
    have hkn : newCap * i.size = l * i.size + m * i.size + (newCap - (l + m)) * i.size := by
      rw [← Nat.add_mul, ← Nat.add_mul]; congr 1; omega
    refine .msl id zs.length 0 (l + m) newCap W.drew.heap.size 0 (l * i.size + m * i.size + (newCap - (l + m)) * i.size) _ _ false e (bind_same _ _ _) g1 (by unfold maxLen; omega) (by simp) (fun _ => ⟨rfl, rfl⟩) ?_ (fun _ => ?_)
    · unfold World.shape?
      rw [heap_alloc_new]
      simp [g2, hk]
    · rw [hk, hkn]; omega

/-- In its own memory, or grown: the slice ends where what is known of its object ends. -/
theorem append_own (hr : HRel G W σ) {t t2 e ty : TypeId} {ts : Array TypeId} {i : TypeInfo} {zs cs : List PV} {y : PV} {u w : Value} {id0 off len : Nat} {C : PV → Heap → Prop}
    (h0 : ts[0]? = some t) (h1 : ts[1]? = some t2) (hni : isSliceT P t2 = true) (ht : P.underlying t = some (.slice e)) (hi : P.info? e = some i) (hz : zeroP P e = some zs) (hzl : zs.length = i.size) (hne : zs ≠ []) (hb : i.bytes ≤ 4096)
    (hx : VRel G W (.msl id0 zs.length off len false) u) (hy : VRel G W y w) (ho : σ id0 = some (.cells cs)) (hend : off + len * zs.length = cs.length) (dy : (yv σ zs.length y).D) (hmax : len + (yv σ zs.length y).n ≤ 4294967296)
    (hone : ∀ c ∈ (yv σ zs.length y).cs, isCell1 c = true)
    (c1 : ∀ id, σ id = none → C (.msl id zs.length 0 (len + (yv σ zs.length y).n) false) ((σ.del id0).set id (.cells (cs.drop off ++ (yv σ zs.length y).cs)))) :
    ∃ V σ' G' W' v, (Builtin.append_ ts ty #[u, w]).run P W = .ok v W' ∧ C V σ' ∧ Evol G W σ G' W' σ' ∧ HRel G' W' σ' ∧ VRel G' W' V v := by
  have hk : zs.length = i.size := hzl
  have dx : (yv σ zs.length (.msl id0 zs.length off len false)).D := by simp only [yv, ho]; exact ⟨trivial, by omega⟩
  have xcs : (yv σ zs.length (.msl id0 zs.length off len false)).cs = cs.drop off := by
    simp only [yv, ho]
    rw [List.take_of_length_le]
    simp; omega
  have xn : (yv σ zs.length (.msl id0 zs.length off len false)).n = len := by simp only [yv, ho]
  have hx0 := hx
  obtain ⟨loc, l1, l2, l3⟩ := hr.obj id0 _ ho
  cases hx with
  | msl _ _ _ _ cap R δ n b off' _ e' q1 q2 q3 q4 q5 q6 q7 =>
  rw [q1] at l1; cases l1
  obtain ⟨arr, e2, a1, a2, a3⟩ := l2
  simp only at a1 a2 a3
  have hsh : (e2, arr.size) = (e', n) := by
    have := q6; unfold World.shape? at this; rw [a1] at this; simpa using this
  simp only [Prod.mk.injEq] at hsh
  obtain ⟨rfl, rfl⟩ := hsh
  obtain ⟨_, yl, cy0, y30, y40⟩ := slice_cells (P := P) hr hy dy
  by_cases hroom : len + (yv σ zs.length y).n ≤ cap
  · -- in its own memory
    obtain ⟨id, f1, f2⟩ := fresh_id hr
    have ylen := (slice_cells (P := P) hr hy dy).1
    obtain ⟨m, hm⟩ : ∃ m, m = (yv σ zs.length y).n := ⟨_, rfl⟩
    obtain ⟨ycs, hycs⟩ : ∃ ycs, ycs = (yv σ zs.length y).cs := ⟨_, rfl⟩
    have c1 := c1 id f2
    rw [← hm] at hroom yl y30 y40 ylen c1
    rw [← hycs] at ylen y40 c1 hone
    have ones : ∀ v ∈ (List.range (m * zs.length)).map cy0, v.oneCell' = true := fun v hv => by
      obtain ⟨j, hj, rfl⟩ := List.mem_map.1 hv
      have hj := List.mem_range.1 hj
      refine isCell1_one (y40 j hj) (hone _ ?_)
      have : j < ycs.length := by omega
      simp [List.getD, this]
    obtain ⟨W2, arr', hst, hW2, harr1, harr2⟩ : ∃ W2 arr', (storeCells ((⟨b, off', none⟩ : Addr).add (len * i.size)) ((List.range (m * zs.length)).map cy0)).run P W = .ok () W2 ∧ W2 = W.putObj R (.cells arr' e2 (0, 0)) ∧ arr'.size = arr.size ∧
        ∀ j, j < arr.size → arr'.getD j undef = if δ + off + len * zs.length ≤ j ∧ j < δ + off + len * zs.length + m * zs.length then cy0 (j - (δ + off + len * zs.length)) else arr.getD j undef := by
      rcases Nat.eq_zero_or_pos cap with hc | hc
      · have : m = 0 := by omega
        subst this
        refine ⟨W, arr, by simp [storeCells], (putObj_same a1).symm, rfl, fun j _ => ?_⟩
        rw [if_neg (by omega)]
      · obtain ⟨rfl, rfl⟩ := q5 hc
        have hfit : δ + off + len * zs.length + 0 + ((List.range (m * zs.length)).map cy0).length ≤ arr.size := by
          have := q7 hc
          have h2 : (len + m) * zs.length ≤ cap * zs.length := Nat.mul_le_mul_right _ hroom
          rw [Nat.add_mul] at h2
          simp; omega
        have := storeCells_run (P := P) ((List.range (m * zs.length)).map cy0) arr W (δ + off + len * zs.length) 0 a1 hfit ones
        obtain ⟨s1, s2⟩ := foldSet (δ + off + len * zs.length) ((List.range (m * zs.length)).map cy0) 0 arr
        refine ⟨_, _, ?_, rfl, s1, fun j hj => ?_⟩
        · rw [add_cell, ← hk]; exact this
        · rw [s2 j (by simp at hfit ⊢; omega)]
          simp only [Nat.add_zero, List.length_map, List.length_range]
          split
          · rename_i hin
            simp [show j - (δ + off + len * zs.length) < m * zs.length by omega]
          · rfl
    subst hW2
    rw [hk] at y30
    have hrun := app_room (ty := ty) (sLen := len) (sCap := cap) h0 h1 hni ht hi yl y30 hroom (by rw [← hk]; rw [hk]; simpa [hk] using hst)
    have hshape : ∀ s, W.shape? R = some s → (W.putObj R (.cells arr' e2 (0, 0))).shape? R = some s := fun s hs => by
      unfold World.shape? at hs ⊢
      rw [World.putObj_heap_same (lt_of_heap a1)]
      rw [a1] at hs
      simpa [harr1] using hs
    have clen : (cs.drop off).length = len * zs.length := by rw [List.length_drop]; omega
    obtain ⟨k1, k2⟩ := move_obj hr (id := id) (δ' := δ + off) (o := .cells (cs.drop off ++ ycs)) ho q1 f1 (.cells arr' e2 (0, 0)) hshape fun hE => by
      refine ⟨arr', e2, World.putObj_heap_same (lt_of_heap a1), ?_, fun j hj => ?_⟩
      · rw [List.length_append, clen, ylen, harr1]
        simp only
        rcases Nat.eq_zero_or_pos cap with hc | hc
        · have h1 : len = 0 := by omega
          have h2 : m = 0 := by omega
          subst h1; subst h2
          simp at hend ⊢; omega
        · have := q7 hc
          have h2 : (len + m) * zs.length ≤ cap * zs.length := Nat.mul_le_mul_right _ hroom
          rw [Nat.add_mul] at h2; omega
      · rw [List.length_append, clen, ylen] at hj
        simp only
        have hj2 : δ + off + j < arr.size := by
          rcases Nat.eq_zero_or_pos cap with hc | hc
          · have h1 : len = 0 := by omega
            have h2 : m = 0 := by omega
            subst h1; subst h2; simp at hj
          · have := q7 hc
            have h2 : (len + m) * zs.length ≤ cap * zs.length := Nat.mul_le_mul_right _ hroom
            rw [Nat.add_mul] at h2; omega
        rw [harr2 _ hj2]
        refine VRel.mono hE ?_
        rcases Nat.lt_or_ge j (len * zs.length) with hl | hl
        · rw [if_neg (by omega)]
          have := a3 (off + j) (by omega)
          have e1 : (cs.drop off ++ ycs).getD j .any = cs.getD (off + j) .any := by
            simp [List.getD, List.getElem?_append_left (show j < (cs.drop off).length by omega)]
          rw [e1, Nat.add_assoc]; exact this
        · rw [if_pos (by omega)]
          have := y40 (j - len * zs.length) (by omega)
          have e1 : (cs.drop off ++ ycs).getD j .any = ycs.getD (j - len * zs.length) .any := by
            simp only [List.getD]
            rw [List.getElem?_append_right (by omega), clen]
          rw [e1, show δ + off + j - (δ + off + len * zs.length) = j - len * zs.length by omega]; exact this
    refine ⟨_, _, _, _, _, hrun, c1, k2, k1, ?_⟩
    refine .msl id zs.length 0 (len + m) cap R (δ + off) arr.size b off' false e2 (bind_same _ _ _) hroom (by unfold maxLen; omega) (by simp) (fun hc => ⟨(q5 hc).1, by have := (q5 hc).2; omega⟩) ?_ (fun hc => by have := q7 hc; omega)
    unfold World.shape?
    rw [World.putObj_heap_same (lt_of_heap a1)]
    simp [harr1]
  · -- grown
    have qd := QEv.drew hr
    have hr' : HRel G W.drew σ := qd.hrel hr
    have hE := (qd.evol hr).ext hr
    obtain ⟨y1, y2, cy, y3, y4⟩ := slice_cells (P := P) hr' (hy.mono hE) dy
    obtain ⟨x1, x2, cx, x3, x4⟩ := slice_cells (P := P) hr' (hx0.mono hE) dx
    rw [xcs] at x1 x4
    rw [xn] at x1 x3 x4
    obtain ⟨m, hm⟩ : ∃ m, m = (yv σ zs.length y).n := ⟨_, rfl⟩
    obtain ⟨ycs, hycs⟩ : ∃ ycs, ycs = (yv σ zs.length y).cs := ⟨_, rfl⟩
    rw [← hm] at hroom yl y1 y3 y4 hmax c1
    rw [← hycs] at y1 y4 c1
    rw [hk] at y3 x3
    obtain ⟨newCap, rest, g1, g2, g3⟩ := app_grow (ty := ty) h0 h1 hni ht hi hz yl (by omega) hmax hb x3 y3
    obtain ⟨id, f1, f2⟩ := fresh_id hr
    have sx : (cs.drop off).length = len * zs.length := x1
    have sy : ycs.length = m * zs.length := y1
    have ho2 : ORel (G.bind id (W.drew.heap.size, 0)) (W.drew.alloc (.cells (((List.range (len * i.size)).map cx).toArray ++ ((List.range (m * i.size)).map cy).toArray ++ rest) e)) (W.drew.heap.size, 0) (.cells (cs.drop off ++ ycs)) := by
      refine ⟨_, e, heap_alloc_new _ _, by simp [sx, sy, hk] at *, fun j hj => ?_⟩
      have hE2 := ext_alloc hr' f1 (W.drew.heap.size, 0) (.cells (((List.range (len * i.size)).map cx).toArray ++ ((List.range (m * i.size)).map cy).toArray ++ rest) e)
      rw [List.length_append, sx, sy, hk] at hj
      refine VRel.mono hE2 ?_
      rw [Nat.zero_add]
      rw [hk] at sx sy x4 y4
      rcases Nat.lt_or_ge j (len * i.size) with hl | hl
      · have := x4 j hl
        have e1 : (cs.drop off ++ ycs).getD j .any = (cs.drop off).getD j .any := by simp only [List.getD]; rw [List.getElem?_append_left (by omega)]
        rw [e1]
        have e2 : (((List.range (len * i.size)).map cx).toArray ++ ((List.range (m * i.size)).map cy).toArray ++ rest).getD j undef = cx j := by
          rw [Array.getD_eq_getD_getElem?, Array.getElem?_append_left (by simp; omega), Array.getElem?_append_left (by simpa using hl)]
          simp [hl]
        rw [e2]; exact this
      · have := y4 (j - len * i.size) (by omega)
        have e1 : (cs.drop off ++ ycs).getD j .any = ycs.getD (j - len * i.size) .any := by simp only [List.getD]; rw [List.getElem?_append_right (by omega), sx]
        rw [e1]
        have e2 : (((List.range (len * i.size)).map cx).toArray ++ ((List.range (m * i.size)).map cy).toArray ++ rest).getD j undef = cy (j - len * i.size) := by
          rw [Array.getD_eq_getD_getElem?, Array.getElem?_append_left (by simp; omega), Array.getElem?_append_right (by simpa using hl)]
          simp [show j - len * i.size < m * i.size by omega]
        rw [e2]; exact this
    obtain ⟨k1, k2⟩ := new_obj hr' f1 _ _ ho2
    have sub : ∀ j x, ((σ.del id0).set id (.cells (cs.drop off ++ ycs))) j = some x → (σ.set id (.cells (cs.drop off ++ ycs))) j = some x := fun j x hx => by
      unfold Heap.set Heap.del at *
      split
      · rename_i e; rw [if_pos e] at hx; exact hx
      · rename_i e; rw [if_neg e] at hx
        split at hx
        · cases hx
        · exact hx
    refine ⟨_, _, _, _, _, g3, c1 id f2, ((qd.evol hr).trans k2).less (fun j hj => ?_), k1.less sub, ?_⟩
    · obtain ⟨x, hx⟩ := some_of_ne hj; rw [sub j x hx]; simp
    have hkn : newCap * i.size = len * i.size + m * i.size + (newCap - (len + m)) * i.size := by
      rw [← Nat.add_mul, ← Nat.add_mul]; congr 1; omega
    refine .msl id zs.length 0 (len + m) newCap W.drew.heap.size 0 (len * i.size + m * i.size + (newCap - (len + m)) * i.size) _ _ false e (bind_same _ _ _) g1 (by unfold maxLen; omega) (by simp) (fun _ => ⟨rfl, rfl⟩) ?_ (fun _ => ?_)
    · unfold World.shape?
      rw [heap_alloc_new]
      simp [g2, hk]
    · rw [hk, hkn]; omega

theorem gop_append {o : Oper} {x y : Operand} {t t2 : TypeId} {tail : List TypeId} {K : Out → Heap → Prop} (ho : ∃ c, o.op = .call c ∧ c.callee = .builtin .append ∧ c.args.toList = [x, y] ∧ c.argTypes.toList = t :: t2 :: tail)
    (hax : avt (opv fr x)) (hay : avt (opv fr y)) (h : appendP P σ t t2 (sv (opv fr x)) (sv (opv fr y)) fun V σ' => K (.val V) σ') : gop P rd n o fr σ K := by
  obtain ⟨c, ho, hcal, hargs, hts⟩ := ho
  obtain ⟨callee, args, argTypes⟩ := c
  simp only at hcal hargs hts
  subst hcal
  have e3 : args = #[x, y] := by rw [← Array.toArray_toList (xs := args), hargs]
  have e4 : argTypes[0]? = some t := by rw [← Array.getElem?_toList, hts]; rfl
  have e5 : argTypes[1]? = some t2 := by rw [← Array.getElem?_toList, hts]; rfl
  subst e3
  intro G W A r m _ h2 h3 next Q hn _
  have vx := sv_rel (opv_rel h3 x) hax
  have vy := sv_rel (opv_rel h3 y) hay
  have key : (∃ V σ' G' W' v, (Builtin.append_ argTypes o.type #[A.eval x, A.eval y]).run P W = .ok v W' ∧ K (.val V) σ' ∧ Evol G W σ G' W' σ' ∧ HRel G' W' σ' ∧ VRel G' W' V v) → o.wpIn (FW r) m P A W next Q := by
    rintro ⟨V, σ', G', W', v, r1, r2, r3, r4, r5⟩
    refine wpIn_value (fun c hd => by rw [ho] at hd; cases hd) (v := v) (W' := W') ?_ (hn _ _ _ _ _ r2 r3 r4 r5)
    simp only [execOp, ho, resolve, Sem.run_bind, Sem.run_pure, Result.andThen_ok, invoke, builtin]
    rw [show Array.map A.eval #[x, y] = #[A.eval x, A.eval y] by simp]
    simp [r1]
  refine key ?_
  generalize A.eval x = u at vx
  generalize A.eval y = w at vy
  generalize sv (opv fr x) = X at vx h
  generalize sv (opv fr y) = Y at vy h
  unfold appendP at h
  split at h
  · rename_i b zs he
    obtain ⟨e, i, ht, hi, rfl, hz, hzl⟩ := elemB_some he
    obtain ⟨h1, hb, hne, dy, dx, hmax, h⟩ := h
    split at h
    · rename_i id0 k off len
      obtain ⟨h5, h6, h7⟩ := h
      split at h5
      · rename_i cs hcs
        have hk : k = zs.length := by simp only [yv, hcs] at dx; exact dx.1
        subst hk
        have ec : (yv σ zs.length (.msl id0 zs.length off len false)).cs = cs.drop off := by
          simp only [yv, hcs]; rw [List.take_of_length_le]; simp; omega
        have en : (yv σ zs.length (.msl id0 zs.length off len false)).n = len := by simp only [yv, hcs]
        rw [ec] at h7
        rw [en] at hmax
        exact append_own h2 e4 e5 h1 ht hi hz hzl hne hb vx vy hcs h5 dy hmax h6 h7
      · exact h5.elim
    · cases vx
      exact append_full h2 e4 e5 h1 ht hi hz hzl hne hb (.lit _) vy dx dy hmax h.1 h.2
    · rename_i rows
      have vx0 := vx
      cases vx with
      | nilsl _ base cap hcap =>
        have := hcap rfl
        subst this
        exact append_full h2 e4 e5 h1 ht hi hz hzl hne hb vx0 vy dx dy hmax h.1 h.2
      | slice _ _ b off len cap k cv g1 g2 g3 g4 g5 g6 g7 =>
      have := g4 rfl
      subst this
      exact append_full h2 e4 e5 h1 ht hi hz hzl hne hb vx0 vy dx dy hmax h.1 h.2
    · have vx0 := vx
      cases vx with
      | msl _ _ _ _ cap R δ n b off' _ e' q1 q2 q3 q4 q5 q6 q7 =>
      have := q4 rfl
      subst this
      exact append_full h2 e4 e5 h1 ht hi hz hzl hne hb vx0 vy dx dy hmax h.1 h.2
    · exact h.elim
  · exact h.elim
end
end Go.Lo

/-
  The program logic 'Lo', part J: tables of contracts, straight code with memory, regions that draw their order. Nothing of the program.
-/
set_option linter.unusedSimpArgs false
set_option linter.unusedVariables false
namespace Go.Lo
open Go

/-- What calls that leave the memory as it is yield. -/
structure Tab where
  dom : FuncId → Bool
  ev : FuncId → List PV → Heap → EV
def Tab.ok (P : Program) (T : Tab) : Prop := ∀ f args σ, (T.ev f args σ).D → Enters P f ∧ pcalls P f args σ fun o σ' => o = .val (T.ev f args σ).V ∧ σ' = σ
def Tab.nil : Tab := ⟨fun _ => false, fun _ _ _ => .no⟩
def Tab.add (T : Tab) (f : FuncId) (e : List PV → Heap → EV) : Tab := ⟨fun g => g == f || T.dom g, fun g args σ => if g = f then e args σ else T.ev g args σ⟩
theorem Tab.nil_ok (P : Program) : Tab.nil.ok P := fun _ _ _ h => h.elim
theorem Tab.add_ok {P : Program} {T : Tab} {f : FuncId} {e : List PV → Heap → EV} (hT : T.ok P) (he : Enters P f) (h : ∀ args σ, (e args σ).D → pcalls P f args σ fun o σ' => o = .val (e args σ).V ∧ σ' = σ) : (T.add f e).ok P := by
  intro g args σ hd
  unfold Tab.add at hd ⊢
  simp only at hd ⊢
  split
  · rename_i hg
    subst hg
    rw [if_pos rfl] at hd
    exact ⟨he, h args σ hd⟩
  · rename_i hg
    rw [if_neg hg] at hd
    exact hT g args σ hd
/-- From a contract that knows nothing of the memory. -/
theorem Tab.add_fun {P : Program} {T : Tab} {f : FuncId} {e : List PV → EV} (hT : T.ok P) (he : Enters P f) (h : ∀ args, (e args).D → PFun P f args (e args).V) : (T.add f fun args _ => e args).ok P :=
  Tab.add_ok hT he fun args _ hd => (h args hd).calls

def callT (T : Tab) (σ : Heap) (fr : Fr) (c : Call) : EV :=
  match c.callee with
  | .value fo => match sv (opv fr fo) with
    | .fn (.func g) first cap => ⟨avt (opv fr fo) ∧ (∀ x ∈ c.args.toList, avt (opv fr x)) ∧ (T.ev g (first ++ argsP fr c.args ++ cap) σ).D, (T.ev g (first ++ argsP fr c.args ++ cap) σ).V⟩
    | _ => .no
  | _ => .no
def evc (P : Program) (T : Tab) (σ : Heap) (fr : Fr) (o : Oper) : EV :=
  match o.op with
  | .call c => match c.callee with
    | .value _ => callT T σ fr c
    | _ => ev P σ fr o
  | _ => ev P σ fr o

/-- .. and the table. -/
def quietC (T : Tab) (fr : Fr) : Op → Bool
  | .call { callee := .value fo, .. } => match sv (opv fr fo) with
    | .fn (.func g) _ _ => T.dom g
    | _ => false
  | op => quietK op

section
variable {P : Program} {T : Tab} {rd : Bool} {n : Nat} {fr : Fr} {σ : Heap}

theorem qop_of_evc (hT : T.ok P) {o : Oper} (h : (evc P T σ fr o).D) : qop P n o fr σ (evc P T σ fr o).V := by
  unfold evc at h ⊢
  split
  · rename_i c hc
    rw [hc] at h
    simp only at h
    split
    · rename_i fo hfo
      rw [hfo] at h
      simp only [callT, hfo] at h ⊢
      split
      · rename_i g first cap hg
        rw [hg] at h
        obtain ⟨h1, h2, h3⟩ := h
        obtain ⟨k1, k2⟩ := hT _ _ _ h3
        exact qop_call hc hfo hg h1 k1 h2 k2
      · rename_i hg
        exact absurd h (by simp [EV.no])
    · rename_i hfo
      refine qop_of_ev ?_
      split at h
      · rename_i fo e; exact absurd e (hfo fo)
      · exact h
  · rename_i hc
    refine qop_of_ev ?_
    split at h
    · rename_i c e; exact absurd e (hc c)
    · exact h

/-! ### Straight code with memory -/
/-- Operations that make or write memory. -/
def heapK : Op → Bool
  | .box _ _ | .alloc _ | .store _ _ _ | .makeSlice _ _ _ => true
  | .call { callee := .builtin .append, .. } => true
  | _ => false

def gstep (P : Program) (σ : Heap) (fr : Fr) (o : Op) (C : PV → Heap → Prop) : Prop :=
  match o with
  | .box _ x => avt (opv fr x) ∧ isCell (sv (opv fr x)) = true ∧ ∀ id, σ id = none → C (.ptr id 0) (σ.set id (.cells (cellsP (sv (opv fr x)))))
  | .alloc t => match zeroP P t with
    | some zs => ∀ id, σ id = none → C (.ptr id 0) (σ.set id (.cells zs))
    | none => False
  | .store t a x => avt (opv fr a) ∧ avt (opv fr x) ∧ storeP P σ t (sv (opv fr a)) (sv (opv fr x)) (C (.lit undef))
  | .makeSlice t l c => avt (opv fr l) ∧ avt (opv fr c) ∧ makeP P σ t (sv (opv fr l)) (sv (opv fr c)) C
  | .call { callee := .builtin .append, args, argTypes } => match args.toList, argTypes.toList with
    | [x, y], t :: t2 :: _ => avt (opv fr x) ∧ avt (opv fr y) ∧ appendP P σ t t2 (sv (opv fr x)) (sv (opv fr y)) C
    | _, _ => False
  | _ => False

theorem gop_gstep {o : Oper} {K : Out → Heap → Prop} (h : gstep P σ fr o.op fun V σ' => K (.val V) σ') : gop P rd n o fr σ K := by
  unfold gstep at h
  split at h
  · rename_i t x e; exact gop_box e h.1 h.2.1 h.2.2
  · rename_i t e
    split at h
    · rename_i zs hz; exact gop_alloc e hz h
    · exact h.elim
  · rename_i t a x e; exact gop_store e h.1 h.2.1 h.2.2
  · rename_i t l c e; exact gop_make e h.1 h.2.1 h.2.2
  · rename_i args argTypes e
    split at h
    · rename_i x y t t2 tl e1 e2
      exact gop_append ⟨_, e, rfl, e1, e2⟩ h.1 h.2.1 h.2.2
    · exact h.elim
  · exact h.elim

theorem storeP_mono {t : TypeId} {a x : PV} {C C' : Heap → Prop} (hC : ∀ σ', C σ' → C' σ') (h : storeP P σ t a x C) : storeP P σ t a x C' := by
  unfold storeP at h ⊢
  split at h
  · rename_i id off sz ag e2
    split at h
    · rename_i cs e3; (try simp only [e3]); exact ⟨h.1, h.2.1, h.2.2.1, h.2.2.2.1, hC _ h.2.2.2.2⟩
    · exact h.elim
  · exact h.elim
theorem makeP_mono {t : TypeId} {a x : PV} {C C' : PV → Heap → Prop} (hC : ∀ V σ', C V σ' → C' V σ') (h : makeP P σ t a x C) : makeP P σ t a x C' := by
  unfold makeP at h ⊢
  split at h
  · exact ⟨h.1, h.2.1, h.2.2.1, h.2.2.2.1, h.2.2.2.2.1, fun id hid => hC _ _ (h.2.2.2.2.2 id hid)⟩
  · exact h.elim
theorem appendP_mono {t t2 : TypeId} {x y : PV} {C C' : PV → Heap → Prop} (hC : ∀ V σ', C V σ' → C' V σ') (h : appendP P σ t t2 x y C) : appendP P σ t t2 x y C' := by
  unfold appendP at h ⊢
  split at h
  · refine ⟨h.1, h.2.1, h.2.2.1, h.2.2.2.1, h.2.2.2.2.1, h.2.2.2.2.2.1, ?_⟩
    have := h.2.2.2.2.2.2
    split at this
    · exact ⟨this.1, this.2.1, fun id hid => hC _ _ (this.2.2 id hid)⟩
    · exact ⟨fun e => hC _ _ (this.1 e), fun e id hid => hC _ _ (this.2 e id hid)⟩
    · exact ⟨fun e => hC _ _ (this.1 e), fun e id hid => hC _ _ (this.2 e id hid)⟩
    · exact ⟨fun e => hC _ _ (this.1 e), fun e id hid => hC _ _ (this.2 e id hid)⟩
    · exact this.elim
  · exact h.elim
theorem gstep_mono {o : Op} {C C' : PV → Heap → Prop} (hC : ∀ V σ', C V σ' → C' V σ') (h : gstep P σ fr o C) : gstep P σ fr o C' := by
  unfold gstep at h ⊢
  split at h
  · exact ⟨h.1, h.2.1, fun id hid => hC _ _ (h.2.2 id hid)⟩
  · split at h
    · rename_i zs hz; (try simp only [hz]); exact fun id hid => hC _ _ (h id hid)
    · exact h.elim
  · exact ⟨h.1, h.2.1, storeP_mono (hC _) h.2.2⟩
  · exact ⟨h.1, h.2.1, makeP_mono hC h.2.2⟩
  · split at h
    · rename_i e1 e2; (try simp only [e1, e2]); exact ⟨h.1, h.2.1, appendP_mono hC h.2.2⟩
    · exact h.elim
  · exact h.elim

/-- What simp does not look into. -/
structure Tg (Q : PX → Fr → Heap → Prop) where
  x : Nat := 0
def popsS (P : Program) (rd : Bool) (n : Nat) (ops : Array Oper) (l : List Oper) (Q : PX → Fr → Heap → Prop) (_ : Tg Q) (fr : Fr) (σ : Heap) : Prop := pops P rd n ops l Q fr σ

/-- The text's order, as far as 'evc' and 'gstep' go. -/
def pst (P : Program) (T : Tab) (rd : Bool) (n : Nat) (ops : Array Oper) (Q : PX → Fr → Heap → Prop) : List Oper → Fr → Heap → Prop
  | [], fr, σ => Q .normal fr σ
  | o :: l, fr, σ =>
    if quietC T fr o.op then
      match o.guard with
      | none => (evc P T σ fr o).D ∧ dstOk n o = true ∧ pst P T rd n ops Q l (frSet fr o.dst (evc P T σ fr o).V) σ
      | some _ => match gval ops fr o with
        | some g => (g = true → (evc P T σ fr o).D) ∧ dstOk n o = true ∧ pst P T rd n ops Q l (frSet fr o.dst (.gd g (evc P T σ fr o).V)) σ
        | none => False
    else if heapK o.op && o.guard.isNone then dstOk n o = true ∧ gstep P σ fr o.op fun V σ' => pst P T rd n ops Q l (frSet fr o.dst V) σ'
    else popsS P rd n ops (o :: l) Q {} fr σ

theorem pops_pst (hT : T.ok P) {ops : Array Oper} {Q : PX → Fr → Heap → Prop} : ∀ {l : List Oper} {fr : Fr} {σ : Heap}, pst P T rd n ops Q l fr σ → pops P rd n ops l Q fr σ := by
  intro l
  induction l with
  | nil => intro fr σ h; exact pops_nil h
  | cons o l ih =>
    intro fr σ h
    simp only [pst] at h
    split at h
    · split at h
      · rename_i hg
        exact pops_quiet hg h.2.1 (qop_of_evc hT h.1) (ih h.2.2)
      · split at h
        · rename_i g hg
          exact pops_guard hg h.2.1 (fun e => qop_of_evc hT (h.1 e)) (ih h.2.2)
        · exact h.elim
    · split at h
      · rename_i hk
        simp only [Bool.and_eq_true, Option.isNone_iff_eq_none] at hk
        refine pops_gop (by simp [gval, hk.2]) h.1 (gop_gstep ?_)
        have h2 := h.2
        exact gstep_mono (fun V σ' k => ih k) h2
      · exact h

/-! ### Regions that draw their order -/
def agree (o : Oper) (fr fr' : Fr) : Prop := ∀ x ∈ o.op.operands, opv fr' x = opv fr x

theorem parts_congr {fr fr' : Fr} {ps : Array (Nat × Operand)} (h : ∀ x ∈ ps.toList.map (·.2), opv fr' x = opv fr x) : partsP fr' ps = partsP fr ps := by
  unfold partsP
  exact List.map_congr_left fun p hp => by rw [h p.2 (List.mem_map.2 ⟨p, hp, rfl⟩)]

theorem gate_congr {fr fr' : Fr} {xs : List Operand} {e e' : EV} (h : ∀ x ∈ xs, opv fr' x = opv fr x) (he : e' = e) : gate fr' xs e' = gate fr xs e := by
  subst he
  unfold gate
  congr 1
  refine propext (and_congr_left fun _ => forall_congr' fun x => ?_)
  exact imp_congr_right fun hx => by rw [h x hx]

theorem ev_congr {o : Oper} {fr fr' : Fr} (h : agree o fr fr') : ev P σ fr' o = ev P σ fr o := by
  unfold agree at h
  unfold ev
  cases ho : o.op <;> rw [ho] at h <;> simp only [Op.operands] at h <;> simp only
  case pick c a b =>
    have h1 := h c (by simp); have h2 := h a (by simp); have h3 := h b (by simp)
    unfold evPick; simp only [h1, h2, h3]
  case build t ps =>
    have h' : ∀ x ∈ ps.toList.map (·.2), opv fr' x = opv fr x := fun x hx => h x (by simpa using hx)
    exact gate_congr h' (by rw [parts_congr h'])
  case buildSlice t l ps =>
    have h' : ∀ x ∈ ps.toList.map (·.2), opv fr' x = opv fr x := fun x hx => h x (by simpa using hx)
    exact gate_congr h' (by rw [parts_congr h'])
  case makeFunc f first cap =>
    refine gate_congr (fun x hx => h x (by simpa using hx)) ?_
    congr 2
    · exact List.map_congr_left fun x hx => by rw [h x (by simp at hx; simp [hx])]
    · exact List.map_congr_left fun x hx => by rw [h x (by simp at hx; simp [hx])]
  case slice t x lo hi mx =>
    have hx := h x (by simp)
    refine gate_congr (fun y hy => h y (by simp at hy ⊢; rcases hy with hy | hy | hy | hy <;> simp [hy])) ?_
    have e : ∀ z : Option Operand, (∀ y ∈ z, opv fr' y = opv fr y) → (z.map fun x => sv (opv fr' x)) = z.map fun x => sv (opv fr x) := fun z hz => by
      cases z with
      | none => rfl
      | some y => simp [hz y rfl]
    rw [hx, e lo (fun y hy => h y (by simp; simp at hy; simp [hy])), e hi (fun y hy => h y (by simp; simp at hy; simp [hy])), e mx (fun y hy => h y (by simp; simp at hy; simp [hy]))]
  case call c =>
    have ha : ∀ x ∈ c.args.toList, opv fr' x = opv fr x := fun x hx => h x (by simp [Call.operands]; right; simpa using hx)
    unfold evCall
    split
    · split
      · rename_i e1 e2
        exact gate_congr (fun y hy => ha y (by rw [e1]; exact hy)) (by rw [ha _ (by rw [e1]; simp)])
      · rfl
    · split
      · rename_i e1
        exact gate_congr (fun y hy => ha y (by rw [e1]; exact hy)) (by rw [ha _ (by rw [e1]; simp), ha _ (by rw [e1]; simp)])
      · rfl
    · split
      · rename_i e1
        exact gate_congr (fun y hy => ha y (by rw [e1]; exact hy)) (by rw [ha _ (by rw [e1]; simp), ha _ (by rw [e1]; simp)])
      · rfl
    · rfl
  case indexAddr t x y => exact gate_congr (fun z hz => h z (by simpa using hz)) (by rw [h x (by simp), h y (by simp)])
  case index t x y => exact gate_congr (fun z hz => h z (by simpa using hz)) (by rw [h x (by simp), h y (by simp)])
  case binOp op t x y u => exact gate_congr (fun z hz => h z (by simpa using hz)) (by rw [h x (by simp), h y (by simp)])
  case move x => exact gate_congr (fun z hz => h z (by simpa using hz)) (by rw [h x (by simp)])
  case assign x => exact gate_congr (fun z hz => h z (by simpa using hz)) (by rw [h x (by simp)])
  case load t x => exact gate_congr (fun z hz => h z (by simpa using hz)) (by rw [h x (by simp)])
  case nilCheck x => exact gate_congr (fun z hz => h z (by simpa using hz)) (by rw [h x (by simp)])
  case unOp op t x => exact gate_congr (fun z hz => h z (by simpa using hz)) (by rw [h x (by simp)])
  case convert s d x => exact gate_congr (fun z hz => h z (by simpa using hz)) (by rw [h x (by simp)])
  case makeInterface t x => exact gate_congr (fun z hz => h z (by simpa using hz)) (by rw [h x (by simp)])
  case fieldAddr t x f => exact gate_congr (fun z hz => h z (by simpa using hz)) (by rw [h x (by simp)])
  case field t x f => exact gate_congr (fun z hz => h z (by simpa using hz)) (by rw [h x (by simp)])
  case extract x i => exact gate_congr (fun z hz => h z (by simpa using hz)) (by rw [h x (by simp)])

theorem evc_congr {o : Oper} {fr fr' : Fr} (h : agree o fr fr') : evc P T σ fr' o = evc P T σ fr o := by
  unfold evc
  split
  · rename_i c hc
    split
    · rename_i fo hfo
      unfold agree at h
      rw [hc] at h
      have h1 : opv fr' fo = opv fr fo := h fo (by simp [Op.operands, Call.operands, hfo])
      have ha : ∀ x ∈ c.args.toList, opv fr' x = opv fr x := fun x hx => h x (by simp [Op.operands, Call.operands]; right; simpa using hx)
      have e : argsP fr' c.args = argsP fr c.args := List.map_congr_left fun x hx => by rw [ha x hx]
      unfold callT
      rw [hfo]
      simp only [h1, e]
      split
      · congr 1
        refine propext (and_congr_right fun _ => and_congr_left fun _ => forall_congr' fun x => imp_congr_right fun hx => by rw [ha x hx])
      · rfl
    · exact ev_congr h
  · exact ev_congr h

/-- Operation o yields U in frame fr. -/
def YF (P : Program) (T : Tab) (σ : Heap) (ops : Array Oper) (o : Oper) (U : PV) (fr : Fr) : Prop :=
  match o.guard with
  | none => (evc P T σ fr o).D ∧ U = (evc P T σ fr o).V
  | some _ => ∃ g, gval ops fr o = some g ∧ (g = true → (evc P T σ fr o).D) ∧ U = .gd g (evc P T σ fr o).V

theorem opv_set {fr : Fr} {dst : Option Tmp} {U : PV} {x : Operand} (h : ∀ d, dst = some d → x ≠ .tmp d) : opv (frSet fr dst U) x = opv fr x := by
  cases dst with
  | none => rfl
  | some d =>
    cases x with
    | tmp t =>
      have : t ≠ d := fun e => h d rfl (by rw [e])
      simp [opv, frSet, Fr.set, this]
    | _ => rfl

theorem agree_set {ops : Array Oper} {o : Oper} {fr : Fr} {dst : Option Tmp} {U : PV} (h : ∀ d, dst = some d → d ∉ o.looksAt ops) : agree o fr (frSet fr dst U) := fun x hx =>
  opv_set fun d hd hxd => h d hd (by
    subst hxd
    exact List.mem_append_left _ (List.mem_filterMap.2 ⟨.tmp d, by simpa using hx, rfl⟩))

theorem gval_set {ops : Array Oper} {o : Oper} {fr : Fr} {dst : Option Tmp} {U : PV} (h : ∀ d, dst = some d → d ∉ o.looksAt ops) : gval ops (frSet fr dst U) o = gval ops fr o := by
  unfold gval
  cases hg : o.guard with
  | none => rfl
  | some gw =>
    obtain ⟨g, want⟩ := gw
    simp only
    cases ht : (ops[g]?).bind (·.dst) with
    | none => rfl
    | some t =>
      simp only
      have : frSet fr dst U t = fr t := by
        cases dst with
        | none => rfl
        | some d =>
          have : t ≠ d := fun e => h d rfl (by subst e; simp [Oper.looksAt, hg, ht])
          simp [frSet, Fr.set, this]
      rw [this]

theorem YF.set {ops : Array Oper} {o : Oper} {U V : PV} {fr : Fr} {dst : Option Tmp} (h : ∀ d, dst = some d → d ∉ o.looksAt ops) : YF P T σ ops o U (frSet fr dst V) ↔ YF P T σ ops o U fr := by
  unfold YF
  rw [evc_congr (agree_set h), gval_set h]

theorem frSet_comm (fr : Fr) {x y : Option Tmp} (v u : PV) (h : ∀ d, x = some d → y ≠ some d) : frSet (frSet fr x v) y u = frSet (frSet fr y u) x v := by
  cases x with
  | none => rfl
  | some d =>
    cases y with
    | none => rfl
    | some e =>
      have hne : d ≠ e := fun he => h d rfl (he ▸ rfl)
      funext t
      simp only [frSet, Fr.set]
      by_cases h1 : t = e
      · subst h1; rw [if_pos rfl, if_neg (Ne.symm hne), if_pos rfl]
      · rw [if_neg h1, if_neg h1]

/-- One operation out of a drawn region. -/
def aOp (P : Program) (T : Tab) (σ : Heap) (n : Nat) (ops : Array Oper) (i : Nat) (K : Fr → Prop) (fr : Fr) : Prop := ∃ o, ops[i]? = some o ∧ dstOk n o = true ∧ ∃ U, YF P T σ ops o U fr ∧ K (frSet fr o.dst U)
def aAny (P : Program) (T : Tab) (σ : Heap) (n : Nat) (ops : Array Oper) (k : Nat) (K : Fr → Prop) : Nat → Array Bool → Fr → Prop
  | 0, listed, fr => (∀ j, j < k → j ∉ Region.ready .any ops listed) ∧ K fr
  | m + 1, listed, fr => (∃ i, i < k ∧ i ∈ Region.ready .any ops listed) ∧ ∀ i, i < k → i ∈ Region.ready .any ops listed → aOp P T σ n ops i (aAny P T σ n ops k K m (listed.setIfInBounds i true)) fr

theorem aOp_mono {ops : Array Oper} {i : Nat} {K K' : Fr → Prop} {fr : Fr} (h : ∀ fr, K fr → K' fr) (hh : aOp P T σ n ops i K fr) : aOp P T σ n ops i K' fr :=
  let ⟨o, h1, h2, U, h3, h4⟩ := hh
  ⟨o, h1, h2, U, h3, h _ h4⟩

theorem aAny_first {ops : Array Oper} {k : Nat} {K : Fr → Prop} {i : Nat} {oi : Oper} {U : PV} (hi : ops[i]? = some oi) (hik : i < k) (hdi : dstOk n oi = true) :
    ∀ (m : Nat) (listed : Array Bool) (fr : Fr),
      (∀ j oj, j < k → ops[j]? = some oj → j ≠ i → listed.getD j true = false → (∀ e ∈ oj.after, Region.binds .any e = true → e.on ≠ i) → oi.apart ops oj = true) →
      i ∈ Region.ready .any ops listed → YF P T σ ops oi U fr →
      aAny P T σ n ops k K m (listed.setIfInBounds i true) (frSet fr oi.dst U) → aAny P T σ n ops k K (m + 1) listed fr := by
  intro m
  induction m with
  | zero =>
    intro listed fr _ hr hy H
    refine ⟨⟨i, hik, hr⟩, fun j hjk hj => ?_⟩
    by_cases hji : j = i
    · subst hji; exact ⟨oi, hi, hdi, U, hy, H⟩
    · exact absurd (ready_mono hj hji) (H.1 j hjk)
  | succ m ih =>
    intro listed fr hfree hr hy H
    refine ⟨⟨i, hik, hr⟩, fun j hjk hj => ?_⟩
    by_cases hji : j = i
    · subst hji; exact ⟨oi, hi, hdi, U, hy, H⟩
    · obtain ⟨oj, hoj, hdj, V, hyj, H1⟩ := H.2 j hjk (ready_mono hj hji)
      obtain ⟨hjun, oj', hoj', hall⟩ := mem_ready.1 hj
      rw [hoj] at hoj'; cases hoj'
      have hnot : ∀ e ∈ oj.after, Region.binds .any e = true → e.on ≠ i := fun e he hb heq => by
        have h1 := hall e he hb
        have h0 := (mem_ready.1 hr).1
        rw [heq] at h1
        rcases Nat.lt_or_ge i listed.size with h' | h'
        · simp [h'] at h0 h1; rw [h0] at h1; cases h1
        · simp [Array.getElem?_eq_none h'] at h1
      have hap := hfree j oj hjk hoj hji hjun hnot
      obtain ⟨a1, a2, a3⟩ := Oper.apart_spec hap
      have hfree' : ∀ l ol, l < k → ops[l]? = some ol → l ≠ i → (listed.setIfInBounds j true).getD l true = false →
          (∀ e ∈ ol.after, Region.binds .any e = true → e.on ≠ i) → oi.apart ops ol = true := fun l ol hl hol hli hun hno => by
        refine hfree l ol hl hol hli ?_ hno
        by_cases hjl : j = l
        · subst hjl; exact hjun
        · rw [getD_set_ne true hjl] at hun; exact hun
      refine ⟨oj, hoj, hdj, V, (YF.set a1).1 hyj, ?_⟩
      refine ih (listed.setIfInBounds j true) _ hfree' (ready_mono hr (Ne.symm hji)) ((YF.set a3).2 hy) ?_
      rw [Array.setIfInBounds_comm _ _ hji, ← frSet_comm fr U V a2]
      exact H1

/-- Is 'i' free to come first among the operations below 'k'? -/
def freeK (ops : Array Oper) (k : Nat) (listed : Array Bool) (i : Nat) : Bool :=
  match ops[i]? with
  | none => false
  | some oi => (List.range k).all fun j => j == i || listed.getD j true || match ops[j]? with
      | some oj => oj.after.any (fun e => Region.binds .any e && e.on == i) || oi.apart ops oj
      | none => true
def lexK (ops : Array Oper) (k : Nat) : Nat → Nat → Array Bool → Bool
  | 0, _, listed => (List.range k).all fun j => listed.getD j false
  | m + 1, i, listed => decide (i < k) && (Region.ready .any ops listed).contains i && freeK ops k listed i && lexK ops k m (i + 1) (listed.setIfInBounds i true)

/-- The text's order. -/
def aLex (P : Program) (T : Tab) (σ : Heap) (n : Nat) (ops : Array Oper) (K : Fr → Prop) : List Oper → Fr → Prop
  | [], fr => K fr
  | o :: l, fr =>
    match o.guard with
    | none => (evc P T σ fr o).D ∧ dstOk n o = true ∧ aLex P T σ n ops K l (frSet fr o.dst (evc P T σ fr o).V)
    | some _ => match gval ops fr o with
      | some g => (g = true → (evc P T σ fr o).D) ∧ dstOk n o = true ∧ aLex P T σ n ops K l (frSet fr o.dst (.gd g (evc P T σ fr o).V))
      | none => False

theorem aAny_lex {ops : Array Oper} {k : Nat} {K : Fr → Prop} : ∀ (l : List Oper) (i : Nat) (listed : Array Bool) (fr : Fr), (∀ j, j < l.length → ops[i + j]? = l[j]?) → lexK ops k l.length i listed = true → aLex P T σ n ops K l fr → aAny P T σ n ops k K l.length listed fr := by
  intro l
  induction l with
  | nil =>
    intro i listed fr _ hB h
    simp only [List.length_nil, lexK, List.all_eq_true, List.mem_range] at hB
    refine ⟨fun j hj hr => ?_, h⟩
    have h1 := hB j hj
    have h2 := (mem_ready.1 hr).1
    rcases Nat.lt_or_ge j listed.size with h' | h'
    · simp [h'] at h1 h2; rw [h1] at h2; cases h2
    · simp [Array.getElem?_eq_none h'] at h1
  | cons o l ih =>
    intro i listed fr hl hB h
    simp only [List.length_cons, lexK, Bool.and_eq_true, decide_eq_true_eq] at hB
    obtain ⟨⟨⟨hik, hr⟩, hf⟩, hB'⟩ := hB
    have h0 : ops[i]? = some o := by have := hl 0 (by simp); simpa using this
    have hfree : ∀ j oj, j < k → ops[j]? = some oj → j ≠ i → listed.getD j true = false → (∀ e ∈ oj.after, Region.binds .any e = true → e.on ≠ i) → o.apart ops oj = true := fun j oj hj hoj hne hun hno => by
      simp only [freeK, h0, List.all_eq_true, List.mem_range] at hf
      have h1 := hf j hj
      simp only [hoj, Bool.or_eq_true, beq_iff_eq, hne, false_or, hun, Bool.false_eq_true] at h1
      rcases h1 with h1 | h1
      · obtain ⟨e, he, hb⟩ := Array.any_eq_true'.1 h1
        simp only [Bool.and_eq_true, beq_iff_eq] at hb
        exact absurd hb.2 (hno e he hb.1)
      · exact h1
    have hl' : ∀ j, j < l.length → ops[i + 1 + j]? = l[j]? := fun j hj => by have := hl (j + 1) (by simpa using hj); rw [show i + 1 + j = i + (j + 1) by omega]; simpa using this
    simp only [aLex] at h
    split at h
    · rename_i hg
      exact aAny_first h0 hik h.2.1 l.length listed fr hfree (by simpa using hr) (by unfold YF; rw [hg]; exact ⟨h.1, rfl⟩) (ih (i + 1) _ _ hl' hB' h.2.2)
    · rename_i gw hg
      split at h
      · rename_i g hgv
        exact aAny_first h0 hik h.2.1 l.length listed fr hfree (by simpa using hr) (by unfold YF; rw [hg]; exact ⟨g, hgv, h.1, rfl⟩) (ih (i + 1) _ _ hl' hB' h.2.2)
      · exact h.elim
end
end Go.Lo

/-
  The program logic 'Lo', part K: regions that draw their order, in the real machine. Nothing of the program.
-/
set_option linter.unusedSimpArgs false
set_option linter.unusedVariables false
namespace Go.Lo
open Go

section
variable {P : Program} {T : Tab} {rd : Bool} {n : Nat} {σ : Heap} {ops : Array Oper}

theorem wpInO_post {F : Fence} {m : Nat} {o : Oper} {a : Act} {w : World} {K K' : Act → World → Prop} {Q Q' : Exit → Act → World → Prop} (hK : ∀ a w, K a w → K' a w) (hq : ∀ e a w, Q e a w → Q' e a w) (h : o.wpIn F m P a w K Q) : o.wpIn F m P a w K' Q' := by
  have h' := Oper.wpIn_mono hK h
  refine ⟨h'.1, ?_⟩
  have h2 := h'.2
  generalize (o.semAt F.round a.eval).run P w = r at *
  unfold Oper.uponIn at *
  split <;> rename_i hr <;> simp only at h2
  · exact h2
  · exact h2
  · exact h2
  · exact ⟨h2.1, h2.2.mono fun e w' k => by
      cases e with
      | returned v => exact k
      | panicked ch => exact hq _ _ _ k
      | outgrown => obtain ⟨a0, w0, k⟩ := k; exact ⟨a0, w0, hq _ _ _ k⟩⟩
  · exact h2
  · exact ⟨h2.1, h2.2.mono fun e w' k => by
      cases e with
      | returned v => exact k
      | panicked ch => exact hq _ _ _ k
      | outgrown => obtain ⟨a0, w0, k⟩ := k; exact ⟨a0, w0, hq _ _ _ k⟩⟩
  · exact hq _ _ _ h2

theorem wpOpIn_post {F : Fence} {m : Nat} {i : Nat} {a : Act} {w : World} {K K' : Act → World → Prop} {Q Q' : Exit → Act → World → Prop} (hK : ∀ a w, K a w → K' a w) (hq : ∀ e a w, Q e a w → Q' e a w)
    (h : wpOpIn F m P ops Q i K a w) : wpOpIn F m P ops Q' i K' a w := by
  unfold wpOpIn at *
  split
  · rename_i ho; simp only [ho] at h; exact hK _ _ h
  · rename_i o ho
    simp only [ho] at h
    split
    · rename_i hw; rw [if_pos hw] at h; exact wpInO_post hK hq h
    · rename_i hw; rw [if_neg hw] at h; exact ⟨h.1, hK _ _ h.2⟩

theorem wpAnyIn_post {F : Fence} {m : Nat} {md : Region.Mode} {Q Q' : Exit → Act → World → Prop} (hq : ∀ e a w, Q e a w → Q' e a w) : ∀ (fuel : Nat) (listed : Array Bool) (a : Act) (w : World), wpAnyIn F m P md ops Q fuel listed a w → wpAnyIn F m P md ops Q' fuel listed a w := by
  intro fuel
  induction fuel with
  | zero => exact fun _ _ _ h => ⟨h.1, hq _ _ _ h.2⟩
  | succ fuel ih => exact fun listed a w h => ⟨fun h0 => hq _ _ _ (h.1 h0), fun i hi => wpOpIn_post (fun a w => ih _ a w) hq (h.2 i hi)⟩

def preds (ops : Array Oper) (j : Nat) : List Nat :=
  match ops[j]? with
  | some o => (o.after.toList.filter fun e => Region.binds .any e).map (·.on)
  | none => []
def ancGo (ops : Array Oper) : Nat → List Nat → List Nat
  | 0, acc => acc
  | i + 1, acc => if acc.any fun j => (preds ops j).contains i then ancGo ops i (i :: acc) else ancGo ops i acc
def drawB (ops : Array Oper) (k : Nat) : Bool :=
  lexK ops k k 0 (Array.replicate ops.size false) && decide (k ≤ ops.size) && ((List.range ops.size).all fun j => (preds ops j).all fun p => decide (p < j)) &&
    ((List.range ops.size).all fun t => decide (t < k) || ((List.range t).all fun p => (ancGo ops t [t]).contains p))

def closedL (ops : Array Oper) (listed : Array Bool) : Prop := ∀ j, listed.getD j false = true → ∀ p ∈ preds ops j, listed.getD p false = true

theorem anc_listed {listed : Array Bool} (hc : closedL ops listed) : ∀ (i : Nat) (acc : List Nat), (∀ j ∈ acc, ∀ p ∈ preds ops j, listed.getD p false = true) → ∀ p ∈ ancGo ops i acc, p ∈ acc ∨ listed.getD p false = true := by
  intro i
  induction i with
  | zero => intro acc _ p hp; exact .inl hp
  | succ i ih =>
    intro acc hacc p hp
    simp only [ancGo] at hp
    split at hp
    · rename_i ha
      obtain ⟨j, hj, hji⟩ := List.any_eq_true.1 ha
      have hi : listed.getD i false = true := hacc j hj i (by simpa using hji)
      rcases ih (i :: acc) (fun j' hj' p' hp' => by
        rcases List.mem_cons.1 hj' with rfl | hj'
        · exact hc _ hi _ hp'
        · exact hacc j' hj' p' hp') p hp with h | h
      · rcases List.mem_cons.1 h with rfl | h
        · exact .inr hi
        · exact .inl h
      · exact .inr h
    · exact ih acc hacc p hp

theorem ready_iff {j : Nat} {listed : Array Bool} (hs : listed.size = ops.size) : j ∈ Region.ready .any ops listed ↔ j < ops.size ∧ listed.getD j false = false ∧ ∀ p ∈ preds ops j, listed.getD p false = true := by
  rw [mem_ready]
  constructor
  · rintro ⟨h0, o, ho, h1⟩
    have hlt := (Array.getElem?_eq_some_iff.1 ho).1
    refine ⟨hlt, ?_, fun p hp => ?_⟩
    · have : j < listed.size := by omega
      simp [this] at h0 ⊢; exact h0
    · simp only [preds, ho, List.mem_map, List.mem_filter] at hp
      obtain ⟨e, ⟨he, hb⟩, rfl⟩ := hp
      exact h1 e (by simpa using he) hb
  · rintro ⟨hlt, h0, h1⟩
    refine ⟨?_, ops[j], by simp [hlt], fun e he hb => h1 _ ?_⟩
    · have : j < listed.size := by omega
      simp [this] at h0 ⊢; exact h0
    · simp only [preds, Array.getElem?_eq_getElem hlt, List.mem_map, List.mem_filter]
      exact ⟨e, ⟨by simpa using he, hb⟩, rfl⟩

theorem getD_set_iff {listed : Array Bool} {i j : Nat} (hi : i < listed.size) : (listed.setIfInBounds i true).getD j false = true ↔ j = i ∨ listed.getD j false = true := by
  by_cases h : i = j
  · subst h; simp [hi]
  · rw [getD_set_ne false h]
    constructor
    · exact .inr
    · rintro (rfl | h'); exact absurd rfl h; exact h'

theorem closed_set {listed : Array Bool} (hs : listed.size = ops.size) (hc : closedL ops listed) {i : Nat} (hr : i ∈ Region.ready .any ops listed) : closedL ops (listed.setIfInBounds i true) := by
  obtain ⟨h1, h2, h3⟩ := (ready_iff hs).1 hr
  intro j hj p hp
  rw [getD_set_iff (by omega)] at hj ⊢
  rcases hj with rfl | hj
  · exact .inr (h3 p hp)
  · exact .inr (hc j hj p hp)

theorem wpAnyIn_tail {F : Fence} {m : Nat} {Q : Exit → Act → World → Prop} (hF : ∀ f, F.fn f) (k : Nat) (hlt : ∀ j, j < ops.size → ∀ p ∈ preds ops j, p < j) (hanc : ∀ t, k ≤ t → t < ops.size → ∀ p, p < t → p ∈ ancGo ops t [t]) :
    ∀ (l : List Oper) (t : Nat) (listed : Array Bool) (a : Act) (w : World), k ≤ t → t ≤ ops.size → listed.size = ops.size → (∀ j, listed.getD j false = true ↔ j < t) → l = ops.toList.drop t → wpL F m P ops Q l a w →
      wpAnyIn F m P .any ops Q l.length listed a w := by
  intro l
  induction l with
  | nil =>
    intro t listed a w hk ht hs hl hd h
    have hts : ops.size ≤ t := by have := congrArg List.length hd; simp at this; omega
    refine ⟨List.eq_nil_iff_forall_not_mem.2 fun j hj => ?_, h⟩
    obtain ⟨h1, h2, _⟩ := (ready_iff hs).1 hj
    have := (hl j).2 (by omega)
    rw [h2] at this; cases this
  | cons o l ih =>
    intro t listed a w hk ht hs hl hd h
    have hts : t < ops.size := by have := congrArg List.length hd; simp at this; omega
    have hc : closedL ops listed := fun j hj p hp => by
      have := (hl j).1 hj
      exact (hl p).2 (by have := hlt j (by omega) p hp; omega)
    have ho : ops[t]? = some o := by
      have : (ops.toList.drop t)[0]? = some o := by rw [← hd]; rfl
      simpa using this
    have ht' : t ∈ Region.ready .any ops listed := (ready_iff hs).2 ⟨hts, by
      cases hx : listed.getD t false with
      | false => rfl
      | true => have := (hl t).1 hx; omega, fun p hp => (hl p).2 (hlt t hts p hp)⟩
    refine ⟨fun h0 => (by rw [h0] at ht'; cases ht'), fun i hi => ?_⟩
    obtain ⟨i1, i2, i3⟩ := (ready_iff hs).1 hi
    have hit : i = t := by
      rcases Nat.lt_trichotomy i t with h1 | h1 | h1
      · have := (hl i).2 h1; rw [i2] at this; cases this
      · exact h1
      · have hin := hanc i (by omega) i1 t h1
        rcases anc_listed hc i [i] (fun j hj p hp => by simp at hj; subst hj; exact i3 p hp) t hin with h2 | h2
        · simp at h2; omega
        · have := (hl t).1 h2; omega
    subst hit
    have next : ∀ a w, wpL F m P ops Q l a w → wpAnyIn F m P .any ops Q l.length (listed.setIfInBounds i true) a w := fun a w => ih (i + 1) _ a w (by omega) (by omega) (by simp [hs]) (fun j => by
      rw [getD_set_iff (by omega), hl j]; omega) (by
        have := congrArg List.tail hd
        simpa [List.tail_drop] using this)
    unfold wpOpIn
    simp only [ho]
    simp only [wpL] at h
    split
    · rename_i hw; rw [if_pos hw] at h; exact Oper.wpIn_mono next h
    · rename_i hw; rw [if_neg hw] at h; exact ⟨fun f _ => hF f, next _ _ h⟩

theorem pops_draw (hT : T.ok P) {k : Nat} {K : Fr → Prop} {Q : PX → Fr → Heap → Prop} (hlt : ∀ j, j < ops.size → ∀ p ∈ preds ops j, p < j) (hanc : ∀ t, k ≤ t → t < ops.size → ∀ p, p < t → p ∈ ancGo ops t [t]) (hk : k ≤ ops.size)
    (hK : ∀ fr, K fr → pops P rd n ops (ops.toList.drop k) Q fr σ) : ∀ (c : Nat) (listed : Array Bool) (fr : Fr), aAny P T σ n ops k K c listed fr → closedL ops listed → listed.size = ops.size → (∀ j, listed.getD j false = true → j < k) →
    ∀ (G : Gh) (W : World) (A : Act) (r : Option Nat) (m base : Nat), r.isSome = rd → HRel G W σ → TRel G W n fr A.tmps → DRel base W A.defers → base ≤ W.heap.size →
      wpAnyIn (FW r) m P .any ops (Post G W σ n base Q) (c + (ops.size - k)) listed A W := by
  intro c
  induction c with
  | zero =>
    intro listed fr h hc hs hb G W A r m base h1 h2 h3 h4 h5
    have all : ∀ j, j < k → listed.getD j false = true := by
      intro j
      induction j using Nat.strongRecOn with
      | _ j ih =>
        intro hj
        cases hx : listed.getD j false with
        | true => rfl
        | false => exact absurd ((ready_iff hs).2 ⟨by omega, hx, fun p hp => by have := hlt j (by omega) p hp; exact ih p this (by omega)⟩) (h.1 j hj)
    have := wpAnyIn_tail (F := FW r) (m := m) (P := P) (fun _ => trivial) k hlt hanc (ops.toList.drop k) k listed A W (Nat.le_refl _) hk hs (fun j => ⟨hb j, all j⟩) rfl (hK fr h.2 G W A r m base h1 h2 h3 h4 h5)
    rw [List.length_drop, Array.length_toList] at this
    rw [Nat.zero_add]; exact this
  | succ c ih =>
    intro listed fr h hc hs hb G W A r m base h1 h2 h3 h4 h5
    obtain ⟨⟨i0, hi0, hr0⟩, h⟩ := h
    rw [show c + 1 + (ops.size - k) = c + (ops.size - k) + 1 by omega]
    refine ⟨fun h0 => (by rw [h0] at hr0; cases hr0), fun i hi => ?_⟩
    obtain ⟨i1, i2, i3⟩ := (ready_iff hs).1 hi
    obtain ⟨_, j2, _⟩ := (ready_iff hs).1 hr0
    have hik : i < k := by
      rcases Nat.lt_or_ge i k with h' | h'
      · exact h'
      · have hin := hanc i h' i1 i0 (by omega)
        rcases anc_listed hc i [i] (fun j hj p hp => by simp at hj; subst hj; exact i3 p hp) i0 hin with h6 | h6
        · simp at h6; omega
        · rw [j2] at h6; cases h6
    obtain ⟨o, ho, hd, U, hU, hn⟩ := h i hik hi
    have step := ih (listed.setIfInBounds i true) (frSet fr o.dst U) hn (closed_set hs hc hi) (by simp [hs]) (fun j hj => by
      rw [getD_set_iff (by omega)] at hj
      rcases hj with rfl | hj
      · exact hik
      · exact hb j hj)
    have hdf : ∀ v, (A.put o.dst v).defers = A.defers := fun v => by cases o.dst <;> rfl
    have hdd : ∀ d, o.dst = some d → d < n := fun d hd' => by simpa [dstOk, hd'] using hd
    unfold wpOpIn
    simp only [ho]
    unfold YF at hU
    split at hU
    · rename_i hg
      rw [show Region.wanted o (yielded ops A.tmps) = true by simp [Region.wanted, hg], if_pos rfl]
      refine qop_of_evc hT hU.1 G W A r m h2 h3 _ _ fun G' W' v he hr hv => ?_
      have hT' := (h3.mono (he.ext h2)).put (hU.2 ▸ hv) hdd
      exact wpAnyIn_post (fun e a w q => q.trans he) _ _ _ _ (step G' W' _ r m base h1 hr hT' (by rw [hdf]; exact h4.evol h2 he) (Nat.le_trans h5 he.size))
    · rename_i gw hg
      obtain ⟨g, hgv, hD, hUe⟩ := hU
      rw [gval_spec hgv h3]
      cases g with
      | true =>
        rw [if_pos rfl]
        refine qop_of_evc hT (hD rfl) G W A r m h2 h3 _ _ fun G' W' v he hr hv => ?_
        have hT' := (h3.mono (he.ext h2)).put (V := U) (hUe ▸ VRel.gd true _ v (fun _ => hv) (fun e => by cases e)) hdd
        exact wpAnyIn_post (fun e a w q => q.trans he) _ _ _ _ (step G' W' _ r m base h1 hr hT' (by rw [hdf]; exact h4.evol h2 he) (Nat.le_trans h5 he.size))
      | false =>
        rw [if_neg (by simp)]
        have hT' := h3.put (V := U) (hUe ▸ VRel.gd false _ undef (fun e => by cases e) (fun _ => rfl)) hdd
        exact ⟨fun _ _ => trivial, step G W _ r m base h1 h2 hT' (by rw [hdf]; exact h4) h5⟩

/-- **A region that draws its order**: 'k' operations in any order that the edges allow, the rest behind them. -/
theorem pwp_draw (hT : T.ok P) {id k : Nat} {Q : PX → Fr → Heap → Prop} {fr : Fr} (hm : P.follows .mixedOrders = true) (hB : drawB ops k = true)
    (h : aLex P T σ n ops (fun fr' => pst P T rd n ops Q (ops.toList.drop k) fr' σ) (ops.toList.take k) fr) : pwp P rd n (.region id ops true) Q fr σ := by
  intro G W A r m base h1 h2 h3 h4 h5
  simp only [drawB, Bool.and_eq_true, decide_eq_true_eq, List.all_eq_true, List.mem_range, Bool.or_eq_true] at hB
  obtain ⟨⟨⟨b1, b2⟩, b3⟩, b4⟩ := hB
  refine wpIn_region_any hm ?_
  have qd := QEv.drew h2
  have he := qd.evol h2
  have hlen : (ops.toList.take k).length = k := by simp; omega
  have key := aAny_lex (P := P) (T := T) (σ := σ) (n := n) (ops := ops) (k := k) (ops.toList.take k) 0 (Array.replicate ops.size false) fr (fun j hj => by
    rw [hlen] at hj
    rw [List.getElem?_take, if_pos hj]; simp) (by rw [hlen]; exact b1) h
  rw [hlen] at key
  have := pops_draw (rd := rd) (Q := Q) hT b3 (fun t h1 h2 p hp => by
    rcases b4 t h2 with h6 | h6
    · omega
    · simpa using h6 p hp) b2 (fun fr hk => pops_pst hT hk) k _ fr key (fun j hj => by
      have : (Array.replicate ops.size false).getD j false = false := by
        rw [Array.getD_eq_getD_getElem?, Array.getElem?_replicate]; split <;> rfl
      rw [this] at hj; cases hj) (by simp) (fun j hj => by
      have : (Array.replicate ops.size false).getD j false = false := by
        rw [Array.getD_eq_getD_getElem?, Array.getElem?_replicate]; split <;> rfl
      rw [this] at hj; cases hj) G W.drew A r m base h1 (qd.hrel h2) (h3.mono (he.ext h2)) (h4.evol h2 he) (Nat.le_trans h5 he.size)
  rw [show k + (ops.size - k) = ops.size by omega] at this
  exact wpAnyIn_post (fun e a w q => q.trans he) _ _ _ _ this
end
end Go.Lo

/-
  The program logic 'Lo', part L: what simp does with it. Nothing of the program.
-/
set_option linter.unusedSimpArgs false
set_option linter.unusedVariables false
namespace Go.Lo
open Go

@[simp] theorem sv_lit (v : Value) : sv (.lit v) = .lit v := rfl
@[simp] theorem sv_agg (v : List PV) : sv (.agg v) = .agg v := rfl
@[simp] theorem sv_tup (v : List PV) : sv (.tup v) = .tup v := rfl
@[simp] theorem sv_slice (f : Bool) (v : List (List PV)) : sv (.slice f v) = .slice f v := rfl
@[simp] theorem sv_ref (v : List PV) : sv (.ref v) = .ref v := rfl
@[simp] theorem sv_ptr (a b : Nat) : sv (.ptr a b) = .ptr a b := rfl
@[simp] theorem sv_msl (a b c d : Nat) (f : Bool) : sv (.msl a b c d f) = .msl a b c d f := rfl
@[simp] theorem sv_fn (f : Fn) (a b : List PV) : sv (.fn f a b) = .fn f a b := rfl
@[simp] theorem sv_yld (a : Nat) : sv (.yld a) = .yld a := rfl
@[simp] theorem sv_map (a : Nat) : sv (.map a) = .map a := rfl
@[simp] theorem sv_gd (g : Bool) (v : PV) : sv (.gd g v) = v := rfl
@[simp] theorem sv_iface (t : TypeId) (v : PV) : sv (.iface t v) = .iface t v := rfl
@[simp] theorem sv_any : sv .any = .any := rfl
@[simp] theorem avt_lit (v : Value) : avt (.lit v) = True := rfl
@[simp] theorem avt_agg (v : List PV) : avt (.agg v) = True := rfl
@[simp] theorem avt_tup (v : List PV) : avt (.tup v) = True := rfl
@[simp] theorem avt_slice (f : Bool) (v : List (List PV)) : avt (.slice f v) = True := rfl
@[simp] theorem avt_ref (v : List PV) : avt (.ref v) = True := rfl
@[simp] theorem avt_ptr (a b : Nat) : avt (.ptr a b) = True := rfl
@[simp] theorem avt_msl (a b c d : Nat) (f : Bool) : avt (.msl a b c d f) = True := rfl
@[simp] theorem avt_fn (f : Fn) (a b : List PV) : avt (.fn f a b) = True := rfl
@[simp] theorem avt_yld (a : Nat) : avt (.yld a) = True := rfl
@[simp] theorem avt_map (a : Nat) : avt (.map a) = True := rfl
@[simp] theorem avt_gd (g : Bool) (v : PV) : avt (.gd g v) = (g = true) := rfl
@[simp] theorem avt_iface (t : TypeId) (v : PV) : avt (.iface t v) = True := rfl
@[simp] theorem avt_any : avt .any = True := rfl

@[simp] theorem cellsP_lit (v : Value) : cellsP (.lit v) = [.lit v] := rfl
@[simp] theorem isCell_lit (v : Value) : isCell (.lit v) = (match v with | .agg _ => false | .tuple _ => false | _ => true) := by cases v <;> rfl
@[simp] theorem isCell1_lit (v : Value) : isCell1 (.lit v) = (match v with | .agg _ => false | .tuple _ => false | _ => true) := by cases v <;> rfl
@[simp] theorem cellsP_agg (v : List PV) : cellsP (.agg v) = v := rfl
@[simp] theorem isCell_agg (v : List PV) : isCell (.agg v) = true := rfl
@[simp] theorem isCell1_agg (v : List PV) : isCell1 (.agg v) = false := rfl
@[simp] theorem cellsP_slice (a : Bool) (v : List (List PV)) : cellsP (.slice a v) = [.slice a v] := rfl
@[simp] theorem isCell_slice (a : Bool) (v : List (List PV)) : isCell (.slice a v) = true := rfl
@[simp] theorem isCell1_slice (a : Bool) (v : List (List PV)) : isCell1 (.slice a v) = true := rfl
@[simp] theorem cellsP_ref (v : List PV) : cellsP (.ref v) = [.ref v] := rfl
@[simp] theorem isCell_ref (v : List PV) : isCell (.ref v) = true := rfl
@[simp] theorem isCell1_ref (v : List PV) : isCell1 (.ref v) = true := rfl
@[simp] theorem cellsP_ptr (a b : Nat) : cellsP (.ptr a b) = [.ptr a b] := rfl
@[simp] theorem isCell_ptr (a b : Nat) : isCell (.ptr a b) = true := rfl
@[simp] theorem isCell1_ptr (a b : Nat) : isCell1 (.ptr a b) = true := rfl
@[simp] theorem cellsP_msl (a b c d : Nat) (f : Bool) : cellsP (.msl a b c d f) = [.msl a b c d f] := rfl
@[simp] theorem isCell_msl (a b c d : Nat) (f : Bool) : isCell (.msl a b c d f) = true := rfl
@[simp] theorem isCell1_msl (a b c d : Nat) (f : Bool) : isCell1 (.msl a b c d f) = true := rfl
@[simp] theorem cellsP_fn (f : Fn) (a b : List PV) : cellsP (.fn f a b) = [.fn f a b] := rfl
@[simp] theorem isCell_fn (f : Fn) (a b : List PV) : isCell (.fn f a b) = true := rfl
@[simp] theorem isCell1_fn (f : Fn) (a b : List PV) : isCell1 (.fn f a b) = true := rfl
@[simp] theorem cellsP_yld (a : Nat) : cellsP (.yld a) = [.yld a] := rfl
@[simp] theorem isCell_yld (a : Nat) : isCell (.yld a) = true := rfl
@[simp] theorem isCell1_yld (a : Nat) : isCell1 (.yld a) = true := rfl
@[simp] theorem cellsP_map (a : Nat) : cellsP (.map a) = [.map a] := rfl
@[simp] theorem isCell_map (a : Nat) : isCell (.map a) = true := rfl
@[simp] theorem isCell1_map (a : Nat) : isCell1 (.map a) = true := rfl
@[simp] theorem cellsP_iface (t : TypeId) (v : PV) : cellsP (.iface t v) = [.iface t v] := rfl
@[simp] theorem isCell_iface (t : TypeId) (v : PV) : isCell (.iface t v) = true := rfl
@[simp] theorem isCell1_iface (t : TypeId) (v : PV) : isCell1 (.iface t v) = true := rfl
@[simp] theorem Tab.nil_dom (f : FuncId) : Tab.nil.dom f = false := rfl
@[simp] theorem Tab.add_dom (T : Tab) (f g : FuncId) (e : List PV → Heap → EV) : (T.add f e).dom g = (g == f || T.dom g) := rfl
@[simp] theorem Tab.add_ev (T : Tab) (f g : FuncId) (e : List PV → Heap → EV) (args : List PV) (σ : Heap) : (T.add f e).ev g args σ = if g = f then e args σ else T.ev g args σ := rfl
@[simp] theorem setR_nil0 (cs : List PV) : setR cs 0 [] = cs := by simp [setR]
@[simp] theorem setR_zero (c x : PV) (cs new : List PV) : setR (c :: cs) 0 (x :: new) = x :: setR cs 0 new := by simp [setR]
@[simp] theorem setR_succ (c : PV) (cs new : List PV) (n : Nat) : setR (c :: cs) (n + 1) new = c :: setR cs n new := by
  unfold setR
  rw [List.take_succ_cons, show n + 1 + new.length = (n + new.length) + 1 by omega, List.drop_succ_cons, List.cons_append, List.cons_append]

theorem wrap_i64 {x : Int} (h1 : -9223372036854775808 ≤ x) (h2 : x < 9223372036854775808) : IntKind.i64.wrap x = x := IntWalk.i64_in x ⟨by omega, by omega⟩

end Go.Lo

/-
  The program logic 'Lo', part M: memory that nobody writes any more goes inline. Nothing of the program.
-/
set_option linter.unusedSimpArgs false
set_option linter.unusedVariables false
namespace Go.Lo
open Go

def chunks (k len : Nat) (cs : List PV) : List (List PV) := (List.range len).map fun i => (cs.drop (i * k)).take k
def frzN : Nat → Heap → PV → PV
  | 0, _, v => v
  | n + 1, σ, v => match v with
    | .ptr id off => match σ id with
      | some (.cells cs) => .ref ((cs.drop off).map (frzN n σ))
      | _ => .ptr id off
    | .msl id k off len full => match σ id with
      | some (.cells cs) => if off + len * k ≤ cs.length then .slice full (chunks k len ((cs.drop off).map (frzN n σ))) else .msl id k off len full
      | _ => .msl id k off len full
    | .fn f a b => .fn f (a.map (frzN n σ)) (b.map (frzN n σ))
    | .tup vs => .tup (vs.map (frzN n σ))
    | .agg vs => .agg (vs.map (frzN n σ))
    | .gd g v => .gd g (frzN n σ v)
    | .iface t v => .iface t (frzN n σ v)
    | .slice full rows => .slice full (rows.map fun r => r.map (frzN n σ))
    | .ref cs => .ref (cs.map (frzN n σ))
    | v => v
def Heap.minus (σ σf : Heap) : Heap := fun id => if (σf id).isSome then none else σ id
theorem Heap.minus_apply (σ σf : Heap) (id : Nat) : (σ.minus σf) id = if (σf id).isSome then none else σ id := rfl

/-- The part that is frozen. -/
structure Frz (σf σ : Heap) : Prop where
  sub : ∀ id x, σf id = some x → σ id = some x
  cells : ∀ id x, σf id = some x → ∃ cs, x = .cells cs

section
variable {G : Gh} {W : World} {σ σf : Heap}

def Gh.frz (G : Gh) (σf : Heap) : Gh := { G with S := fun b o => G.S b o ∨ ∃ id cs loc j, σf id = some (.cells cs) ∧ G.β id = some loc ∧ loc.1 = b ∧ j < cs.length ∧ o = loc.2 + j }

theorem frz_step (hr : HRel G W σ) (hf : Frz σf σ) : HRel (G.frz σf) W (σ.minus σf) ∧ Evol G W σ (G.frz σf) W (σ.minus σf) := by
  have sub : ∀ id x, (σ.minus σf) id = some x → σ id = some x ∧ σf id = none := fun id x hx => by
    unfold Heap.minus at hx
    cases hy : σf id with
    | none => rw [hy] at hx; simpa using hx
    | some y => rw [hy] at hx; simp at hx
  have dom : ∀ id, (σ.minus σf) id ≠ none → σ id ≠ none := fun id hid => by
    obtain ⟨x, hx⟩ := some_of_ne hid
    rw [(sub id x hx).1]; simp
  refine ⟨⟨fun id x hx => ?_, fun id id' l l' h1 h2 => hr.inj id id' l l' (dom id h1) (dom id' h2), fun b o hs => ?_, hr.bnd⟩, ?_⟩
  · obtain ⟨s1, s2⟩ := sub id x hx
    obtain ⟨loc, l1, l2, l3⟩ := hr.obj id x s1
    refine ⟨loc, l1, l2.mono (show Ext G W (G.frz σf) W from ⟨fun _ _ h => Or.inl h, fun _ _ _ => rfl, fun _ _ h => h, fun _ _ h => h⟩) rfl, fun off hs => ?_⟩
    rcases hs with hs | ⟨id', cs, loc', j, q1, q2, q3, q4, q5⟩
    · exact l3 off hs
    · have := hr.inj id id' loc loc' (by rw [s1]; simp) (by rw [hf.sub _ _ q1]; simp) l1 q2 q3.symm
      subst this
      rw [s2] at q1; cases q1
  · rcases hs with hs | ⟨id', cs, loc', j, q1, q2, q3, q4, q5⟩
    · exact hr.stab b o hs
    · obtain ⟨loc, l1, l2, _⟩ := hr.obj id' _ (hf.sub _ _ q1)
      rw [q2] at l1; cases l1
      obtain ⟨cv, hc⟩ := l2.cell
      subst q3; subst q5
      exact ⟨_, (hc j q4).1⟩
  · exact
    { os := rfl, tape := rfl, output := rfl, size := Nat.le_refl _, keep := fun _ _ _ => rfl, shape := fun _ _ h => h, S := fun _ _ h => .inl h
      snew := fun b o hs => by
        rcases hs with hs | ⟨id', cs, loc', j, q1, q2, q3, q4, q5⟩
        · exact .inl hs
        · exact .inr (.inr ⟨id', loc', by rw [hf.sub _ _ q1]; simp, q2, q3⟩)
      β := fun _ _ h => h
      own := fun b ⟨id, loc, h1, h2, h3⟩ => .inr ⟨id, loc, dom id h1, h2, h3⟩
      fresh := fun id h => .inl (dom id h) }

theorem getD_map' {α : Type} (f : α → PV) (xs : List α) (d : α) (j : Nat) (h : j < xs.length) : (xs.map f).getD j .any = f (xs.getD j d) := by
  simp [List.getD, h]

theorem chunks_getD {k len i j : Nat} {cs : List PV} (hi : i < len) (hj : j < k) (hc : len * k ≤ cs.length) : ((chunks k len cs).getD i []).length = k ∧ ((chunks k len cs).getD i []).getD j .any = cs.getD (i * k + j) .any := by
  have h1 : (i + 1) * k ≤ len * k := Nat.mul_le_mul_right k (by omega)
  rw [Nat.add_mul, Nat.one_mul] at h1
  unfold chunks
  simp only [List.getD, List.getElem?_map, List.getElem?_range hi, Option.map_some, Option.getD_some]
  refine ⟨by simp; omega, ?_⟩
  rw [List.getElem?_take, if_pos hj, List.getElem?_drop]

theorem frzN_rel (hr : HRel G W σ) (hf : Frz σf σ) : ∀ (n : Nat) {v : PV} {x : Value}, VRel G W v x → VRel (G.frz σf) W (frzN n σf v) x := by
  have hE : Ext G W (G.frz σf) W := ⟨fun _ _ h => .inl h, fun _ _ _ => rfl, fun _ _ h => h, fun _ _ h => h⟩
  intro n
  induction n with
  | zero => intro v x h; exact h.mono hE
  | succ n ih =>
    intro v x h
    have lists : ∀ (cs : List PV) (g : Nat → Value), (∀ i, i < cs.length → VRel G W (cs.getD i .any) (g i)) → ∀ i, i < (cs.map (frzN n σf)).length → VRel (G.frz σf) W ((cs.map (frzN n σf)).getD i .any) (g i) := fun cs g hg i hi => by
      have hi' : i < cs.length := by simpa using hi
      rw [getD_map' _ _ .any _ hi']
      exact ih (hg i hi')
    cases h with
    | any v => exact .any _
    | lit v => exact .lit _
    | agg cs vs h1 h2 => exact .agg _ vs (by simp [h1]) (lists cs _ h2)
    | tup cs vs h1 h2 => exact .tup _ vs (by simp [h1]) (lists cs _ h2)
    | slice full rows b off len cap k cv h1 h2 h3 h4 h5 h6 h7 =>
      refine .slice full _ b off len cap k cv (by simp [h1]) h2 h3 h4 (fun i hi => ?_) (fun j hj => ⟨.inl (h6 j hj).1, (h6 j hj).2⟩) (fun i j hi hj => ?_)
      · have hi' : i < rows.length := by omega
        have := h5 i hi
        simpa [List.getD, hi'] using this
      · have hi' : i < rows.length := by omega
        have h8 := h5 i hi
        have e : (rows.map fun r => r.map (frzN n σf)).getD i [] = (rows.getD i []).map (frzN n σf) := by simp [List.getD, hi']
        rw [e, getD_map' _ _ .any _ (by omega)]
        exact ih (h7 i j hi hj)
    | nilsl full base cap h => exact .nilsl full base cap h
    | ref cs b off cv h6 h7 =>
      refine .ref _ b off cv (fun j hj => ?_) (lists cs cv h7)
      have hj' : j < cs.length := by simpa using hj
      exact ⟨.inl (h6 j hj').1, (h6 j hj').2⟩
    | ptr id o R δ h1 =>
      simp only [frzN]
      cases hc : σf id with
      | none => exact .ptr id o R δ h1
      | some ob =>
        obtain ⟨cs, rfl⟩ := hf.cells _ _ hc
        simp only
        obtain ⟨loc, l1, l2, _⟩ := hr.obj id _ (hf.sub _ _ hc)
        rw [h1] at l1; cases l1
        obtain ⟨cv, hcv⟩ := l2.cell
        refine .ref _ R (δ + o) (fun j => cv (o + j)) (fun j hj => ?_) (lists _ _ fun i hi => ?_)
        · have hj' : o + j < cs.length := by simp at hj; omega
          exact ⟨.inr ⟨id, cs, _, o + j, hc, h1, rfl, hj', by simp; omega⟩, by rw [Nat.add_assoc]; exact (hcv (o + j) hj').1⟩
        · have hi' : o + i < cs.length := by simp at hi; omega
          rw [getD_drop]; exact (hcv (o + i) hi').2
    | msl id k o len cap R δ nn b off full e h1 h2 h3 h4 h5 h6 h7 =>
      simp only [frzN]
      cases hc : σf id with
      | none => exact .msl id k o len cap R δ nn b off full e h1 h2 h3 h4 h5 h6 h7
      | some ob =>
        obtain ⟨cs, rfl⟩ := hf.cells _ _ hc
        simp only
        split
        · rename_i hle
          obtain ⟨loc, l1, l2, _⟩ := hr.obj id _ (hf.sub _ _ hc)
          rw [h1] at l1; cases l1
          obtain ⟨cv, hcv⟩ := l2.cell
          have hlen : len * k ≤ ((cs.drop o).map (frzN n σf)).length := by simp; omega
          refine .slice full _ b off len cap k (fun j => cv (o + j)) (by simp [chunks]) h2 h3 h4 (fun i hi => ?_) (fun j hj => ?_) (fun i j hi hj => ?_)
          · rcases Nat.eq_zero_or_pos k with hk | hk
            · subst hk; unfold chunks; simp [List.getD, hi]
            · exact (chunks_getD hi hk hlen).1
          · have hl0 : 0 < len := by
              rcases Nat.eq_zero_or_pos len with e | e
              · subst e; simp at hj
              · exact e
            obtain ⟨rfl, rfl⟩ := h5 (by omega)
            exact ⟨.inr ⟨id, cs, _, o + j, hc, h1, rfl, by omega, by simp; omega⟩, by rw [Nat.add_assoc]; exact (hcv (o + j) (by omega)).1⟩
          · rw [(chunks_getD hi hj hlen).2]
            have hij : i * k + j < len * k := by
              have h8 : (i + 1) * k ≤ len * k := Nat.mul_le_mul_right k (by omega)
              rw [Nat.add_mul, Nat.one_mul] at h8; omega
            refine lists _ (fun j => cv (o + j)) (fun i hi => ?_) (i * k + j) (by simp; omega)
            have hi' : o + i < cs.length := by simp at hi; omega
            rw [getD_drop]; exact (hcv (o + i) hi').2
        · exact .msl id k o len cap R δ nn b off full e h1 h2 h3 h4 h5 h6 h7
    | fn f a b vf vc h1 h2 h3 h4 => exact .fn f _ _ vf vc (by simp [h1]) (lists a _ h2) (by simp [h3]) (lists b _ h4)
    | yld id R h1 => exact .yld id R h1
    | map id R h1 => exact .map id R h1
    | gd g p _ h1 h2 => exact .gd g _ _ (fun e => ih (h1 e)) h2
    | iface t p _ h1 => exact .iface t _ _ (ih h1)
end

section
variable {P : Program} {rd : Bool} {n : Nat} {fr : Fr} {σ : Heap}

theorem pwp_frz {c : Code} {Q : PX → Fr → Heap → Prop} (k : Nat) (σf : Heap) (hf : Frz σf σ) (h : pwp P rd n c Q (fun t => frzN k σf (fr t)) (σ.minus σf)) : pwp P rd n c Q fr σ :=
  pwp_state h fun _ _ _ h2 h3 =>
    let ⟨k1, k2⟩ := frz_step h2 hf
    ⟨_, k1, ⟨h3.1, fun t => frzN_rel h2 hf k (h3.2 t)⟩, k2⟩

def frzO (k : Nat) (σ : Heap) : Out → Out
  | .val v => .val (frzN k σ v)
  | .pan v => .pan (frzN k σ v)

theorem pcalls_frz {f : FuncId} {args : List PV} {K : Out → Heap → Prop} (h : pcalls P f args σ fun o σ' => ∃ k σf, Frz σf σ' ∧ K (frzO k σf o) (σ'.minus σf)) : pcalls P f args σ K :=
  fun G W xs m h1 h2 => (h G W xs m h1 h2).mono fun e W' ⟨o, σ', G', ⟨k, σf, hf, hK⟩, k2, k3, k4⟩ => by
    obtain ⟨s1, s2⟩ := frz_step k4 hf
    refine ⟨frzO k σf o, σ'.minus σf, _, hK, ?_, k3.trans s2, s1⟩
    cases o <;> cases e <;> simp only [OutRel, frzO] at k2 ⊢
    · exact frzN_rel k4 hf k k2
    · obtain ⟨x, rfl, hx⟩ := k2; exact ⟨x, rfl, frzN_rel k4 hf k hx⟩

/-- One object. -/
def Heap.one (id : Nat) (o : PObj) : Heap := fun j => if j = id then some o else none
theorem Heap.one_apply (id : Nat) (o : PObj) (j : Nat) : (Heap.one id o) j = if j = id then some o else none := rfl
theorem Frz.one {id : Nat} {cs : List PV} (h : σ id = some (.cells cs)) : Frz (Heap.one id (.cells cs)) σ :=
  ⟨fun j x hx => (by unfold Heap.one at hx; split at hx <;> simp_all), fun j x hx => ⟨cs, by unfold Heap.one at hx; split at hx <;> simp_all⟩⟩
theorem Frz.none : Frz Heap.empty σ := ⟨fun _ _ h => (by cases h), fun _ _ h => (by cases h)⟩

/-- A result that is only read: 'full' is forgotten, and what is known of the memory. -/
theorem VRel.unfull {G : Gh} {W : World} {full : Bool} {rows : List (List PV)} {v : Value} (h : VRel G W (.slice full rows) v) : VRel G W (.slice false rows) v := by
  cases h with
  | nilsl _ base cap _ => exact .nilsl false base cap (fun e => by cases e)
  | slice _ _ b off len cap k cv h1 h2 h3 _ h5 h6 h7 => exact .slice false rows b off len cap k cv h1 h2 h3 (fun e => by cases e) h5 h6 h7

theorem pcalls.weak {f : FuncId} {args : List PV} {r : PV} (h : pcalls P f args σ fun o _ => ∃ rows full, r = .slice false rows ∧ o = .val (.slice full rows)) : pcalls P f args σ fun o _ => o = .val r :=
  fun G W xs m h1 h2 => (h G W xs m h1 h2).mono fun e W' ⟨o, σ', G', ⟨rows, full, hr, ho⟩, k2, k3, k4⟩ => by
    subst hr; subst ho
    refine ⟨.val (.slice false rows), σ', G', rfl, ?_, k3, k4⟩
    cases e <;> simp only [OutRel] at k2 ⊢
    exact k2.unfull
end

theorem chunks_flatten {k : Nat} : ∀ (rows : List (List PV)), (∀ r ∈ rows, r.length = k) → chunks k rows.length rows.flatten = rows := by
  intro rows h
  obtain ⟨h1, h2⟩ := flatten_getD h
  unfold chunks
  refine List.ext_getElem? fun i => ?_
  rcases Nat.lt_or_ge i rows.length with hi | hi
  · rw [List.getElem?_map, List.getElem?_range hi]
    simp only [Option.map_some, List.getElem?_eq_getElem hi]
    congr 1
    have hl : (rows[i]).length = k := h _ (List.getElem_mem hi)
    have h3 : (i + 1) * k ≤ rows.length * k := Nat.mul_le_mul_right k (by omega)
    rw [Nat.add_mul, Nat.one_mul] at h3
    refine List.ext_getElem? fun j => ?_
    rcases Nat.lt_or_ge j k with hj | hj
    · rw [List.getElem?_take, if_pos hj, List.getElem?_drop]
      have := h2 i j hi hj
      simp only [List.getD, List.getElem?_eq_getElem hi, Option.getD_some] at this
      have a1 : i * k + j < rows.flatten.length := by omega
      have a2 : j < (rows[i]).length := by omega
      rw [List.getElem?_eq_getElem a1, List.getElem?_eq_getElem a2] at this ⊢
      simpa using this
    · rw [List.getElem?_eq_none (by simp; omega), List.getElem?_eq_none (by omega)]
  · rw [List.getElem?_eq_none (by simpa using hi), List.getElem?_eq_none hi]
end Go.Lo
