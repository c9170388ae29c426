/-
  The program logic 'Lo', part O: from a given statement to a contract: arguments read as plain data. Nothing of the program.
-/
import Derived.Test.YtgcoikbgpkfcnaaLoN
import Derived.ProofKit
import Derived.Deep.Slices
set_option linter.unusedSimpArgs false
set_option linter.unusedVariables false
namespace Go.Lo
open Go

def G0 (W : World) : Gh := ⟨fun b o => (W.cell? ⟨b, o, none⟩).isSome = true, fun _ => none⟩
theorem hrel0 (W : World) : HRel (G0 W) W Heap.empty :=
  ⟨fun _ _ h => (by cases h), fun _ _ _ _ h => absurd rfl h, fun _ _ h => Option.isSome_iff_exists.1 h, 0, fun _ _ => rfl⟩

section
variable {P : Program}

/-- A list of cells. -/
def CRel (G : Gh) (W : World) (ps : List PV) (vs : List Value) : Prop := ps.length = vs.length ∧ ∀ i, i < vs.length → VRel G W (ps.getD i .any) (vs.getD i undef)

/-- What reads at type t is an α: its cells. -/
def Reads (P : Program) (t : TypeId) (α : Type) (enc : α → List PV) (wf : α → Prop) : Prop :=
  ∀ {H : Type} (en : TypeId × Value → H) (W : World) (sp : Nat → Bool) (hd : Bool) (fuel : Nat) (cs : List Value) (x : DataW H × List MemPlace), DataW.trod en P W 0 sp hd fuel t cs = some x → ∃ a, wf a ∧ CRel (G0 W) W (enc a) cs
/-- .. as a value. -/
def ReadsV (P : Program) (t : TypeId) (α : Type) (enc : α → PV) (wf : α → Prop) : Prop :=
  ∀ {H : Type} (en : TypeId × Value → H) (W : World) (sp : Nat → Bool) (hd : Bool) (b : Nat) (v : Value) (d : DataW H) (ps : List MemPlace), Value.okWide P W .any b t v → DataW.Trod en P W 0 sp hd t v d ps → ∃ a, wf a ∧ VRel (G0 W) W (enc a) v

theorem CRel.one {G : Gh} {W : World} {p : PV} {v : Value} (h : VRel G W p v) : CRel G W [p] [v] := ⟨rfl, fun i hi => by
  have : i = 0 := by simpa using hi
  subst this; exact h⟩

theorem reads_int {t : TypeId} {k : IntKind} (ht : P.underlying t = some (.int k)) : Reads P t Int (fun x => [.lit (.int k x)]) (fun x => (Lit.int k x).wf = true) := fun en W sp hd fuel cs x h => by
  obtain ⟨n, rfl, rfl, hw⟩ := DataW.trod_int ht h
  exact ⟨n, hw, .one (.lit _)⟩
theorem reads_bool {t : TypeId} (ht : P.underlying t = some .bool) : Reads P t Bool (fun x => [.lit (.bool x)]) (fun _ => True) := fun en W sp hd fuel cs x h => by
  obtain ⟨n, rfl, rfl⟩ := DataW.trod_bool ht h
  exact ⟨n, trivial, .one (.lit _)⟩
theorem reads_string {t : TypeId} (ht : P.underlying t = some .string) : Reads P t ByteArray (fun x => [.lit (.string x)]) (fun x => x.size ≤ maxLen) := fun en W sp hd fuel cs x h => by
  obtain ⟨n, rfl, rfl, hw⟩ := DataW.trod_string ht h
  exact ⟨n, hw, .one (.lit _)⟩

theorem choose_list {α : Type} {p : Nat → α → Prop} (n : Nat) (h : ∀ i, i < n → ∃ a, p i a) : ∃ l : List α, l.length = n ∧ ∀ i a, l[i]? = some a → p i a := by
  induction n with
  | zero => exact ⟨[], rfl, fun i a h => by simp at h⟩
  | succ n ih =>
    obtain ⟨l, h1, h2⟩ := ih fun i hi => h i (by omega)
    obtain ⟨a, ha⟩ := h n (by omega)
    refine ⟨l ++ [a], by simp [h1], fun i b hb => ?_⟩
    rcases Nat.lt_trichotomy i n with hi | hi | hi
    · rw [List.getElem?_append_left (by omega)] at hb; exact h2 i b hb
    · subst hi
      rw [List.getElem?_append_right (by omega), h1] at hb
      simp at hb; subst hb; exact ha
    · rw [List.getElem?_eq_none (by simp; omega)] at hb; cases hb

theorem reads_slice {t e : TypeId} {k : Nat} {α : Type} {enc : α → List PV} {wf : α → Prop} (ht : P.underlying t = some (.slice e)) (hk : P.cellsOf e = k) (h0 : 0 < k) (he : Reads P e α enc wf) :
    Reads P t (List α) (fun l => [.slice false (l.map enc)]) (fun l => l.length ≤ maxLen ∧ ∀ a ∈ l, wf a ∧ (enc a).length = k) := fun en W sp hd fuel cs x h => by
  rcases Go.Deep.open_slice ht h with ⟨rfl, rfl⟩ | ⟨a, len, cap, m, n, D, Pl, rfl, _, hl, hm, hmm, rfl, hx⟩
  · exact ⟨[], ⟨Nat.zero_le _, fun a ha => (by cases ha)⟩, .one (.nilsl _ _ _ (fun e => by cases e))⟩
  · rw [hk] at hx
    have hlm : len ≤ m := by rw [hmm]; split <;> omega
    rcases Nat.eq_zero_or_pos len with hz | hz
    · subst hz
      exact ⟨[], ⟨Nat.zero_le _, fun a ha => (by cases ha)⟩, .one (.nilsl _ _ _ (fun e => by cases e))⟩
    · have hspot : a.spot = none := by
        obtain ⟨cs', c1, _⟩ := hx 0 (by omega)
        obtain ⟨_, c2, c3⟩ := World.cells?_some c1
        have := c3 0 h0
        rw [List.getElem?_eq_getElem (by omega)] at this
        have := World.cell?_spot this
        simpa [Addr.add] using this
      obtain ⟨b, off, spot⟩ := a
      simp only at hspot
      subst hspot
      obtain ⟨l, l1, l2⟩ := choose_list (p := fun i (a : α × List Value) => wf a.1 ∧ W.cells? 0 ((⟨b, off, none⟩ : Addr).add (i * k)) k = some a.2 ∧ CRel (G0 W) W (enc a.1) a.2) len fun i hi => by
        obtain ⟨cs', c1, c2⟩ := hx i (by omega)
        obtain ⟨a, a1, a2⟩ := he en W sp hd n cs' _ c2
        exact ⟨(a, cs'), a1, c1, a2⟩
      have lens : ∀ (i : Nat) (a : α × List Value), l[i]? = some a → (enc a.1).length = k ∧ a.2.length = k := fun i a ha => by
        obtain ⟨_, q2, q3⟩ := l2 i a ha
        obtain ⟨_, q4, _⟩ := World.cells?_some q2
        exact ⟨by rw [q3.1, q4], q4⟩
      refine ⟨l.map (·.1), ⟨by simp; omega, fun a ha => ?_⟩, .one ?_⟩
      · obtain ⟨p, hp, rfl⟩ := List.mem_map.1 ha
        obtain ⟨i, hi, hip⟩ := List.getElem_of_mem hp
        have : l[i]? = some p := by rw [List.getElem?_eq_getElem hi, hip]
        exact ⟨(l2 i p this).1, (lens i p this).1⟩
      · have cellAt : ∀ i j, i < len → j < k → ∃ p, l[i]? = some p ∧ W.cell? ⟨b, off + (i * k + j), none⟩ = some (p.2.getD j undef) ∧ VRel (G0 W) W ((enc p.1).getD j .any) (p.2.getD j undef) := fun i j hi hj => by
          have hil : i < l.length := by omega
          refine ⟨l[i], List.getElem?_eq_getElem hil, ?_⟩
          obtain ⟨_, q2, q3⟩ := l2 i l[i] (List.getElem?_eq_getElem hil)
          obtain ⟨_, q4, q5⟩ := World.cells?_some q2
          have := q5 j hj
          rw [add_cell, add_cell, List.getElem?_eq_getElem (by omega)] at this
          refine ⟨?_, q3.2 j (by omega)⟩
          rw [show off + (i * k + j) = off + i * k + j by omega, this]
          simp [List.getD, show j < (l[i]).2.length by omega]
        refine .slice false _ b off len cap k (fun j => ((l.getD (j / k) (Classical.choice (by obtain ⟨p, _⟩ := cellAt 0 0 hz h0; exact ⟨p⟩))).2).getD (j % k) undef) (by simp [l1]) hl (by omega) (fun e => by cases e) (fun i hi => ?_) (fun j hj => ?_) (fun i j hi hj => ?_)
        · have hil : i < l.length := by omega
          have := (lens i l[i] (List.getElem?_eq_getElem hil)).1
          simpa [List.getD, hil] using this
        · obtain ⟨i, r, rfl, hi, hr⟩ := row_split hj
          obtain ⟨p, p1, p2, _⟩ := cellAt i r hi hr
          have e1 : (i * k + r) / k = i := by rw [Nat.add_comm, Nat.add_mul_div_right _ _ h0, Nat.div_eq_of_lt hr, Nat.zero_add]
          have e2 : (i * k + r) % k = r := by rw [Nat.add_comm, Nat.add_mul_mod_self_right, Nat.mod_eq_of_lt hr]
          refine ⟨by show (W.cell? _).isSome = true; rw [p2]; rfl, ?_⟩
          rw [e1, e2, p2]
          simp [List.getD, p1]
        · obtain ⟨p, p1, p2, p3⟩ := cellAt i j hi hj
          have e1 : (i * k + j) / k = i := by rw [Nat.add_comm, Nat.add_mul_div_right _ _ h0, Nat.div_eq_of_lt hj, Nat.zero_add]
          have e2 : (i * k + j) % k = j := by rw [Nat.add_comm, Nat.add_mul_mod_self_right, Nat.mod_eq_of_lt hj]
          rw [e1, e2]
          have e3 : ((l.map (·.1)).map enc).getD i [] = enc p.1 := by simp [List.getD, p1]
          rw [e3]
          simpa [List.getD, p1] using p3

/-! ### Structs -/
/-- Fields from 'off' on. -/
def RF (P : Program) : List Field → Nat → (α : Type) → (α → List PV) → (α → Prop) → Prop
  | [], _, α, enc, _ => ∀ a : α, enc a = []
  | f :: fs, off, α, enc, wf => f.offset = off ∧ ∃ (β γ : Type) (eb : β → List PV) (wb : β → Prop) (ec : γ → List PV) (wc : γ → Prop) (mk : β → γ → α), Reads P f.type β eb wb ∧ RF P fs (off + P.cellsOf f.type) γ ec wc ∧
      ∀ b c, wb b → wc c → (enc (mk b c) = eb b ++ ec c ∧ wf (mk b c))

/-- Two fields. -/
theorem reads_struct2 {t : TypeId} {f g : Field} {α β : Type} {ea : α → List PV} {wa : α → Prop} {eb : β → List PV} {wb : β → Prop} {k m : Nat} (ht : P.underlying t = some (.struct #[f, g])) (hf : f.offset = 0) (hg : g.offset = k) (hk : P.cellsOf f.type = k) (hm : P.cellsOf g.type = m)
    (hs : P.cellsOf t = k + m) (ra : Reads P f.type α ea wa) (rb : Reads P g.type β eb wb) : Reads P t (α × β) (fun x => ea x.1 ++ eb x.2) (fun x => wa x.1 ∧ wb x.2) := fun en W sp hd fuel cs x h => by
  obtain ⟨xs, n, rfl, rfl, hl, hxs, hx⟩ := DataW.trod_struct ht h
  have h0 := hx 0 f (by simp)
  have h1 := hx 1 g (by simp)
  simp at hxs
  rw [List.getElem?_eq_getElem (by omega)] at h0 h1
  rw [hf, hk, List.drop_zero] at h0
  rw [hg, hm] at h1
  obtain ⟨a, a1, a2⟩ := ra en W sp hd n _ _ h0
  obtain ⟨b, b1, b2⟩ := rb en W sp hd n _ _ h1
  have q1 : (cs.take k).length = k := by rw [List.length_take]; omega
  have q2 : ((cs.drop k).take m).length = m := by rw [List.length_take, List.length_drop]; omega
  refine ⟨(a, b), ⟨a1, b1⟩, by simp only [List.length_append]; rw [a2.1, b2.1, q1, q2]; omega, fun i hi => ?_⟩
  rcases Nat.lt_or_ge i k with hlt | hge
  · have := a2.2 i (by omega)
    have e1 : (ea a ++ eb b).getD i .any = (ea a).getD i .any := by simp only [List.getD]; rw [List.getElem?_append_left (by rw [a2.1, q1]; exact hlt)]
    have e2 : (cs.take k).getD i undef = cs.getD i undef := by simp [List.getD, hlt]
    rw [e1, ← e2]; exact this
  · have := b2.2 (i - k) (by omega)
    have e1 : (ea a ++ eb b).getD i .any = (eb b).getD (i - k) .any := by simp only [List.getD]; rw [List.getElem?_append_right (by rw [a2.1, q1]; exact hge), a2.1, q1]
    have e2 : ((cs.drop k).take m).getD (i - k) undef = cs.getD i undef := by
      simp only [List.getD]
      rw [List.getElem?_take, if_pos (by omega), List.getElem?_drop, show k + (i - k) = i by omega]
    rw [e1, ← e2]; exact this

/-! ### Values -/
theorem cellOk_one {W : World} {b : Nat} {t : TypeId} {v : Value} (h : Cell.okWide P W .any b t v) : v.cells = #[v] := by
  unfold Cell.okWide at h
  cases v with
  | agg cs => exfalso; revert h; cases hu : P.underlying t with
    | none => simp [Cell.ok, hu]
    | some u => cases u <;> simp [Cell.ok, hu]
  | _ => rfl

theorem readsV_one {t : TypeId} {α : Type} {enc : α → PV} {wf : α → Prop} (hs : ∀ u, P.underlying t = some u → match u with | .struct _ => False | .array _ _ => False | _ => True) (h : Reads P t α (fun a => [enc a]) wf) : ReadsV P t α enc wf := fun en W sp hd b v d ps hok ⟨fuel, htr⟩ => by
  have hone : v.cells = #[v] := by
    refine cellOk_one (P := P) (W := W) (b := b) (t := t) ?_
    unfold Value.okWide at hok
    cases hu : P.underlying t with
    | none => rw [hu] at hok; exact hok
    | some u => rw [hu] at hok; have := hs u hu; cases u <;> first | exact hok | exact this.elim
  rw [hone] at htr
  obtain ⟨a, h1, h2⟩ := h en W sp hd fuel _ _ htr
  exact ⟨a, h1, h2.2 0 (by simp)⟩

theorem readsV_agg {t : TypeId} {α : Type} {enc : α → List PV} {wf : α → Prop} {fs : Array Field} (ht : P.underlying t = some (.struct fs)) (h : Reads P t α enc wf) : ReadsV P t α (fun a => .agg (enc a)) wf := fun en W sp hd b v d ps hok ⟨fuel, htr⟩ => by
  unfold Value.okWide at hok
  rw [ht] at hok
  obtain ⟨cs, rfl, _⟩ := hok
  obtain ⟨a, h1, h2⟩ := h en W sp hd fuel _ _ htr
  refine ⟨a, h1, .agg _ cs (by rw [h2.1]; simp [Value.cells]) fun i hi => ?_⟩
  have := h2.2 i (by rw [h2.1] at hi; exact hi)
  simpa [Value.cells, Array.getD_eq_getD_getElem?, List.getD] using this

theorem Reads.conv {t : TypeId} {α β : Type} {enc : α → List PV} {wf : α → Prop} {enc' : β → List PV} {wf' : β → Prop} (h : Reads P t α enc wf) (g : α → β) (hg : ∀ a, wf a → wf' (g a) ∧ enc' (g a) = enc a) : Reads P t β enc' wf' := fun en W sp hd fuel cs x hx => by
  obtain ⟨a, h1, h2⟩ := h en W sp hd fuel cs x hx
  obtain ⟨g1, g2⟩ := hg a h1
  exact ⟨g a, g1, by rw [g2]; exact h2⟩
theorem ReadsV.conv {t : TypeId} {α β : Type} {enc : α → PV} {wf : α → Prop} {enc' : β → PV} {wf' : β → Prop} (h : ReadsV P t α enc wf) (g : α → β) (hg : ∀ a, wf a → wf' (g a) ∧ enc' (g a) = enc a) : ReadsV P t β enc' wf' := fun en W sp hd b v d ps ho hx => by
  obtain ⟨a, h1, h2⟩ := h en W sp hd b v d ps ho hx
  obtain ⟨g1, g2⟩ := hg a h1
  exact ⟨g a, g1, by rw [g2]; exact h2⟩

/-! ### A law's contract -/
theorem law_calls {f : FuncId} {pvs : List PV} {args : Array Value} {W : World} (h : PFun P f pvs (.lit (.bool true))) (hr : RelL (G0 W) W pvs args) :
    Calls P f args W fun e W' => e = .returned (.bool true) ∧ Go.RowKit.Below W.heap.size W W' := by
  have := h (G0 W) W args 0 (hrel0 W) hr
  refine ((callsIn_wide (n := 0)).1 this).mono ?_
  rintro e W' ⟨o, σ', G', rfl, k2, k3, k4⟩
  cases e with
  | returned x =>
    simp only [OutRel] at k2
    have := lit_inv k2
    subst this
    exact ⟨rfl, k3.os, k3.tape, k3.output, k3.size, fun k hk => k3.keep k hk fun ⟨id, _, q, _⟩ => q rfl⟩
  | panicked ch => simp only [OutRel] at k2
  | outgrown => simp only [OutRel] at k2

theorem trodAll_below {H : Type} {en : TypeId × Value → H} {W W' : World} (hl : laidOutB P = true) (hb : Go.RowKit.Below W.heap.size W W') : ∀ {ts : List TypeId} {vs : List Value} {ds : List (DataW H)} {ps : List MemPlace},
    (∀ t ∈ ts, P.readableRec t = true ∧ t < P.types.size) → (∀ x ∈ ps, x.block < W.heap.size) → DataW.TrodAll en P W 0 (fun _ => true) true ts vs ds ps → DataW.TrodAll en P W' 0 (fun b => decide (b < W.heap.size)) true ts vs ds ps := by
  intro ts
  induction ts with
  | nil =>
    intro vs ds ps _ _ h
    match vs, ds, h with
    | [], [], h => exact h
  | cons t ts ih =>
    intro vs ds ps ht hlt h
    match vs, ds, h with
    | v :: vs, d :: ds, h =>
      obtain ⟨p, q, h1, h2, rfl⟩ := h
      refine ⟨p, q, Go.RowKit.Below.trod hl (ht t (List.mem_cons_self ..)).1 (ht t (List.mem_cons_self ..)).2 h1 hb (fun x hx => hlt x (List.mem_append_left _ hx)), ih (fun t' ht' => ht t' (List.mem_cons_of_mem _ ht')) (fun x hx => hlt x (List.mem_append_right _ hx)) h2, rfl⟩

theorem law_post {H : Type} {en : TypeId × Value → H} {fn : Func} {s : ChangeSpec} {W W' : World} {args : Array Value} {ds gs : List (DataW H)} {before : List MemPlace} {tb : TypeId} (hl : laidOutB P = true) (hvars : s.vars = [])
    (hpar : ∀ t ∈ fn.params.toList, P.readableRec t = true ∧ t < P.types.size) (hres : fn.resultTypes = #[tb]) (htb : P.underlying tb = some .bool)
    (hs : (s.fn H ds).results = [.lit (.bool true)] ∧ (s.fn H ds).args = ds ∧ (s.fn H ds).vars = []) (hW : DataW.Whole en P fn.params.toList s.vars false W args.toList ds gs before) (hb : Go.RowKit.Below W.heap.size W W') :
    s.post en P fn false true false false W args (.bool true) W' := by
  have hW' := hW
  obtain ⟨p, q, hA, hV, rfl, _, _⟩ := hW
  rw [hvars] at hV
  obtain ⟨rfl, rfl⟩ := Go.ChangeShapes.trodVars_none hV
  have hlt : ∀ x ∈ p, x.block < W.heap.size := fun x hx => by have := hW'.lt x (List.mem_append_left _ hx); simpa using this
  refine ⟨ds, [], p ++ [], [], p, [], hW', ?_, ?_, ?_, Go.RowKit.Below.frame hb _, fun e => by cases e⟩
  · rw [List.append_nil, hs.1, hres]
    exact ⟨[], [], Go.RowKit.shut_bool htb true, rfl, rfl⟩
  · rw [List.append_nil, hs.2.1]
    exact trodAll_below hl hb hpar hlt hA
  · rw [List.append_nil, hs.2.2, hvars]
    rfl
end
end Go.Lo
