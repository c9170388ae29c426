/-
  The program logic 'Lo', part G: contracts of functions, calls, a function from its body. Nothing of the program.
-/
import Derived.Test.YtgcoikbgpkfcnaaLoF
set_option linter.unusedSimpArgs false
set_option linter.unusedVariables false
namespace Go.Lo
open Go

/-- **The contract of a function**: called with values that read as 'args', in memory that holds 'σ'. -/
def pcalls (P : Program) (f : FuncId) (args : List PV) (σ : Heap) (K : Out → Heap → Prop) : Prop :=
  ∀ (G : Gh) (W : World) (xs : Array Value) (m : Nat), HRel G W σ → RelL G W args xs →
    CallsIn (FW none) m P f xs W fun e W' => ∃ o σ' G', K o σ' ∧ OutRel G' W' o e ∧ Evol G W σ G' W' σ' ∧ HRel G' W' σ'

/-- A function that only computes. -/
def PFun (P : Program) (f : FuncId) (args : List PV) (r : PV) : Prop := pcalls P f args Heap.empty fun o _ => o = .val r

def Heap.patch (σ σ1 σ1' : Heap) : Heap := fun id => if (σ1' id).isSome then σ1' id else if (σ1 id).isSome then none else σ id

section
variable {P : Program} {rd : Bool} {n : Nat} {fr : Fr} {σ : Heap}

theorem pcalls.mono {f : FuncId} {args : List PV} {K K' : Out → Heap → Prop} (h : pcalls P f args σ K) (hK : ∀ o σ', K o σ' → K' o σ') : pcalls P f args σ K' :=
  fun G W xs m h1 h2 => (h G W xs m h1 h2).mono fun _ _ ⟨o, σ', G', k1, k2⟩ => ⟨o, σ', G', hK _ _ k1, k2⟩

/-- Less may be said of the memory behind. -/
theorem pcalls.less {f : FuncId} {args : List PV} {K : Out → Heap → Prop} (h : pcalls P f args σ fun o σ' => ∃ σ'', (∀ id x, σ'' id = some x → σ' id = some x) ∧ K o σ'') : pcalls P f args σ K :=
  fun G W xs m h1 h2 => (h G W xs m h1 h2).mono fun _ _ ⟨o, σ', G', ⟨σ'', k0, k1⟩, k2, k3, k4⟩ => ⟨o, σ'', G', k1, k2, k3.less (fun id hid => by
    cases hx : σ'' id with
    | none => exact absurd hx hid
    | some x => rw [k0 id x hx]; simp), k4.less k0⟩

theorem some_of_ne {α : Type} {x : Option α} (h : x ≠ none) : ∃ y, x = some y := by
  cases x with
  | none => exact absurd rfl h
  | some y => exact ⟨y, rfl⟩

/-- What a step on a part of the memory does to the whole of it. -/
theorem frame_patch {σ1 σ1' : Heap} {G G' : Gh} {W W' : World} (hs : ∀ id x, σ1 id = some x → σ id = some x) (h : HRel G W σ) (he : Evol G W σ1 G' W' σ1') (h' : HRel G' W' σ1') :
    HRel G' W' (σ.patch σ1 σ1') ∧ Evol G W σ G' W' (σ.patch σ1 σ1') := by
  have h1 : HRel G W σ1 := h.less hs
  have dom1 : ∀ id, σ1 id ≠ none → σ id ≠ none := fun id hid => by obtain ⟨x, hx⟩ := some_of_ne hid; rw [hs id x hx]; simp
  have img1 : ∀ {b}, Img G σ1 b → Img G σ b := fun hb => hb.more dom1
  -- an object of the rest: untouched
  have rest : ∀ id o, σ1 id = none → σ id = some o → ∃ loc, G.β id = some loc ∧ loc.1 < W.heap.size ∧ ¬ Img G σ1 loc.1 ∧ ORel G W loc o ∧ (∀ off, ¬ G.S loc.1 off) := fun id o hn ho => by
    obtain ⟨loc, l1, l2, l3⟩ := h.obj id o ho
    refine ⟨loc, l1, img_lt h ⟨id, loc, by rw [ho]; simp, l1, rfl⟩, ?_, l2, l3⟩
    rintro ⟨id1, loc1, q1, q2, q3⟩
    have := h.inj id1 id loc1 loc (dom1 id1 q1) (by rw [ho]; simp) q2 l1 q3
    subst this; exact q1 hn
  have cases3 : ∀ id o, σ.patch σ1 σ1' id = some o → σ1' id = some o ∨ (σ1' id = none ∧ σ1 id = none ∧ σ id = some o) := fun id o ho => by
    unfold Heap.patch at ho
    cases hx : σ1' id with
    | some x => rw [hx] at ho; simp at ho; exact .inl (by rw [ho])
    | none =>
      rw [hx] at ho
      cases hy : σ1 id with
      | some x => rw [hy] at ho; simp at ho
      | none => rw [hy] at ho; simp at ho; exact .inr ⟨rfl, rfl, ho⟩
  have apart : ∀ id1 id2 l1 l2, σ1' id1 ≠ none → σ1 id2 = none → σ id2 ≠ none → G'.β id1 = some l1 → G.β id2 = some l2 → l1.1 = l2.1 → False := fun id1 id2 l1 l2 q1 q2 q3 q4 q5 q6 => by
    obtain ⟨o, ho⟩ := some_of_ne q3
    obtain ⟨loc, r1, r2, r3, _⟩ := rest id2 o q2 ho
    rw [q5] at r1; cases r1
    rcases he.own l1.1 ⟨id1, l1, q1, q4, rfl⟩ with hh | hh
    · omega
    · rw [q6] at hh; exact r3 hh
  refine ⟨⟨fun id o ho => ?_, fun id id' l l' q1 q2 q3 q4 q5 => ?_, h'.stab, h'.bnd⟩, ?_⟩
  · rcases cases3 id o ho with hh | ⟨_, hh, ho'⟩
    · exact h'.obj id o hh
    · obtain ⟨loc, l1, l2, l3, l4, l5⟩ := rest id o hh ho'
      refine ⟨loc, he.β _ _ l1, l4.mono (he.ext h1) (he.keep _ l2 l3), fun off hs' => ?_⟩
      rcases he.snew _ _ hs' with r | r | r
      · exact l5 off r
      · omega
      · exact l3 r
  · obtain ⟨o, ho⟩ := some_of_ne q1
    obtain ⟨o', ho'⟩ := some_of_ne q2
    rcases cases3 id o ho with a | ⟨_, a, a'⟩ <;> rcases cases3 id' o' ho' with b | ⟨_, b, b'⟩
    · exact h'.inj id id' l l' (by rw [a]; simp) (by rw [b]; simp) q3 q4 q5
    · obtain ⟨loc, r1, _⟩ := rest id' o' b b'
      have := he.β _ _ r1; rw [q4] at this; cases this
      exact (apart id id' l l' (by rw [a]; simp) b (by rw [b']; simp) q3 r1 q5).elim
    · obtain ⟨loc, r1, _⟩ := rest id o a a'
      have := he.β _ _ r1; rw [q3] at this; cases this
      exact (apart id' id l' l (by rw [b]; simp) a (by rw [a']; simp) q4 r1 q5.symm).elim
    · obtain ⟨loc, r1, _⟩ := rest id o a a'
      obtain ⟨loc', r2, _⟩ := rest id' o' b b'
      have e1 := he.β _ _ r1; rw [q3] at e1; cases e1
      have e2 := he.β _ _ r2; rw [q4] at e2; cases e2
      exact h.inj id id' l l' (by rw [a']; simp) (by rw [b']; simp) r1 r2 q5
  · exact
    { os := he.os, tape := he.tape, output := he.output, size := he.size
      keep := fun b hb hi => he.keep b hb fun hx => hi (img1 hx)
      shape := he.shape, S := he.S
      snew := fun b o hs' => (he.snew b o hs').elim .inl fun x => x.elim (fun y => .inr (.inl y)) fun y => .inr (.inr (img1 y))
      β := he.β
      own := fun b ⟨id, loc, q1, q2, q3⟩ => by
        obtain ⟨o, ho⟩ := some_of_ne q1
        rcases cases3 id o ho with a | ⟨_, a, a'⟩
        · exact (he.own b ⟨id, loc, by rw [a]; simp, q2, q3⟩).elim .inl fun x => .inr (img1 x)
        · obtain ⟨loc', r1, _⟩ := rest id o a a'
          have e1 := he.β _ _ r1; rw [q2] at e1; cases e1
          exact .inr ⟨id, loc, by rw [a']; simp, r1, q3⟩
      fresh := fun id q1 => by
        obtain ⟨o, ho⟩ := some_of_ne q1
        rcases cases3 id o ho with a | ⟨_, a, a'⟩
        · exact (he.fresh id (by rw [a]; simp)).elim (fun x => .inl (dom1 id x)) .inr
        · exact .inl (by rw [a']; simp) }

theorem pcalls.frame {f : FuncId} {args : List PV} {σ1 : Heap} {K : Out → Heap → Prop} (h : pcalls P f args σ1 K) (hs : ∀ id x, σ1 id = some x → σ id = some x) :
    pcalls P f args σ fun o σ' => ∃ σ1', K o σ1' ∧ σ' = σ.patch σ1 σ1' :=
  fun G W xs m h1 h2 => (h G W xs m (h1.less hs) h2).mono fun _ _ ⟨o, σ1', G', k1, k2, k3, k4⟩ =>
    let ⟨p1, p2⟩ := frame_patch hs h1 k3 k4
    ⟨o, _, G', ⟨σ1', k1, rfl⟩, k2, p2, p1⟩

theorem PFun.calls {f : FuncId} {args : List PV} {r : PV} (h : PFun P f args r) : pcalls P f args σ fun o σ' => o = .val r ∧ σ' = σ := by
  intro G W xs m h1 h2
  have hs : ∀ id x, Heap.empty id = some x → σ id = some x := fun id x hx => by cases hx
  refine (h G W xs m (h1.less hs) h2).mono ?_
  rintro e W' ⟨o, σ1', G', rfl, k2, k3, k4⟩
  obtain ⟨p1, p2⟩ := frame_patch hs h1 k3 k4
  have keep : ∀ id x, σ id = some x → σ.patch Heap.empty σ1' id = some x := fun id x hx => by
    unfold Heap.patch
    cases hy : σ1' id with
    | none => simp [Heap.empty, hx]
    | some y =>
      rcases k3.fresh id (by rw [hy]; simp) with q | q
      · exact absurd rfl q
      · obtain ⟨loc, l1, _⟩ := h1.obj id x hx
        rw [q] at l1; cases l1
  exact ⟨_, σ, G', ⟨rfl, rfl⟩, k2, p2.less (fun id hid => by obtain ⟨x, hx⟩ := some_of_ne hid; rw [keep id x hx]; simp), p1.less keep⟩

/-! ### Calls -/
def Enters (P : Program) (f : FuncId) : Prop := ∀ args w, (callFunc f args).run P w = .ok (.enter f args) w

def argsP (fr : Fr) (xs : Array Operand) : List PV := xs.toList.map fun x => sv (opv fr x)

theorem RelL.append {G : Gh} {W : World} {cs ds : List PV} {vs ws : Array Value} (h : RelL G W cs vs) (k : RelL G W ds ws) : RelL G W (cs ++ ds) (vs ++ ws) := by
  refine ⟨by simp [h.1, k.1], fun i hi => ?_⟩
  rw [List.length_append] at hi
  rcases Nat.lt_or_ge i cs.length with hl | hl
  · have := h.2 i hl
    have hl' : i < vs.size := by rw [h.1]; exact hl
    simpa [List.getD, hl, hl', Array.getElem?_append_left, List.getElem?_append_left] using this
  · have := k.2 (i - cs.length) (by omega)
    have hl' : vs.size ≤ i := by rw [h.1]; exact hl
    simpa [List.getD, hl, Array.getElem?_append_right hl', List.getElem?_append_right hl, h.1] using this

theorem wpIn_enter {o : Oper} {A : Act} {W W' : World} {r : Option Nat} {m : Nat} {next : Act → World → Prop} {Q : Exit → Act → World → Prop} {f : FuncId} {xs : Array Value} {R : Ending → World → Prop} (hd : ∀ c, o.op ≠ .defer c)
    (hr : (execOp A.eval o).run P W = .ok (.enter f xs) W') (hc : CallsIn (FW none) (m - 1) P f xs W' R)
    (hR : ∀ e w, R e w → match e with
      | .returned v => next (A.put o.dst v) w
      | .panicked ch => Q (.panic ch) A w
      | .outgrown => False) : o.wpIn (FW r) m P A W next Q := by
  refine ⟨fun _ _ => trivial, ?_⟩
  rw [show (FW r).round = r from rfl, semAt_exec hd, hr]
  refine And.intro (fun h => by cases h) ?_
  have hc' : CallsIn (FW r) (m - 1) P f xs W' R := hc
  refine hc'.mono fun e w k => ?_
  have := hR e w k
  cases e with
  | returned v => exact this
  | panicked ch => exact this
  | outgrown => exact this.elim

/-- What is known of the function value that is called. -/
theorem gop_call {o : Oper} {c : Call} {fo : Operand} {g : FuncId} {first captured : List PV} {K : Out → Heap → Prop} (ho : o.op = .call c) (hcl : c.callee = .value fo) (hg : sv (opv fr fo) = .fn (.func g) first captured) (hga : avt (opv fr fo))
    (he : Enters P g) (ha : ∀ x ∈ c.args.toList, avt (opv fr x)) (h : pcalls P g (first ++ argsP fr c.args ++ captured) σ K) : gop P rd n o fr σ K := by
  intro G W A r m h1 h2 h3 next Q hn hp
  have hf := sv_rel (opv_rel h3 fo) hga
  rw [hg] at hf
  generalize hv : A.eval fo = v at hf
  cases hf with
  | fn _ _ _ vf vc g1 g2 g3 g4 =>
  have hargs : RelL G W (argsP fr c.args) (c.args.map A.eval) := list_rel h3 ha
  have hall : RelL G W (first ++ argsP fr c.args ++ captured) (vf ++ c.args.map A.eval ++ vc) := (RelL.append ⟨g1, g2⟩ hargs).append ⟨g3, g4⟩
  have hrun : (execOp A.eval o).run P W = .ok (.enter g (vf ++ c.args.map A.eval ++ vc)) W := by
    simp only [execOp, ho, resolve, hcl, hv, Deferred.ofValue, Sem.run_bind, Sem.run_pure, Result.andThen_ok, invoke]
    exact he _ _
  refine wpIn_enter (fun c' hc => by rw [ho] at hc; cases hc) hrun (h G W _ (m - 1) h2 hall) ?_
  rintro e W' ⟨out, σ', G', k1, k2, k3, k4⟩
  cases e with
  | returned x => cases out <;> simp only [OutRel] at k2; exact hn _ _ _ _ _ k1 k3 k4 k2
  | panicked ch =>
    cases out <;> simp only [OutRel] at k2
    obtain ⟨x, rfl, hx⟩ := k2
    exact hp _ _ _ _ _ k1 k3 k4 hx
  | outgrown => cases out <;> simp only [OutRel] at k2

/-- A call that leaves the memory as it is. -/
theorem qop_call {o : Oper} {c : Call} {fo : Operand} {g : FuncId} {first captured : List PV} {V : PV} (ho : o.op = .call c) (hcl : c.callee = .value fo) (hg : sv (opv fr fo) = .fn (.func g) first captured) (hga : avt (opv fr fo))
    (he : Enters P g) (ha : ∀ x ∈ c.args.toList, avt (opv fr x)) (h : pcalls P g (first ++ argsP fr c.args ++ captured) σ fun o σ' => o = .val V ∧ σ' = σ) : qop P n o fr σ V :=
  fun G W A r m h2 h3 next Q hn => gop_call (rd := r.isSome) ho hcl hg hga he ha h G W A r m rfl h2 h3 next Q (fun V' σ' G' W' v hK h4 h5 h6 => by
    obtain ⟨e1, e2⟩ := hK
    cases e1; subst e2
    exact hn G' W' v h4 h5 h6) (fun V' σ' G' W' v hK _ _ _ => by cases hK.1)

/-! ### A function from its body -/
def Fr.init (args : List PV) : Fr := fun t => args.getD t (.lit undef)

def rvP (P : Program) (fr : Fr) (σ : Heap) : ResultVar → EV
  | .tmp t => ⟨avt (fr t), sv (fr t)⟩
  | .cell a t => ⟨avt (fr a) ∧ (evL P σ t (sv (fr a))).D, (evL P σ t (sv (fr a))).V⟩
def resP (P : Program) (rs : List ResultVar) (fr : Fr) (σ : Heap) : EV :=
  match rs with
  | [] => ⟨True, .lit (.tuple #[])⟩
  | [r] => rvP P fr σ r
  | rs => ⟨∀ r ∈ rs, (rvP P fr σ r).D, .tup (rs.map fun r => (rvP P fr σ r).V)⟩

def rvS (tmps : Array Value) : ResultVar → Sem Value
  | .tmp t => pure (tmps.getD t undef)
  | .cell a t => do loadVar t (← asAddr (tmps.getD a undef))

theorem asAddr_load {v : Value} {t : TypeId} {W : World} {u : Value} (h : (Instr.loadAt t v).run P W = .ok u W) : (do loadVar t (← asAddr v) : Sem Value).run P W = .ok u W := by
  cases v <;> simp [Instr.loadAt, Instr.sureAddr] at h
  rename_i a
  cases a with
  | none => simp at h
  | some a => simpa [asAddr] using h

theorem rv_run {G : Gh} {W : World} {tmps : Array Value} (hr : HRel G W σ) (hT : TRel G W n fr tmps) {r : ResultVar} (h : (rvP P fr σ r).D) : ∃ u, (rvS tmps r).run P W = .ok u W ∧ VRel G W (rvP P fr σ r).V u := by
  cases r with
  | tmp t => exact ⟨_, rfl, sv_rel (hT.2 t) h⟩
  | cell a t =>
    obtain ⟨u, r1, r2⟩ := evL_run (P := P) hr (sv_rel (hT.2 a) h.1) h.2
    exact ⟨u, asAddr_load r1, r2⟩

theorem rvs_run {G : Gh} {W : World} {tmps : Array Value} (hr : HRel G W σ) (hT : TRel G W n fr tmps) : ∀ {rs : List ResultVar}, (∀ r ∈ rs, (rvP P fr σ r).D) →
    ∃ us : List Value, (rs.mapM (rvS tmps)).run P W = .ok us W ∧ us.length = rs.length ∧ ∀ i, i < rs.length → VRel G W ((rs.map fun r => (rvP P fr σ r).V).getD i .any) (us.getD i undef) := by
  intro rs
  induction rs with
  | nil => intro _; exact ⟨[], by simp, rfl, by simp⟩
  | cons r rs ih =>
    intro h
    obtain ⟨u, r1, r2⟩ := rv_run hr hT (h r (List.mem_cons_self ..))
    obtain ⟨us, g1, g2, g3⟩ := ih (fun x hx => h x (List.mem_cons_of_mem _ hx))
    refine ⟨u :: us, by simp only [List.mapM_cons, Sem.run_bind, r1, Result.andThen_ok, g1, Sem.run_pure], by simp [g2], fun i hi => ?_⟩
    cases i with
    | zero => exact r2
    | succ i => exact g3 i (by simpa using hi)

theorem results_run {G : Gh} {W : World} {tmps : Array Value} {fn : Func} (hr : HRel G W σ) (hT : TRel G W n fr tmps) (h : (resP P fn.results.toList fr σ).D) :
    ∃ u, (results fn tmps).run P W = .ok u W ∧ VRel G W (resP P fn.results.toList fr σ).V u := by
  have key : ∀ us : List Value, (fn.results.toList.mapM (rvS tmps)).run P W = .ok us W → (results fn tmps).run P W = .ok (if h : us.toArray.size = 1 then us.toArray[0] else .tuple us.toArray) W := fun us hus => by
    have e : results fn tmps = (do let vs ← fn.results.mapM (rvS tmps); pure (if h : vs.size = 1 then vs[0] else .tuple vs)) := by
      unfold results
      congr 1
    rw [e, Array.mapM_eq_mapM_toList]
    simp [hus]
  generalize fn.results.toList = rs at *
  match rs, h, key with
  | [], h, key =>
    refine ⟨_, key [] (by simp), ?_⟩
    exact .lit _
  | [r], h, key =>
    obtain ⟨u, r1, r2⟩ := rv_run hr hT h
    exact ⟨u, by simpa using key [u] (by simp [r1]), r2⟩
  | r0 :: r1 :: rs', h, key =>
    obtain ⟨rs, hrs⟩ : ∃ rs, rs = r0 :: r1 :: rs' := ⟨_, rfl⟩
    simp only [resP]
    rw [← hrs] at h key ⊢
    have h1 : ∀ r, rs ≠ [r] := fun r e => by rw [e] at hrs; cases hrs
    have h : ∀ r ∈ rs, (rvP P fr σ r).D := by rw [hrs]; rw [hrs] at h; exact h
    obtain ⟨us, g1, g2, g3⟩ := rvs_run hr hT h
    refine ⟨_, key us g1, ?_⟩
    have hne : ¬ us.toArray.size = 1 := by
      intro hx
      simp at hx
      rw [hx] at g2
      match rs, g2, h1 with
      | [r], _, h1 => exact h1 r rfl
    rw [dif_neg hne]
    refine .tup _ _ (by simp [g2]) fun i hi => ?_
    have := g3 i (by simpa using hi)
    simpa [List.getD, Array.getD_eq_getD_getElem?] using this

/-- What a function's body must achieve. -/
def bodyQ (P : Program) (rs : List ResultVar) (K : Out → Heap → Prop) : PX → Fr → Heap → Prop
  | .normal, fr, σ | .ret, fr, σ => (resP P rs fr σ).D ∧ K (.val (resP P rs fr σ).V) σ
  | .pan v, _, σ => K (.pan v) σ
  | _, _, _ => False

theorem Evol.takeD {G : Gh} {W : World} {σ : Heap} (hr : HRel G W σ) {D : Nat} {x : Option (List Deferred)} (hD : W.heap[D]? = some (.deferred x)) :
    HRel G (W.putObj D (.deferred none)) σ ∧ Ext G W G (W.putObj D (.deferred none)) := by
  have hS : ∀ b o, G.S b o → b ≠ D := fun b o hs e => by
    obtain ⟨v, hv⟩ := hr.stab b o hs
    subst e
    simp [World.cell?, hD] at hv
  have hE : Ext G W G (W.putObj D (.deferred none)) := ⟨fun _ _ h => h, fun b o hs => World.cell_block (World.putObj_heap_other (hS b o hs)), fun _ _ h => h, fun b s hs => by
    by_cases e : b = D
    · subst e; simp [World.shape?, hD] at hs
    · exact (shape_block (World.putObj_heap_other e)).trans hs⟩
  refine ⟨⟨fun id o ho => ?_, hr.inj, fun b o hs => ?_, hr.bnd⟩, hE⟩
  · obtain ⟨loc, l1, l2, l3⟩ := hr.obj id o ho
    refine ⟨loc, l1, l2.mono hE (World.putObj_heap_other ?_), l3⟩
    intro e
    exact hr.deferred hD ⟨id, loc, by rw [ho]; simp, l1, e⟩
  · obtain ⟨v, hv⟩ := hr.stab b o hs
    exact ⟨v, (World.cell_block (World.putObj_heap_other (hS b o hs))).trans hv⟩

theorem leaves_marks {fn : Func} {G0 G : Gh} {W0 W : World} {σ0 σ : Heap} {tmps : Array Value} {R : Ending → World → Prop} {m : Nat} {u : FrameMode} (hu : u ≠ .run)
    (hfin : ∀ W', HRel G W' σ → Ext G W G W' → Evol G0 W0 σ0 G W' σ → LeavesIn (FW none) m P fn tmps R [] u W') :
    ∀ (Ds : List Nat) (W1 : World), Ds.Nodup → (∀ D ∈ Ds, W0.heap.size ≤ D ∧ W1.heap[D]? = some (.deferred (some []))) → HRel G W1 σ → Ext G W G W1 → Evol G0 W0 σ0 G W1 σ →
      LeavesInM (FW none) m P fn tmps R (Ds.map fun D => { target := .collected D, args := #[] }) u W1 := by
  intro Ds
  induction Ds with
  | nil => intro W1 _ _ h1 h2 h3; exact hfin W1 h1 h2 h3
  | cons D Ds ih =>
    intro W1 hnd hD h1 h2 h3
    obtain ⟨d1, d2⟩ := hD D (List.mem_cons_self ..)
    obtain ⟨k1, k2⟩ := Evol.takeD h1 d2
    refine ⟨hu, .inl ⟨D, _, rfl, run_takeDeferred d2, ?_⟩⟩
    refine ih _ (List.nodup_cons.1 hnd).2 (fun D' hD' => ?_) k1 ?_ ?_
    · obtain ⟨e1, e2⟩ := hD D' (List.mem_cons_of_mem _ hD')
      refine ⟨e1, (World.putObj_heap_other ?_).trans e2⟩
      intro e; subst e; exact (List.nodup_cons.1 hnd).1 hD'
    · exact ⟨fun b o hs => hs, fun b o hs => (k2.cell b o hs).trans (h2.cell b o hs), fun _ _ h => h, fun b s hs => k2.shape b s (h2.shape b s hs)⟩
    · exact
      { os := h3.os, tape := h3.tape, output := h3.output, size := by rw [World.putObj_size]; exact h3.size
        keep := fun b hb hi => (World.putObj_heap_other (by omega)).trans (h3.keep b hb hi)
        shape := fun b s hs => k2.shape b s (h3.shape b s hs)
        S := h3.S, snew := h3.snew, β := h3.β, own := h3.own, fresh := h3.fresh }

theorem init_rel {G : Gh} {W : World} {args : List PV} {xs : Array Value} (h : RelL G W args xs) (hl : args.length ≤ n) : TRel G W n (Fr.init args) (xs ++ Array.replicate (n - xs.size) undef) := by
  refine ⟨by simp [h.1]; omega, fun t => ?_⟩
  unfold Fr.init
  rcases Nat.lt_or_ge t args.length with ht | ht
  · have := h.2 t ht
    have hx : t < xs.size := by rw [h.1]; exact ht
    simpa [List.getD, ht, Array.getElem?_append_left, hx] using this
  · have hx : xs.size ≤ t := by rw [h.1]; exact ht
    have e1 : args.getD t (.lit undef) = .lit undef := by simp [List.getD, List.getElem?_eq_none ht]
    have e2 : (xs ++ Array.replicate (n - xs.size) undef).getD t undef = undef := by
      rw [Array.getD_eq_getD_getElem?, Array.getElem?_append_right hx]
      rcases Nat.lt_or_ge (t - xs.size) (n - xs.size) with h1 | h1
      · simp [h1]
      · simp [h1]
    rw [e1, e2]; exact .lit _

/-- **The contract of a function, from its body.** -/
theorem pcalls_body {f : FuncId} {fn : Func} {c : Code} {args : List PV} {K : Out → Heap → Prop} {rs : List ResultVar} (hf : P.funcs[f]? = some fn) (hb : fn.body = some c) (hn : fn.ntmps = n) (hrs : fn.results.toList = rs) (hl : args.length ≤ n)
    (h : pwp P false n c (bodyQ P rs K) (Fr.init args) σ) : pcalls P f args σ K := by
  intro G W xs m h1 h2
  subst hrs
  refine callsIn_of_wp_marks hf hb trivial ?_
  rw [hn]
  refine wpIn_mono (h G W _ none m W.heap.size rfl h1 (init_rel h2 hl) (.nil _ _) (Nat.le_refl _)) fun e A W' k => ?_
  obtain ⟨pe, fr, σ', G', k1, k2, k3, k4, k5, Ds, d1, d2, d3⟩ := k
  have fin : ∀ (u : FrameMode) (hu : u ≠ .run), (∀ W2, HRel G' W2 σ' → Ext G' W' G' W2 → Evol G W σ G' W2 σ' → LeavesIn (FW none) m P fn A.tmps (fun e W' => ∃ o σ' G', K o σ' ∧ OutRel G' W' o e ∧ Evol G W σ G' W' σ' ∧ HRel G' W' σ') [] u W2) →
      LeavesInM (FW none) m P fn A.tmps (fun e W' => ∃ o σ' G', K o σ' ∧ OutRel G' W' o e ∧ Evol G W σ G' W' σ' ∧ HRel G' W' σ') A.defers u W' := fun u hu hx => by
    rw [d1]
    exact leaves_marks hu hx Ds W' d2 d3 k4 (.refl _ _) k3
  have back : (resP P fn.results.toList fr σ').D ∧ K (.val (resP P fn.results.toList fr σ').V) σ' → LeavesInM (FW none) m P fn A.tmps (fun e W' => ∃ o σ' G', K o σ' ∧ OutRel G' W' o e ∧ Evol G W σ G' W' σ' ∧ HRel G' W' σ') A.defers .returning W' := fun ⟨q1, q2⟩ => by
    refine fin .returning (by simp) fun W2 g1 g2 g3 => ?_
    obtain ⟨v, r1, r2⟩ := results_run g1 (k5.mono g2) q1
    exact ⟨v, r1, _, σ', G', q2, r2, g3, g1⟩
  cases e with
  | normal => cases pe <;> simp only [XRel] at k2; exact back k1
  | ret => cases pe <;> simp only [XRel] at k2; exact back k1
  | panic ch =>
    cases pe <;> simp only [XRel] at k2
    obtain ⟨x, rfl, hx⟩ := k2
    exact fin _ (by simp) fun W2 g1 g2 g3 => ⟨_, σ', G', k1, ⟨x, rfl, hx.mono g2⟩, g3, g1⟩
  | exit i => cases pe <;> simp only [XRel] at k2; exact k1
  | goto i => cases pe <;> simp only [XRel] at k2; exact k1
  | outgrown => cases pe <;> simp only [XRel] at k2
end
end Go.Lo
