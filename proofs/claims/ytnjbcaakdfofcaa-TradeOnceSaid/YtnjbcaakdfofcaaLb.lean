/-
  The program logic 'Lo', part N: ranges over functions. Nothing of the program.
-/
import Derived.Test.YtnjbcaakdfofcaaLa
import Derived.ProofKit
import Derived.Deep.Slices
set_option linter.unusedSimpArgs false
set_option linter.unusedVariables false
namespace Go.Lo
open Go

section
variable {P : Program} {rd : Bool} {n : Nat} {fr : Fr} {σ : Heap} {G : Gh} {W : World}

theorem evol_junk (hr : HRel G W σ) (ob : Obj) : HRel G (W.alloc ob) σ ∧ Evol G W σ G (W.alloc ob) σ := by
  have hE : Ext G W G (W.alloc ob) := ⟨fun _ _ h => h, fun b o hs => by obtain ⟨v, hv⟩ := hr.stab b o hs; exact World.cell_block (heap_alloc_old W ob (lt_of_cell hv)), fun _ _ h => h,
    fun b s hs => (shape_block (heap_alloc_old W ob (lt_of_shape hs))).trans hs⟩
  refine ⟨⟨fun id o ho => ?_, hr.inj, fun b o hs => ?_, hr.bnd⟩, ?_⟩
  · obtain ⟨loc, l1, l2, l3⟩ := hr.obj id o ho
    exact ⟨loc, l1, l2.mono hE (heap_alloc_old W ob (img_lt hr ⟨id, loc, by rw [ho]; simp, l1, rfl⟩)), l3⟩
  · obtain ⟨v, hv⟩ := hr.stab b o hs
    exact ⟨v, (hE.cell b o hs).trans hv⟩
  · exact
    { os := rfl, tape := rfl, output := rfl, size := by rw [size_alloc]; omega
      keep := fun b hb _ => heap_alloc_old W ob hb
      shape := hE.shape, S := fun _ _ h => h, snew := fun _ _ h => .inl h, β := fun _ _ h => h
      own := fun b hb => .inr hb, fresh := fun id h => .inl h }

/-- A round of the loop 'L', as yield asks for it. -/
def yruns (P : Program) (L : Nat) (args : List PV) (σ : Heap) (K : Out → Heap → Prop) : Prop :=
  ∀ (G : Gh) (W : World) (r : Option Nat) (m : Nat) (xs : Array Value) (l : Nat), HRel G W σ → RelL G W args xs → G.β L = some (l, 0) →
    ∃ f tmps as bd, (Instr.yield l xs).run P W = .ok (.round l f tmps as bd) W ∧
      RoundIn (FW r) m P l f tmps as bd W fun e W' => ∃ o σ' G', K o σ' ∧ OutRel G' W' o e ∧ Evol G W σ G' W' σ' ∧ HRel G' W' σ'

theorem yruns.mono {L : Nat} {args : List PV} {K K' : Out → Heap → Prop} (h : yruns P L args σ K) (hK : ∀ o σ', K o σ' → K' o σ') : yruns P L args σ K' :=
  fun G W r m xs l h1 h2 h3 =>
    let ⟨f, tmps, as, bd, k1, k2⟩ := h G W r m xs l h1 h2 h3
    ⟨f, tmps, as, bd, k1, k2.mono fun _ _ ⟨o, σ', G', q1, q2⟩ => ⟨o, σ', G', hK _ _ q1, q2⟩⟩

theorem yruns.frame {L : Nat} {args : List PV} {σ1 : Heap} {K : Out → Heap → Prop} (h : yruns P L args σ1 K) (hs : ∀ id x, σ1 id = some x → σ id = some x) :
    yruns P L args σ fun o σ' => ∃ σ1', K o σ1' ∧ σ' = σ.patch σ1 σ1' ∧ ∀ id, σ1 id = none → σ id ≠ none → σ1' id = none :=
  fun G W r m xs l h1 h2 h3 =>
    let ⟨f, tmps, as, bd, k1, k2⟩ := h G W r m xs l (h1.less hs) h2 h3
    ⟨f, tmps, as, bd, k1, k2.mono fun _ _ ⟨o, σ1', G', q1, q2, q3, q4⟩ => by
      obtain ⟨p1, p2⟩ := frame_patch hs h1 q3 q4
      refine ⟨o, _, G', ⟨σ1', q1, rfl, fun id hid hn => ?_⟩, q2, p2, p1⟩
      cases hx : σ1' id with
      | none => rfl
      | some x =>
        rcases q3.fresh id (by rw [hx]; simp) with q | q
        · exact absurd hid q
        · obtain ⟨y, hy⟩ := some_of_ne hn
          obtain ⟨loc, l1, _⟩ := h1.obj id y hy
          rw [q] at l1; cases l1⟩

/-- One more object beside. -/
theorem yruns.beside {L id : Nat} {x : PObj} {args : List PV} {K : Out → Heap → Prop} (h : yruns P L args σ K) (hid : σ id = none) :
    yruns P L args (σ.set id x) fun o σ' => ∃ σ1, σ1 id = none ∧ σ' = σ1.set id x ∧ K o σ1 := by
  refine (h.frame (σ := σ.set id x) fun j y hy => ?_).mono ?_
  · rw [Heap.set_apply, if_neg (fun e => by subst e; rw [hid] at hy; cases hy)]; exact hy
  · rintro o σ' ⟨σ1, k1, rfl, k2⟩
    have hn : σ1 id = none := k2 id hid (by rw [Heap.set_apply, if_pos rfl]; simp)
    refine ⟨σ1, hn, funext fun j => ?_, k1⟩
    unfold Heap.patch Heap.set
    by_cases e : j = id
    · subst e; simp [hn, hid]
    · simp only [if_neg e]
      cases h1 : σ1 j with
      | some y => simp
      | none =>
        simp only [Option.isSome_none, Bool.false_eq_true, if_false]
        cases h2 : σ j with
        | some y => simp
        | none => simp

theorem wpIn_round {o : Oper} {A : Act} {W W' : World} {r : Option Nat} {m : Nat} {next : Act → World → Prop} {Q : Exit → Act → World → Prop} {l : Nat} {f : FuncId} {tmps : Array Value} {as bd : Code} {R : Ending → World → Prop} (hd : ∀ c, o.op ≠ .defer c)
    (hr : (execOp A.eval o).run P W = .ok (.round l f tmps as bd) W') (hc : RoundIn (FW r) (m - 1) P l f tmps as bd W' R)
    (hR : ∀ e w, R e w → match e with
      | .returned v => next (A.put o.dst v) w
      | .panicked ch => Q (.panic ch) A w
      | .outgrown => False) : o.wpIn (FW r) m P A W next Q := by
  refine ⟨fun _ _ => trivial, ?_⟩
  rw [show (FW r).round = r from rfl, semAt_exec hd, hr]
  refine And.intro (fun h => by cases h) ?_
  refine hc.mono fun e w k => ?_
  have := hR e w k
  cases e with
  | returned v => exact this
  | panicked ch => exact this
  | outgrown => exact this.elim

theorem gop_yield {o : Oper} {c : Call} {fo : Operand} {L : Nat} {K : Out → Heap → Prop} (ho : o.op = .call c) (hcl : c.callee = .value fo) (hg : sv (opv fr fo) = .yld L) (hga : avt (opv fr fo))
    (ha : ∀ x ∈ c.args.toList, avt (opv fr x)) (h : yruns P L (argsP fr c.args) σ K) : gop P rd n o fr σ K := by
  intro G W A r m _ h2 h3 next Q hn hp
  have hf := sv_rel (opv_rel h3 fo) hga
  rw [hg] at hf
  generalize hv : A.eval fo = v at hf
  cases hf with
  | yld _ l g1 =>
  have hargs : RelL G W (argsP fr c.args) (c.args.map A.eval) := list_rel h3 ha
  obtain ⟨f, tmps, as, bd, k1, k2⟩ := h G W r (m - 1) _ l h2 hargs g1
  have hrun : (execOp A.eval o).run P W = .ok (.round l f tmps as bd) W := by
    simp only [execOp, ho, resolve, hcl, hv, Deferred.ofValue, Sem.run_bind, Sem.run_pure, Result.andThen_ok, invoke]
    simpa using k1
  refine wpIn_round (fun c' hc => by rw [ho] at hc; cases hc) hrun k2 ?_
  rintro e W' ⟨out, σ', G', q1, q2, q3, q4⟩
  cases e with
  | returned x => cases out <;> simp only [OutRel] at q2; exact hn _ _ _ _ _ q1 q3 q4 q2
  | panicked ch =>
    cases out <;> simp only [OutRel] at q2
    obtain ⟨x, rfl, hx⟩ := q2
    exact hp _ _ _ _ _ q1 q3 q4 hx
  | outgrown => cases out <;> simp only [OutRel] at q2

def setPs (fr : Fr) : List Tmp → List PV → Fr
  | t :: ts, a :: as => setPs (fr.set t a) ts as
  | _, _ => fr

theorem setPs_rel : ∀ {ts : List Tmp} {as : List PV} {xs : List Value} {fr : Fr} {tmps : Array Value}, TRel G W n fr tmps → (∀ t ∈ ts, t < n) → ts.length = as.length → xs.length = as.length → (∀ i, i < as.length → VRel G W (as.getD i .any) (xs.getD i undef)) →
    TRel G W n (setPs fr ts as) ((ts.zip xs).foldl (fun tmps (x : Tmp × Value) => tmps.setIfInBounds x.1 x.2) tmps) := by
  intro ts
  induction ts with
  | nil => intro as xs fr tmps h _ _ _ _; simpa [setPs] using h
  | cons t ts ih =>
    intro as xs fr tmps h hlt h1 h2 h3
    match as, xs, h1, h2 with
    | a :: as, x :: xs, h1, h2 =>
      simp only [setPs, List.zip_cons_cons, List.foldl_cons]
      refine ih ?_ (fun t ht => hlt t (List.mem_cons_of_mem _ ht)) (by simpa using h1) (by simpa using h2) (fun i hi => by have := h3 (i + 1) (by simpa using hi); simpa using this)
      have := h.put (A := { tmps := tmps, defers := [] }) (V := a) (v := x) (by have := h3 0 (by simp); simpa using this) (dst := some t) (fun d hd => by cases hd; exact hlt t (List.mem_cons_self ..))
      exact this

def rndQ (L : Nat) (frL : Fr) (nL : Nat) (ps : Array Tmp) (as bd : Code) (K : Out → Heap → Prop) : PX → Fr → Heap → Prop
  | .normal, _, σ => (∃ st pe, σ L = some (.loop frL nL ps as bd st pe)) ∧ K (.val (.lit (.bool true))) (σ.set L (.loop frL nL ps as bd .ready none))
  | .ret, _, σ => (∃ st pe, σ L = some (.loop frL nL ps as bd st pe)) ∧ K (.val (.lit (.bool false))) (σ.set L (.loop frL nL ps as bd .done (some .ret)))
  | .exit id, _, σ => (∃ st pe, σ L = some (.loop frL nL ps as bd st pe)) ∧ K (.val (.lit (.bool false))) (σ.set L (.loop frL nL ps as bd .done (some (.exit id))))
  | .goto t, _, σ => (∃ st pe, σ L = some (.loop frL nL ps as bd st pe)) ∧ K (.val (.lit (.bool false))) (σ.set L (.loop frL nL ps as bd .done (some (.goto t))))
  | .pan _, _, _ => False

theorem loop_upd (hr : HRel G W σ) {L : Nat} {frL : Fr} {nL : Nat} {ps : Array Tmp} {as bd : Code} {st st' : LoopState} {pe pe' : Option Code} {l : Nat} {r : Loop} (ho : σ L = some (.loop frL nL ps as bd st pe)) (hb : G.β L = some (l, 0)) (hW : W.heap[l]? = some (.loop r)) :
    r.state = st ∧ r.pending = pe ∧ r.params = ps ∧ r.assign = as ∧ r.body = bd ∧ TRel G W nL frL r.tmps ∧
    HRel G (W.putObj l (.loop { r with state := st', pending := pe' })) (σ.set L (.loop frL nL ps as bd st' pe')) ∧ Evol G W σ G (W.putObj l (.loop { r with state := st', pending := pe' })) (σ.set L (.loop frL nL ps as bd st' pe')) := by
  obtain ⟨loc, l1, ⟨_, fn, tmps, D, l2, l3⟩, _⟩ := hr.obj L _ ho
  rw [hb] at l1; cases l1
  simp only at l2
  rw [hW] at l2
  cases l2
  refine ⟨rfl, rfl, rfl, rfl, rfl, l3, ?_⟩
  exact upd_obj hr ho hb _ (fun s hs => by unfold World.shape? at hs; rw [hW] at hs; simp at hs) fun hE => ⟨rfl, fn, tmps, D, World.putObj_heap_same (lt_of_heap hW), l3.mono hE⟩

theorem loop_at (hr : HRel G W σ) {L : Nat} {frL : Fr} {nL : Nat} {ps : Array Tmp} {as bd : Code} {st : LoopState} {pe : Option Code} {l : Nat} (ho : σ L = some (.loop frL nL ps as bd st pe)) (hb : G.β L = some (l, 0)) : ∃ r, W.heap[l]? = some (.loop r) := by
  obtain ⟨loc, l1, ⟨_, fn, tmps, D, l2, l3⟩, _⟩ := hr.obj L _ ho
  rw [hb] at l1; cases l1
  exact ⟨_, l2⟩

/-- **A round, from the loop's body.** -/
theorem yruns_body {L : Nat} {args : List PV} {K : Out → Heap → Prop} {frL : Fr} {nL : Nat} {ps : Array Tmp} {as bd : Code} {pe : Option Code} (hL : σ L = some (.loop frL nL ps as bd .ready pe)) (hps : ps.size = args.length) (hlt : ∀ t ∈ ps.toList, t < nL)
    (h : pwp P true nL as (PX.thn (fun fr σ1 => ∃ pe', σ1 L = some (.loop frL nL ps as bd .ready pe') ∧ pwp P true nL bd (rndQ L frL nL ps as bd K) fr (σ1.set L (.loop frL nL ps as bd .busy pe'))) (fun _ _ _ => False)) (setPs frL ps.toList args) σ) :
    yruns P L args σ K := by
  intro G W r m xs l h1 h2 h3
  obtain ⟨rec, hW⟩ := loop_at h1 hL h3
  obtain ⟨e1, e2, e3, e4, e5, e6, _, _⟩ := loop_upd (st' := .busy) (pe' := none) h1 hL h3 hW
  refine ⟨_, _, _, _, run_yield hW (by rw [e3, hps]; exact h2.1), ?_⟩
  refine roundIn_of_wpIn trivial ?_
  show rec.assign.wpIn (FW (some l)) m P _ _ W
  have hT : TRel G W nL (setPs frL ps.toList args) ((rec.params.zip xs).foldl (fun tmps (x : Tmp × Value) => tmps.setIfInBounds x.1 x.2) rec.tmps) := by
    rw [← Array.foldl_toList, Array.toList_zip, e3]
    exact setPs_rel e6 hlt (by simpa using hps) (by simpa using h2.1) (fun i hi => by have := h2.2 i hi; simpa [Array.getD_eq_getD_getElem?, List.getD] using this)
  rw [e4]
  refine wpIn_mono (h G W { tmps := _, defers := [] } (some l) m 0 rfl h1 hT (.nil _ _) (Nat.zero_le _)) fun e A1 W1 k => ?_
  obtain ⟨pe1, fr1, σ1, G1, k1, k2, k3, k4, k5, k6⟩ := k
  cases e with
  | normal =>
    cases pe1 <;> simp only [XRel] at k2
    obtain ⟨pe', k7, k8⟩ := k1
    have hb1 := k3.β _ _ h3
    obtain ⟨rec1, hW1⟩ := loop_at k4 k7 hb1
    obtain ⟨f1, f2, f3, f4, f5, f6, f7, f8⟩ := loop_upd (st' := .busy) (pe' := pe') k4 k7 hb1 hW1
    refine ⟨_, run_beginRound hW1 f1, ?_⟩
    have hrec : ({ rec1 with state := .busy } : Loop) = { rec1 with state := .busy, pending := pe' } := by rw [← f2]
    rw [hrec]
    show rec.body.wpIn (FW (some l)) m P _ _ _
    rw [e5]
    refine wpIn_mono (k8 G1 _ A1 (some l) m 0 rfl f7 (k5.mono (f8.ext k4)) (k6.evol k4 f8) (Nat.zero_le _)) fun e A2 W2 q => ?_
    obtain ⟨pe2, fr2, σ2, G2, q1, q2, q3, q4, q5, q6⟩ := q
    have hb2 := q3.β _ _ hb1
    have fin : ∀ (b : Bool) (jump : Option Code) (st : LoopState), b = jump.isNone → st = (if jump.isNone then .ready else .done) → ((∃ st pe, σ2 L = some (.loop frL nL ps as bd st pe)) ∧ K (.val (.lit (.bool b))) (σ2.set L (.loop frL nL ps as bd st jump))) →
        ∃ v w', (Instr.endRound l jump).run P W2 = .ok v w' ∧ ∃ o σ' G', K o σ' ∧ OutRel G' w' o (.returned v) ∧ Evol G W σ G' w' σ' ∧ HRel G' w' σ' := fun b jump st hb hst ⟨⟨st0, pe0, hq⟩, hK⟩ => by
      obtain ⟨rec2, hW2⟩ := loop_at q4 hq hb2
      obtain ⟨_, _, _, _, _, _, g7, g8⟩ := loop_upd (st' := st) (pe' := jump) q4 hq hb2 hW2
      subst hb
      subst hst
      exact ⟨_, _, run_endRound jump hW2, _, _, G2, hK, .lit _, ((k3.trans f8).trans q3).trans g8, g7⟩
    cases e with
    | normal => cases pe2 <;> simp only [XRel] at q2; exact fin true none .ready rfl rfl q1
    | ret => cases pe2 <;> simp only [XRel] at q2; exact fin false (some .ret) .done rfl rfl q1
    | exit i => cases pe2 <;> simp only [XRel] at q2; subst q2; exact fin false (some (.exit _)) .done rfl rfl q1
    | goto i => cases pe2 <;> simp only [XRel] at q2; subst q2; exact fin false (some (.goto _)) .done rfl rfl q1
    | panic ch => cases pe2 <;> simp only [XRel] at q2; exact q1
    | outgrown => cases pe2 <;> simp only [XRel] at q2
  | exit i => cases pe1 <;> simp only [XRel] at k2; exact k1
  | goto i => cases pe1 <;> simp only [XRel] at k2; exact k1
  | ret => cases pe1 <;> simp only [XRel] at k2; exact k1
  | panic ch => cases pe1 <;> simp only [XRel] at k2; exact k1
  | outgrown => cases pe1 <;> simp only [XRel] at k2

/-- **An outermost range over a function.** -/
theorem pwp_rangeFunc {g : Operand} {ps : Array Tmp} {as bd : Code} {Q : PX → Fr → Heap → Prop} {f : FuncId} {first cap : List PV} (hg : sv (opv fr g) = .fn (.func f) first cap) (hga : avt (opv fr g)) (he : Enters P f)
    (h : ∀ L, σ L = none → pcalls P f (first ++ [.yld L] ++ cap) (σ.set L (.loop fr n ps as bd .ready none)) fun o σ' => match o with
      | .val _ => ∃ st pe, σ' L = some (.loop fr n ps as bd st pe) ∧ st ≠ .busy ∧ (match pe with
        | none => Q .normal fr (σ'.del L)
        | some c => pwp P false n c Q fr (σ'.del L))
      | .pan v => Q (.pan v) fr (σ'.del L)) : pwp P false n (.rangeFunc g ps as bd) Q fr σ := by
  intro G W A r m base h1 h2 h3 h4 h5
  have hrn : r = none := by cases r with
    | none => rfl
    | some x => cases h1
  subst hrn
  refine wpIn_rangeFunc fun fn _ => ?_
  have hf := sv_rel (opv_rel h3 g) hga
  rw [hg] at hf
  generalize hv : A.eval g = v at hf
  cases hf with
  | fn _ _ _ vf vc g1 g2 g3 g4 =>
  obtain ⟨j1, j2⟩ := evol_junk h2 (.deferred (some []))
  obtain ⟨L, f1, f2⟩ := fresh_id j1
  obtain ⟨r0, hr0⟩ : ∃ r0 : Loop, r0 = { state := .ready, pending := none, fn := fn, tmps := A.tmps, params := ps, assign := as, body := bd, defers := W.heap.size } := ⟨_, rfl⟩
  have hE0 := j2.ext h2
  have hEn := ext_alloc j1 f1 ((W.alloc (.deferred (some []))).heap.size, 0) (.loop r0)
  obtain ⟨n1, n2⟩ := new_obj j1 f1 (.loop r0) (.loop fr n ps as bd .ready none) ⟨rfl, fn, A.tmps, W.heap.size, by rw [hr0]; exact heap_alloc_new _ _, (h3.mono hE0).mono hEn⟩
  have hsz : (W.alloc (.deferred (some []))).heap.size = W.heap.size + 1 := size_alloc ..
  have heL : (G.bind L ((W.alloc (.deferred (some []))).heap.size, 0)).β L = some (W.heap.size + 1, 0) := by rw [bind_same, hsz]
  have eAll := j2.trans n2
  have hargs : RelL (G.bind L ((W.alloc (.deferred (some []))).heap.size, 0)) ((W.alloc (.deferred (some []))).alloc (.loop r0)) (first ++ [.yld L] ++ cap) (vf ++ #[.func (.yield (W.heap.size + 1)) #[] #[]] ++ vc) := by
    have hE := eAll.ext h2
    refine RelL.append (RelL.append ⟨g1, fun i hi => (g2 i hi).mono hE⟩ ⟨rfl, fun i hi => ?_⟩) ⟨g3, fun i hi => (g4 i hi).mono hE⟩
    have : i = 0 := by simpa using hi
    subst this
    exact .yld L _ heL
  refine ⟨W.heap.size + 1, _, _, { target := .fn (.func f) vc, args := vf ++ #[.func (.yield (W.heap.size + 1)) #[] #[]] }, ((W.alloc (.deferred (some []))).alloc (.loop { state := .ready, pending := none, fn := fn, tmps := A.tmps, params := ps, assign := as, body := bd, defers := W.heap.size })), f, vf ++ #[.func (.yield (W.heap.size + 1)) #[] #[]] ++ vc, ((W.alloc (.deferred (some []))).alloc (.loop { state := .ready, pending := none, fn := fn, tmps := A.tmps, params := ps, assign := as, body := bd, defers := W.heap.size })), run_enterLoop_outer fn A.tmps ps as bd, ?_, fun _ _ => trivial, ?_, (fun hx => by cases hx), ?_⟩
  · simp only [resolve, rangeCall, hv, Deferred.ofValue, Sem.run_bind, Sem.run_pure, Result.andThen_ok]
    rw [show Array.map A.eval #[Operand.const (Value.func (Fn.yield (W.heap.size + 1)) #[] #[])] = #[Value.func (Fn.yield (W.heap.size + 1)) #[] #[]] by simp [Act.eval]]
  · simp only [invoke]
    exact he _ _
  · rw [← hr0]
    refine (h L f2 _ _ _ (m - 1) n1 hargs).mono ?_
    rintro e W3 ⟨o, σ', G', k1, k2, k3, k4⟩
    have hb3 := k3.β _ _ heL
    have hdef : DRel base ((W.alloc (.deferred (some []))).alloc (.loop r0)) ({ target := .collected W.heap.size, args := #[] } :: A.defers) := by
      obtain ⟨Ds, d1, d2, d3⟩ := h4.evol h2 eAll
      refine ⟨W.heap.size :: Ds, by rw [d1]; rfl, List.nodup_cons.2 ⟨fun hin => ?_, d2⟩, fun D hD => ?_⟩
      · obtain ⟨Ds0, c1, c2, c3⟩ := h4
        have hDs : Ds = Ds0 := by
          have : Ds.map (fun D => ({ target := .collected D, args := #[] } : Deferred)) = Ds0.map (fun D => ({ target := .collected D, args := #[] } : Deferred)) := by rw [← d1, c1]
          exact (List.map_inj_right (fun a b hab => by cases hab; rfl)).1 this
        subst hDs
        have := lt_of_heap (c3 _ hin).2
        omega
      · rcases List.mem_cons.1 hD with rfl | hD
        · refine ⟨h5, ?_⟩
          rw [heap_alloc_old _ _ (by rw [hsz]; omega)]
          exact heap_alloc_new _ _
        · exact d3 D hD
    cases e with
    | outgrown => cases o <;> simp only [OutRel] at k2
    | panicked ch =>
      cases o <;> simp only [OutRel] at k2
      have hdel : ∀ j x, (σ'.del L) j = some x → σ' j = some x := fun j x hx => by
        unfold Heap.del at hx; split at hx
        · cases hx
        · exact hx
      refine ⟨.pan _, fr, σ'.del L, G', k1, k2, (eAll.trans k3).less (fun j hj => ?_), k4.less hdel, (h3.mono (eAll.ext h2)).mono (k3.ext n1), hdef.evol n1 k3⟩
      obtain ⟨x, hx⟩ := some_of_ne hj; rw [hdel j x hx]; simp
    | returned x =>
      cases o <;> simp only [OutRel] at k2
      obtain ⟨st, pe, hL3, hst, hQ⟩ := k1
      obtain ⟨rec3, hW3⟩ := loop_at k4 hL3 hb3
      obtain ⟨s1, s2, _, _, _, _, u1, u2⟩ := loop_upd (st' := .exhausted) (pe' := pe) k4 hL3 hb3 hW3
      refine ⟨pe, _, by rw [run_endLoop hW3 (by rw [s1]; exact hst), s2], ?_⟩
      have hdel : ∀ j x, (σ'.del L) j = some x → (σ'.set L (.loop fr n ps as bd .exhausted pe)) j = some x := fun j x hx => by
        unfold Heap.del at hx; unfold Heap.set
        split at hx
        · cases hx
        · rename_i e; rw [if_neg e]; exact hx
      have eN := ((eAll.trans k3).trans u2).less (σ'' := σ'.del L) (fun j hj => by obtain ⟨x, hx⟩ := some_of_ne hj; rw [hdel j x hx]; simp)
      have hN := u1.less hdel
      have tN := ((h3.mono (eAll.ext h2)).mono (k3.ext n1)).mono (u2.ext k4)
      have dN := (hdef.evol n1 k3).evol k4 u2
      cases pe with
      | none => exact ⟨.normal, fr, σ'.del L, G', hQ, trivial, eN, hN, tN, dN⟩
      | some c =>
        refine wpIn_mono (hQ G' _ _ none m base rfl hN tN dN (Nat.le_trans h5 eN.size)) fun _ _ _ k => k.trans eN
end
end Go.Lo

/-
  The program logic 'Lo', part O: from a given statement to a contract: arguments read as plain data. Nothing of the program.
-/
set_option linter.unusedSimpArgs false
set_option linter.unusedVariables false
namespace Go.Lo
open Go

def G0 (W : World) : Gh := ⟨fun b o => (W.cell? ⟨b, o, none⟩).isSome = true, fun _ => none⟩
theorem hrel0 (W : World) : HRel (G0 W) W Heap.empty :=
  ⟨fun _ _ h => (by cases h), fun _ _ _ _ h => absurd rfl h, fun _ _ h => Option.isSome_iff_exists.1 h, 0, fun _ _ => rfl⟩

section
variable {P : Program}

/-- A list of cells. -/
def CRel (G : Gh) (W : World) (ps : List PV) (vs : List Value) : Prop := ps.length = vs.length ∧ ∀ i, i < vs.length → VRel G W (ps.getD i .any) (vs.getD i undef)

/-- What reads at type t is an α: its cells. -/
def Reads (P : Program) (t : TypeId) (α : Type) (enc : α → List PV) (wf : α → Prop) : Prop :=
  ∀ {H : Type} (en : TypeId × Value → H) (W : World) (sp : Nat → Bool) (hd : Bool) (fuel : Nat) (cs : List Value) (x : DataW H × List MemPlace), DataW.trod en P W 0 sp hd fuel t cs = some x → ∃ a, wf a ∧ CRel (G0 W) W (enc a) cs
/-- .. as a value. -/
def ReadsV (P : Program) (t : TypeId) (α : Type) (enc : α → PV) (wf : α → Prop) : Prop :=
  ∀ {H : Type} (en : TypeId × Value → H) (W : World) (sp : Nat → Bool) (hd : Bool) (b : Nat) (v : Value) (d : DataW H) (ps : List MemPlace), Value.okWide P W .any b t v → DataW.Trod en P W 0 sp hd t v d ps → ∃ a, wf a ∧ VRel (G0 W) W (enc a) v

theorem CRel.one {G : Gh} {W : World} {p : PV} {v : Value} (h : VRel G W p v) : CRel G W [p] [v] := ⟨rfl, fun i hi => by
  have : i = 0 := by simpa using hi
  subst this; exact h⟩

theorem reads_int {t : TypeId} {k : IntKind} (ht : P.underlying t = some (.int k)) : Reads P t Int (fun x => [.lit (.int k x)]) (fun x => (Lit.int k x).wf = true) := fun en W sp hd fuel cs x h => by
  obtain ⟨n, rfl, rfl, hw⟩ := DataW.trod_int ht h
  exact ⟨n, hw, .one (.lit _)⟩
theorem reads_bool {t : TypeId} (ht : P.underlying t = some .bool) : Reads P t Bool (fun x => [.lit (.bool x)]) (fun _ => True) := fun en W sp hd fuel cs x h => by
  obtain ⟨n, rfl, rfl⟩ := DataW.trod_bool ht h
  exact ⟨n, trivial, .one (.lit _)⟩
theorem reads_string {t : TypeId} (ht : P.underlying t = some .string) : Reads P t ByteArray (fun x => [.lit (.string x)]) (fun x => x.size ≤ maxLen) := fun en W sp hd fuel cs x h => by
  obtain ⟨n, rfl, rfl, hw⟩ := DataW.trod_string ht h
  exact ⟨n, hw, .one (.lit _)⟩

theorem choose_list {α : Type} {p : Nat → α → Prop} (n : Nat) (h : ∀ i, i < n → ∃ a, p i a) : ∃ l : List α, l.length = n ∧ ∀ i a, l[i]? = some a → p i a := by
  induction n with
  | zero => exact ⟨[], rfl, fun i a h => by simp at h⟩
  | succ n ih =>
    obtain ⟨l, h1, h2⟩ := ih fun i hi => h i (by omega)
    obtain ⟨a, ha⟩ := h n (by omega)
    refine ⟨l ++ [a], by simp [h1], fun i b hb => ?_⟩
    rcases Nat.lt_trichotomy i n with hi | hi | hi
    · rw [List.getElem?_append_left (by omega)] at hb; exact h2 i b hb
    · subst hi
      rw [List.getElem?_append_right (by omega), h1] at hb
      simp at hb; subst hb; exact ha
    · rw [List.getElem?_eq_none (by simp; omega)] at hb; cases hb

theorem reads_slice {t e : TypeId} {k : Nat} {α : Type} {enc : α → List PV} {wf : α → Prop} (ht : P.underlying t = some (.slice e)) (hk : P.cellsOf e = k) (h0 : 0 < k) (he : Reads P e α enc wf) :
    Reads P t (List α) (fun l => [.slice false (l.map enc)]) (fun l => l.length ≤ maxLen ∧ ∀ a ∈ l, wf a ∧ (enc a).length = k) := fun en W sp hd fuel cs x h => by
  rcases Go.Deep.open_slice ht h with ⟨rfl, rfl⟩ | ⟨a, len, cap, m, n, D, Pl, rfl, _, hl, hm, hmm, rfl, hx⟩
  · exact ⟨[], ⟨Nat.zero_le _, fun a ha => (by cases ha)⟩, .one (.nilsl _ _ _ (fun e => by cases e))⟩
  · rw [hk] at hx
    have hlm : len ≤ m := by rw [hmm]; split <;> omega
    rcases Nat.eq_zero_or_pos len with hz | hz
    · subst hz
      exact ⟨[], ⟨Nat.zero_le _, fun a ha => (by cases ha)⟩, .one (.nilsl _ _ _ (fun e => by cases e))⟩
    · have hspot : a.spot = none := by
        obtain ⟨cs', c1, _⟩ := hx 0 (by omega)
        obtain ⟨_, c2, c3⟩ := World.cells?_some c1
        have := c3 0 h0
        rw [List.getElem?_eq_getElem (by omega)] at this
        have := World.cell?_spot this
        simpa [Addr.add] using this
      obtain ⟨b, off, spot⟩ := a
      simp only at hspot
      subst hspot
      obtain ⟨l, l1, l2⟩ := choose_list (p := fun i (a : α × List Value) => wf a.1 ∧ W.cells? 0 ((⟨b, off, none⟩ : Addr).add (i * k)) k = some a.2 ∧ CRel (G0 W) W (enc a.1) a.2) len fun i hi => by
        obtain ⟨cs', c1, c2⟩ := hx i (by omega)
        obtain ⟨a, a1, a2⟩ := he en W sp hd n cs' _ c2
        exact ⟨(a, cs'), a1, c1, a2⟩
      have lens : ∀ (i : Nat) (a : α × List Value), l[i]? = some a → (enc a.1).length = k ∧ a.2.length = k := fun i a ha => by
        obtain ⟨_, q2, q3⟩ := l2 i a ha
        obtain ⟨_, q4, _⟩ := World.cells?_some q2
        exact ⟨by rw [q3.1, q4], q4⟩
      refine ⟨l.map (·.1), ⟨by simp; omega, fun a ha => ?_⟩, .one ?_⟩
      · obtain ⟨p, hp, rfl⟩ := List.mem_map.1 ha
        obtain ⟨i, hi, hip⟩ := List.getElem_of_mem hp
        have : l[i]? = some p := by rw [List.getElem?_eq_getElem hi, hip]
        exact ⟨(l2 i p this).1, (lens i p this).1⟩
      · have cellAt : ∀ i j, i < len → j < k → ∃ p, l[i]? = some p ∧ W.cell? ⟨b, off + (i * k + j), none⟩ = some (p.2.getD j undef) ∧ VRel (G0 W) W ((enc p.1).getD j .any) (p.2.getD j undef) := fun i j hi hj => by
          have hil : i < l.length := by omega
          refine ⟨l[i], List.getElem?_eq_getElem hil, ?_⟩
          obtain ⟨_, q2, q3⟩ := l2 i l[i] (List.getElem?_eq_getElem hil)
          obtain ⟨_, q4, q5⟩ := World.cells?_some q2
          have := q5 j hj
          rw [add_cell, add_cell, List.getElem?_eq_getElem (by omega)] at this
          refine ⟨?_, q3.2 j (by omega)⟩
          rw [show off + (i * k + j) = off + i * k + j by omega, this]
          simp [List.getD, show j < (l[i]).2.length by omega]
        refine .slice false _ b off len cap k (fun j => ((l.getD (j / k) (Classical.choice (by obtain ⟨p, _⟩ := cellAt 0 0 hz h0; exact ⟨p⟩))).2).getD (j % k) undef) (by simp [l1]) hl (by omega) (fun e => by cases e) (fun i hi => ?_) (fun j hj => ?_) (fun i j hi hj => ?_)
        · have hil : i < l.length := by omega
          have := (lens i l[i] (List.getElem?_eq_getElem hil)).1
          simpa [List.getD, hil] using this
        · obtain ⟨i, r, rfl, hi, hr⟩ := row_split hj
          obtain ⟨p, p1, p2, _⟩ := cellAt i r hi hr
          have e1 : (i * k + r) / k = i := by rw [Nat.add_comm, Nat.add_mul_div_right _ _ h0, Nat.div_eq_of_lt hr, Nat.zero_add]
          have e2 : (i * k + r) % k = r := by rw [Nat.add_comm, Nat.add_mul_mod_self_right, Nat.mod_eq_of_lt hr]
          refine ⟨by show (W.cell? _).isSome = true; rw [p2]; rfl, ?_⟩
          rw [e1, e2, p2]
          simp [List.getD, p1]
        · obtain ⟨p, p1, p2, p3⟩ := cellAt i j hi hj
          have e1 : (i * k + j) / k = i := by rw [Nat.add_comm, Nat.add_mul_div_right _ _ h0, Nat.div_eq_of_lt hj, Nat.zero_add]
          have e2 : (i * k + j) % k = j := by rw [Nat.add_comm, Nat.add_mul_mod_self_right, Nat.mod_eq_of_lt hj]
          rw [e1, e2]
          have e3 : ((l.map (·.1)).map enc).getD i [] = enc p.1 := by simp [List.getD, p1]
          rw [e3]
          simpa [List.getD, p1] using p3

/-! ### Structs -/
/-- Fields from 'off' on. -/
def RF (P : Program) : List Field → Nat → (α : Type) → (α → List PV) → (α → Prop) → Prop
  | [], _, α, enc, _ => ∀ a : α, enc a = []
  | f :: fs, off, α, enc, wf => f.offset = off ∧ ∃ (β γ : Type) (eb : β → List PV) (wb : β → Prop) (ec : γ → List PV) (wc : γ → Prop) (mk : β → γ → α), Reads P f.type β eb wb ∧ RF P fs (off + P.cellsOf f.type) γ ec wc ∧
      ∀ b c, wb b → wc c → (enc (mk b c) = eb b ++ ec c ∧ wf (mk b c))

/-- Two fields. -/
theorem reads_struct2 {t : TypeId} {f g : Field} {α β : Type} {ea : α → List PV} {wa : α → Prop} {eb : β → List PV} {wb : β → Prop} {k m : Nat} (ht : P.underlying t = some (.struct #[f, g])) (hf : f.offset = 0) (hg : g.offset = k) (hk : P.cellsOf f.type = k) (hm : P.cellsOf g.type = m)
    (hs : P.cellsOf t = k + m) (ra : Reads P f.type α ea wa) (rb : Reads P g.type β eb wb) : Reads P t (α × β) (fun x => ea x.1 ++ eb x.2) (fun x => wa x.1 ∧ wb x.2) := fun en W sp hd fuel cs x h => by
  obtain ⟨xs, n, rfl, rfl, hl, hxs, hx⟩ := DataW.trod_struct ht h
  have h0 := hx 0 f (by simp)
  have h1 := hx 1 g (by simp)
  simp at hxs
  rw [List.getElem?_eq_getElem (by omega)] at h0 h1
  rw [hf, hk, List.drop_zero] at h0
  rw [hg, hm] at h1
  obtain ⟨a, a1, a2⟩ := ra en W sp hd n _ _ h0
  obtain ⟨b, b1, b2⟩ := rb en W sp hd n _ _ h1
  have q1 : (cs.take k).length = k := by rw [List.length_take]; omega
  have q2 : ((cs.drop k).take m).length = m := by rw [List.length_take, List.length_drop]; omega
  refine ⟨(a, b), ⟨a1, b1⟩, by simp only [List.length_append]; rw [a2.1, b2.1, q1, q2]; omega, fun i hi => ?_⟩
  rcases Nat.lt_or_ge i k with hlt | hge
  · have := a2.2 i (by omega)
    have e1 : (ea a ++ eb b).getD i .any = (ea a).getD i .any := by simp only [List.getD]; rw [List.getElem?_append_left (by rw [a2.1, q1]; exact hlt)]
    have e2 : (cs.take k).getD i undef = cs.getD i undef := by simp [List.getD, hlt]
    rw [e1, ← e2]; exact this
  · have := b2.2 (i - k) (by omega)
    have e1 : (ea a ++ eb b).getD i .any = (eb b).getD (i - k) .any := by simp only [List.getD]; rw [List.getElem?_append_right (by rw [a2.1, q1]; exact hge), a2.1, q1]
    have e2 : ((cs.drop k).take m).getD (i - k) undef = cs.getD i undef := by
      simp only [List.getD]
      rw [List.getElem?_take, if_pos (by omega), List.getElem?_drop, show k + (i - k) = i by omega]
    rw [e1, ← e2]; exact this

/-! ### Values -/
theorem cellOk_one {W : World} {b : Nat} {t : TypeId} {v : Value} (h : Cell.okWide P W .any b t v) : v.cells = #[v] := by
  unfold Cell.okWide at h
  cases v with
  | agg cs => exfalso; revert h; cases hu : P.underlying t with
    | none => simp [Cell.ok, hu]
    | some u => cases u <;> simp [Cell.ok, hu]
  | _ => rfl

theorem readsV_one {t : TypeId} {α : Type} {enc : α → PV} {wf : α → Prop} (hs : ∀ u, P.underlying t = some u → match u with | .struct _ => False | .array _ _ => False | _ => True) (h : Reads P t α (fun a => [enc a]) wf) : ReadsV P t α enc wf := fun en W sp hd b v d ps hok ⟨fuel, htr⟩ => by
  have hone : v.cells = #[v] := by
    refine cellOk_one (P := P) (W := W) (b := b) (t := t) ?_
    unfold Value.okWide at hok
    cases hu : P.underlying t with
    | none => rw [hu] at hok; exact hok
    | some u => rw [hu] at hok; have := hs u hu; cases u <;> first | exact hok | exact this.elim
  rw [hone] at htr
  obtain ⟨a, h1, h2⟩ := h en W sp hd fuel _ _ htr
  exact ⟨a, h1, h2.2 0 (by simp)⟩

theorem readsV_agg {t : TypeId} {α : Type} {enc : α → List PV} {wf : α → Prop} {fs : Array Field} (ht : P.underlying t = some (.struct fs)) (h : Reads P t α enc wf) : ReadsV P t α (fun a => .agg (enc a)) wf := fun en W sp hd b v d ps hok ⟨fuel, htr⟩ => by
  unfold Value.okWide at hok
  rw [ht] at hok
  obtain ⟨cs, rfl, _⟩ := hok
  obtain ⟨a, h1, h2⟩ := h en W sp hd fuel _ _ htr
  refine ⟨a, h1, .agg _ cs (by rw [h2.1]; simp [Value.cells]) fun i hi => ?_⟩
  have := h2.2 i (by rw [h2.1] at hi; exact hi)
  simpa [Value.cells, Array.getD_eq_getD_getElem?, List.getD] using this

theorem Reads.conv {t : TypeId} {α β : Type} {enc : α → List PV} {wf : α → Prop} {enc' : β → List PV} {wf' : β → Prop} (h : Reads P t α enc wf) (g : α → β) (hg : ∀ a, wf a → wf' (g a) ∧ enc' (g a) = enc a) : Reads P t β enc' wf' := fun en W sp hd fuel cs x hx => by
  obtain ⟨a, h1, h2⟩ := h en W sp hd fuel cs x hx
  obtain ⟨g1, g2⟩ := hg a h1
  exact ⟨g a, g1, by rw [g2]; exact h2⟩
theorem ReadsV.conv {t : TypeId} {α β : Type} {enc : α → PV} {wf : α → Prop} {enc' : β → PV} {wf' : β → Prop} (h : ReadsV P t α enc wf) (g : α → β) (hg : ∀ a, wf a → wf' (g a) ∧ enc' (g a) = enc a) : ReadsV P t β enc' wf' := fun en W sp hd b v d ps ho hx => by
  obtain ⟨a, h1, h2⟩ := h en W sp hd b v d ps ho hx
  obtain ⟨g1, g2⟩ := hg a h1
  exact ⟨g a, g1, by rw [g2]; exact h2⟩

/-! ### A law's contract -/
theorem law_calls {f : FuncId} {pvs : List PV} {args : Array Value} {W : World} (h : PFun P f pvs (.lit (.bool true))) (hr : RelL (G0 W) W pvs args) :
    Calls P f args W fun e W' => e = .returned (.bool true) ∧ Go.RowKit.Below W.heap.size W W' := by
  have := h (G0 W) W args 0 (hrel0 W) hr
  refine ((callsIn_wide (n := 0)).1 this).mono ?_
  rintro e W' ⟨o, σ', G', rfl, k2, k3, k4⟩
  cases e with
  | returned x =>
    simp only [OutRel] at k2
    have := lit_inv k2
    subst this
    exact ⟨rfl, k3.os, k3.tape, k3.output, k3.size, fun k hk => k3.keep k hk fun ⟨id, _, q, _⟩ => q rfl⟩
  | panicked ch => simp only [OutRel] at k2
  | outgrown => simp only [OutRel] at k2

theorem trodAll_below {H : Type} {en : TypeId × Value → H} {W W' : World} (hl : laidOutB P = true) (hb : Go.RowKit.Below W.heap.size W W') : ∀ {ts : List TypeId} {vs : List Value} {ds : List (DataW H)} {ps : List MemPlace},
    (∀ t ∈ ts, P.readableRec t = true ∧ t < P.types.size) → (∀ x ∈ ps, x.block < W.heap.size) → DataW.TrodAll en P W 0 (fun _ => true) true ts vs ds ps → DataW.TrodAll en P W' 0 (fun b => decide (b < W.heap.size)) true ts vs ds ps := by
  intro ts
  induction ts with
  | nil =>
    intro vs ds ps _ _ h
    match vs, ds, h with
    | [], [], h => exact h
  | cons t ts ih =>
    intro vs ds ps ht hlt h
    match vs, ds, h with
    | v :: vs, d :: ds, h =>
      obtain ⟨p, q, h1, h2, rfl⟩ := h
      refine ⟨p, q, Go.RowKit.Below.trod hl (ht t (List.mem_cons_self ..)).1 (ht t (List.mem_cons_self ..)).2 h1 hb (fun x hx => hlt x (List.mem_append_left _ hx)), ih (fun t' ht' => ht t' (List.mem_cons_of_mem _ ht')) (fun x hx => hlt x (List.mem_append_right _ hx)) h2, rfl⟩

theorem law_post {H : Type} {en : TypeId × Value → H} {fn : Func} {s : ChangeSpec} {W W' : World} {args : Array Value} {ds gs : List (DataW H)} {before : List MemPlace} {tb : TypeId} (hl : laidOutB P = true) (hvars : s.vars = [])
    (hpar : ∀ t ∈ fn.params.toList, P.readableRec t = true ∧ t < P.types.size) (hres : fn.resultTypes = #[tb]) (htb : P.underlying tb = some .bool)
    (hs : (s.fn H ds).results = [.lit (.bool true)] ∧ (s.fn H ds).args = ds ∧ (s.fn H ds).vars = []) (hW : DataW.Whole en P fn.params.toList s.vars false W args.toList ds gs before) (hb : Go.RowKit.Below W.heap.size W W') :
    s.post en P fn false true false false W args (.bool true) W' := by
  have hW' := hW
  obtain ⟨p, q, hA, hV, rfl, _, _⟩ := hW
  rw [hvars] at hV
  obtain ⟨rfl, rfl⟩ := Go.ChangeShapes.trodVars_none hV
  have hlt : ∀ x ∈ p, x.block < W.heap.size := fun x hx => by have := hW'.lt x (List.mem_append_left _ hx); simpa using this
  refine ⟨ds, [], p ++ [], [], p, [], hW', ?_, ?_, ?_, Go.RowKit.Below.frame hb _, fun e => by cases e⟩
  · rw [List.append_nil, hs.1, hres]
    exact ⟨[], [], Go.RowKit.shut_bool htb true, rfl, rfl⟩
  · rw [List.append_nil, hs.2.1]
    exact trodAll_below hl hb hpar hlt hA
  · rw [List.append_nil, hs.2.2, hvars]
    rfl
end
end Go.Lo

/-
  The program logic 'Lo', part P: lists that grow. Nothing of the program.
-/
set_option linter.unusedSimpArgs false
set_option linter.unusedVariables false
namespace Go.Lo
open Go

@[simp] theorem Heap.set_set (σ : Heap) (id : Nat) (x y : PObj) : (σ.set id x).set id y = σ.set id y := by funext j; unfold Heap.set; split <;> rfl
@[simp] theorem Heap.empty_apply (id : Nat) : Heap.empty id = none := rfl

/-- A slice of the function's own that holds these rows: nil, or in memory of its own, or inline. -/
def Own (k : Nat) (σ : Heap) (v : PV) (rows : List (List PV)) : Prop :=
  (∀ r ∈ rows, r.length = k) ∧ ((v = .lit (.slice none 0 0) ∧ rows = []) ∨ (∃ id full, v = .msl id k 0 rows.length full ∧ σ id = some (.cells rows.flatten)) ∨ v = .slice true rows)

theorem Own.sv {k : Nat} {σ : Heap} {v : PV} {rows : List (List PV)} (h : Own k σ v rows) : Lo.sv v = v ∧ avt v = True := by
  rcases h.2 with ⟨rfl, _⟩ | ⟨id, full, rfl, _⟩ | rfl <;> exact ⟨rfl, rfl⟩
theorem Own.nil (k : Nat) (σ : Heap) : Own k σ (.lit (.slice none 0 0)) [] := ⟨by simp, .inl ⟨rfl, rfl⟩⟩
theorem Own.full (k : Nat) (σ : Heap) {rows : List (List PV)} (h : ∀ r ∈ rows, r.length = k) : Own k σ (.slice true rows) rows := ⟨h, .inr (.inr rfl)⟩

/-- The objects that are not the slice's. -/
def Keeps (v : PV) (σ σ' : Heap) : Prop := ∀ j, σ j ≠ none → (∀ k off len full, v ≠ .msl j k off len full) → σ' j = σ j
theorem Own.len {P : Program} {k : Nat} {σ : Heap} {v : PV} {rows : List (List PV)} (h : Own k σ v rows) {t e : TypeId} (ht : P.underlying t = some (.slice e)) : (evLen P σ t v).D ∧ (evLen P σ t v).V = .lit (.int .i64 rows.length) := by
  rcases h.2 with ⟨rfl, rfl⟩ | ⟨id, full, rfl, _⟩ | rfl <;> simp [evLen, ht]

theorem own_yv {k : Nat} {σ : Heap} {v : PV} {rows : List (List PV)} (h : Own k σ v rows) : (yv σ k v).D ∧ (yv σ k v).n = rows.length ∧ (yv σ k v).cs = rows.flatten := by
  rcases h.2 with ⟨rfl, rfl⟩ | ⟨id, full, rfl, ho⟩ | rfl
  · simp [yv]
  · have hl := (flatten_getD h.1).1
    simp [yv, ho, hl]
    rw [← hl, List.take_length]
  · exact ⟨h.1, rfl, rfl⟩

theorem own_append {P : Program} {σ : Heap} {k b : Nat} {v y : PV} {rows new : List (List PV)} {t t2 : TypeId} {zs : List PV} {C : PV → Heap → Prop} (h : Own k σ v rows) (he : elemB P t = some (b, zs)) (hb : b ≤ 4096) (hk : zs.length = k) (h0 : 0 < k) (hs : isSliceT P t2 = true)
    (hy : (yv σ k y).D ∧ (yv σ k y).n = new.length ∧ (yv σ k y).cs = new.flatten) (hnew : ∀ r ∈ new, r.length = k ∧ ∀ c ∈ r, isCell1 c = true) (hmax : rows.length + new.length ≤ 4294967296)
    (hC : ∀ V σ', Own k σ' V (rows ++ new) → Keeps v σ σ' → (new ≠ [] → ∃ id, V = .msl id k 0 (rows ++ new).length false ∧ σ' id = some (.cells (rows ++ new).flatten)) → C V σ') : appendP P σ t t2 v y C := by
  have hrows : ∀ r ∈ rows ++ new, r.length = k := fun r hr => (List.mem_append.1 hr).elim (h.1 r) fun x => (hnew r x).1
  have hone : ∀ c ∈ new.flatten, isCell1 c = true := fun c hc => by obtain ⟨r, h1, h2⟩ := List.mem_flatten.1 hc; exact (hnew r h1).2 c h2
  obtain ⟨x1, x2, x3⟩ := own_yv h
  obtain ⟨y1, y2, y3⟩ := hy
  unfold appendP
  rw [he]
  simp only [hk]
  refine ⟨hs, hb, by rw [← List.length_pos_iff, hk]; exact h0, y1, x1, by rw [x2, y2]; exact hmax, ?_⟩
  have fresh : ∀ id, σ id = none → C (.msl id k 0 (rows.length + new.length) false) (σ.set id (.cells (rows.flatten ++ new.flatten))) := fun id hid =>
    hC _ _ ⟨hrows, .inr (.inl ⟨id, false, by simp, by simp [Heap.set]⟩)⟩ (fun j hj _ => by
      have : j ≠ id := fun e => hj (e ▸ hid)
      simp [Heap.set, this]) fun _ => ⟨id, by simp, by simp [Heap.set]⟩
  have same : new.length = 0 → C v σ := fun e => by
    have : new = [] := List.length_eq_zero_iff.1 e
    subst this
    exact hC _ _ (by simpa using h) (fun _ _ _ => rfl) fun h => absurd rfl h
  rcases h.2 with ⟨rfl, rfl⟩ | ⟨id0, full, rfl, ho⟩ | rfl
  · simp only
    rw [y2, x2, y3, x3]
    exact ⟨same, fun _ => fresh⟩
  · cases full with
    | true =>
      simp only
      rw [y2, x2, y3, x3]
      exact ⟨same, fun _ => fresh⟩
    | false =>
      have hl := (flatten_getD h.1).1
      simp only [ho]
      rw [y2, y3, x3]
      refine ⟨by rw [hl]; omega, hone, fun id hid => ?_⟩
      refine hC _ _ ⟨hrows, .inr (.inl ⟨id, false, by simp, by simp [Heap.set]⟩)⟩ (fun j hj hv => ?_) fun _ => ⟨id, by simp, by simp [Heap.set]⟩
      have h1 : j ≠ id := fun e => hj (e ▸ hid)
      have h2 : j ≠ id0 := fun e => hv _ _ _ _ (by rw [e])
      simp [Heap.set, Heap.del, h1, h2]
  · simp only
    rw [y2, x2, y3, x3]
    exact ⟨same, fun _ => fresh⟩

theorem Own.cell {k : Nat} {σ : Heap} {v : PV} {rows : List (List PV)} (h : Own k σ v rows) : cellsP v = [v] ∧ isCell v = true ∧ isCell1 v = true := by
  rcases h.2 with ⟨rfl, _⟩ | ⟨id, full, rfl, _⟩ | rfl <;> exact ⟨rfl, rfl, rfl⟩
/-- Another object is written. -/
theorem Own.set {k : Nat} {σ : Heap} {v : PV} {rows : List (List PV)} {id : Nat} {x : PObj} (h : Own k σ v rows) (hid : ∀ cs, σ id = some (.cells cs) → cs ≠ rows.flatten) : Own k (σ.set id x) v rows := by
  refine ⟨h.1, ?_⟩
  rcases h.2 with h1 | ⟨j, full, rfl, hj⟩ | h1
  · exact .inl h1
  · refine .inr (.inl ⟨j, full, rfl, ?_⟩)
    rw [Heap.set_apply, if_neg (by rintro rfl; exact hid _ hj rfl)]; exact hj
  · exact .inr (.inr h1)
theorem Own.new {k : Nat} {σ : Heap} {v : PV} {rows : List (List PV)} {id : Nat} {x : PObj} (h : Own k σ v rows) (hid : σ id = none) : Own k (σ.set id x) v rows := h.set fun cs e => by rw [hid] at e; cases e
theorem Own.ne {k : Nat} {σ : Heap} {v : PV} {rows : List (List PV)} {id : Nat} {cs : List PV} (h : Own k σ v rows) (hid : σ id = some (.cells cs)) (hne : cs ≠ rows.flatten) : ∀ k' off len full, v ≠ .msl id k' off len full := fun k' off len full e => by
  rcases h.2 with ⟨h1, _⟩ | ⟨j, full', h1, hj⟩ | h1 <;> rw [h1] at e <;> cases e
  rw [hj] at hid; cases hid; exact hne rfl
theorem one_ne {rows : List (List PV)} {v : PV} {k : Nat} (h : ∀ r ∈ rows, r.length = k) (hk : 1 < k) : [v] ≠ rows.flatten := fun e => by
  have h1 := (flatten_getD h).1
  rw [← e] at h1
  simp at h1
  rcases Nat.eq_zero_or_pos rows.length with h2 | h2
  · rw [h2] at h1; simp at h1
  · have : 1 * k ≤ rows.length * k := Nat.mul_le_mul_right k h2
    omega

/-- A row of its own. -/
theorem yv_row {σ : Heap} {k : Nat} {full : Bool} {new : List (List PV)} (h : ∀ r ∈ new, r.length = k) : (yv σ k (.slice full new)).D ∧ (yv σ k (.slice full new)).n = new.length ∧ (yv σ k (.slice full new)).cs = new.flatten := ⟨h, rfl, rfl⟩

/-- **The result of a function that builds a list.** -/
theorem pcalls_own {P : Program} {f : FuncId} {args : List PV} {σ : Heap} {k : Nat} {rows : List (List PV)} (h : pcalls P f args σ fun o σ' => ∃ v, o = .val v ∧ Own k σ' v rows) : pcalls P f args σ fun o _ => o = .val (.slice false rows) := by
  have step : pcalls P f args σ fun o σ' => o = .val (.lit (.slice none 0 0)) ∧ rows = [] ∨ ∃ full, o = .val (.slice full rows) := by
    refine pcalls_frz (h.mono ?_)
    rintro o σ' ⟨v, rfl, hk, h1⟩
    rcases h1 with ⟨rfl, hr⟩ | ⟨id, full, rfl, ho⟩ | rfl
    · exact ⟨0, Heap.empty, .none, .inl ⟨rfl, hr⟩⟩
    · refine ⟨1, Heap.one id (.cells rows.flatten), .one ho, .inr ⟨full, ?_⟩⟩
      have hl := (flatten_getD hk).1
      simp only [frzO, frzN, Heap.one, if_true, hl, Nat.zero_add, Nat.le_refl, List.drop_zero]
      congr 2
      have e : (rows.flatten.map fun v => v) = rows.flatten := by simp
      rw [e]
      exact chunks_flatten rows hk
    · exact ⟨0, Heap.empty, .none, .inr ⟨true, rfl⟩⟩
  intro G W xs m h1 h2
  refine (step G W xs m h1 h2).mono ?_
  rintro e W' ⟨o, σ', G', k1, k2, k3, k4⟩
  refine ⟨.val (.slice false rows), σ', G', rfl, ?_, k3, k4⟩
  rcases k1 with ⟨rfl, rfl⟩ | ⟨full, rfl⟩ <;> cases e <;> simp only [OutRel] at k2 ⊢
  · cases k2; exact .nilsl _ _ _ (fun e => by cases e)
  · exact k2.unfull

/-! ### Calls that make memory -/
section
variable {P : Program} {rd : Bool} {n : Nat} {fr : Fr} {σ : Heap}

/-- What a function makes stands beside what was there. -/
theorem pcalls_new {f : FuncId} {args : List PV} {K : Out → Heap → Prop} (h : pcalls P f args Heap.empty K) :
    pcalls P f args σ fun o σ' => ∃ σ1, K o σ1 ∧ (∀ j x, σ j = some x → σ' j = some x) ∧ (∀ j x, σ1 j = some x → σ' j = some x) ∧ ∀ j, σ j ≠ none → σ1 j = none := by
  intro G W xs m h1 h2
  have hs : ∀ id x, Heap.empty id = some x → σ id = some x := fun id x hx => by cases hx
  refine (h G W xs m (h1.less hs) h2).mono ?_
  rintro e W' ⟨o, σ1, G', k1, k2, k3, k4⟩
  obtain ⟨p1, p2⟩ := frame_patch hs h1 k3 k4
  have dis : ∀ j, σ j ≠ none → σ1 j = none := fun j hj => by
    cases hy : σ1 j with
    | none => rfl
    | some y =>
      rcases k3.fresh j (by rw [hy]; simp) with q | q
      · exact absurd rfl q
      · obtain ⟨x, hx⟩ := some_of_ne hj
        obtain ⟨loc, l1, _⟩ := h1.obj j x hx
        rw [q] at l1; cases l1
  refine ⟨o, _, G', ⟨σ1, k1, fun j x hx => ?_, fun j x hx => ?_, dis⟩, k2, p2, p1⟩
  · have := dis j (by rw [hx]; simp)
    simp [Heap.patch, this, Heap.empty, hx]
  · simp [Heap.patch, hx]

theorem pops_call (T : Tab) (hT : T.ok P) {ops : Array Oper} {o : Oper} {l : List Oper} {Q : PX → Fr → Heap → Prop} {c : Call} {g : FuncId} {K : Out → Heap → Prop} {args : List PV} (hg : o.guard = none) (hd : dstOk n o = true) (ho : o.op = .call c) (hcl : c.callee = .value (.func g)) (he : Enters P g)
    (ha : ∀ x ∈ c.args.toList, avt (opv fr x)) (hargs : argsP fr c.args = args) (h : pcalls P g args σ K)
    (hK : ∀ o' σ', K o' σ' → match o' with | .val v => pst P T rd n ops Q l (frSet fr o.dst v) σ' | .pan v => Q (.pan v) fr σ') : pops P rd n ops (o :: l) Q fr σ := by
  refine pops_gop (by simp [gval, hg]) hd (gop_call (first := []) (captured := []) ho hcl rfl trivial he ha ?_)
  simp only [List.nil_append, List.append_nil]
  rw [hargs]
  refine h.mono fun o' σ' k => ?_
  have := hK o' σ' k
  cases o' with
  | val v => exact pops_pst hT this
  | pan v => exact this

theorem pops_yield (T : Tab) (hT : T.ok P) {ops : Array Oper} {o : Oper} {l : List Oper} {Q : PX → Fr → Heap → Prop} {c : Call} {fo : Operand} {L : Nat} {K : Out → Heap → Prop} {args : List PV} (hg : o.guard = none) (hd : dstOk n o = true) (ho : o.op = .call c) (hcl : c.callee = .value fo)
    (hy : sv (opv fr fo) = .yld L) (hya : avt (opv fr fo)) (ha : ∀ x ∈ c.args.toList, avt (opv fr x)) (hargs : argsP fr c.args = args) (h : yruns P L args σ K)
    (hK : ∀ o' σ', K o' σ' → match o' with | .val v => pst P T rd n ops Q l (frSet fr o.dst v) σ' | .pan v => Q (.pan v) fr σ') : pops P rd n ops (o :: l) Q fr σ := by
  refine pops_gop (by simp [gval, hg]) hd (gop_yield ho hcl hy hya ha ?_)
  rw [hargs]
  refine h.mono fun o' σ' k => ?_
  have := hK o' σ' k
  cases o' with
  | val v => exact pops_pst hT this
  | pan v => exact this
end
end Go.Lo

/-
  The program logic 'Lo', part Q: iterators and their loops, each with its own memory. Nothing of the program.
-/
set_option linter.unusedSimpArgs false
set_option linter.unusedVariables false
namespace Go.Lo
open Go

section
variable {P : Program} {rd : Bool} {n : Nat} {fr : Fr} {σ : Heap}

theorem patch_set {σ σ1 : Heap} {id : Nat} {x : PObj} (hid : σ id = none) (h1 : σ1 id = none) : (σ.set id x).patch σ σ1 = σ1.set id x := by
  funext j
  unfold Heap.patch Heap.set
  by_cases e : j = id
  · subst e; simp [h1, hid]
  · simp only [if_neg e]
    cases h2 : σ1 j with
    | some y => simp
    | none =>
      simp only [Option.isSome_none, Bool.false_eq_true, if_false]
      cases h3 : σ j with
      | some y => simp
      | none => simp

theorem pwp.beside {c : Code} {Q : PX → Fr → Heap → Prop} {id : Nat} {x : PObj} (h : pwp P rd n c Q fr σ) (hid : σ id = none) :
    pwp P rd n c (fun pe fr' σ' => ∃ σ1, σ1 id = none ∧ σ' = σ1.set id x ∧ Q pe fr' σ1) fr (σ.set id x) := by
  have hs : ∀ j y, σ j = some y → (σ.set id x) j = some y := fun j y hy => by
    rw [Heap.set_apply, if_neg (fun e => by subst e; rw [hid] at hy; cases hy)]; exact hy
  intro G W A r m base h1 h2 h3 h4 h5
  refine wpIn_mono (h G W A r m base h1 (h2.less hs) h3 h4 h5) fun e A' W' k => ?_
  obtain ⟨pe, fr', σ1, G', k1, k2, k3, k4, k5, k6⟩ := k
  obtain ⟨p1, p2⟩ := frame_patch hs h2 k3 k4
  have hn : σ1 id = none := by
    cases hx : σ1 id with
    | none => rfl
    | some y =>
      rcases k3.fresh id (by rw [hx]; simp) with q | q
      · exact absurd hid q
      · obtain ⟨loc, l1, _⟩ := h2.obj id x (by simp [Heap.set])
        rw [q] at l1; cases l1
  rw [patch_set hid hn] at p1 p2
  exact ⟨pe, fr', σ1.set id x, G', ⟨σ1, hn, rfl, k1⟩, k2, p2, p1, k5, k6⟩

/-- A function that yields 'vs', one after another, as long as it is let. -/
def IterC (P : Program) (f : FuncId) (first cap : List PV) (vs : List (List PV)) : Prop :=
  ∀ (L : Nat) (I : Nat → Heap → Prop) (R : Heap → Prop),
    (∀ k σ (h : k < vs.length), I k σ → yruns P L vs[k] σ fun o σ' => (o = .val (.lit (.bool true)) ∧ I (k + 1) σ') ∨ (o = .val (.lit (.bool false)) ∧ R σ')) →
    ∀ σ, I 0 σ → pcalls P f (first ++ [.yld L] ++ cap) σ fun o σ' => (∃ v, o = .val v) ∧ (I vs.length σ' ∨ R σ')

/-- What a round's end means to the loop's function. -/
def rndK (P : Program) (n : Nat) (Q : PX → Fr → Heap → Prop) (fr : Fr) (J : Heap → Prop) : PX → Fr → Heap → Prop
  | .normal, _, σ => J σ
  | .ret, _, σ => pwp P false n .ret Q fr σ
  | .exit id, _, σ => pwp P false n (.exit id) Q fr σ
  | .goto l, _, σ => pwp P false n (.goto l) Q fr σ
  | .pan _, _, _ => False

/-- **A range over an iterator.** -/
theorem pwp_range {g : Operand} {ps : Array Tmp} {as bd : Code} {Q : PX → Fr → Heap → Prop} {f : FuncId} {first cap : List PV} {vs : List (List PV)} (hit : IterC P f first cap vs) (hg : sv (opv fr g) = .fn (.func f) first cap) (hga : avt (opv fr g)) (he : Enters P f)
    (hps : ∀ v ∈ vs, ps.size = v.length) (hlt : ∀ t ∈ ps.toList, t < n) (J : Nat → Heap → Prop) (h0 : J 0 σ)
    (round : ∀ k σ (h : k < vs.length), J k σ → pwp P true n as (PX.thn (fun fr1 σ1 => pwp P true n bd (rndK P n Q fr (J (k + 1))) fr1 σ1) (fun _ _ _ => False)) (setPs fr ps.toList vs[k]) σ)
    (hend : ∀ σ, J vs.length σ → Q .normal fr σ) : pwp P false n (.rangeFunc g ps as bd) Q fr σ := by
  refine pwp_rangeFunc hg hga he fun L hL => ?_
  refine (hit L (fun k σL => ∃ σ, σ L = none ∧ σL = σ.set L (.loop fr n ps as bd .ready none) ∧ J k σ) (fun σL => ∃ σ c, σ L = none ∧ σL = σ.set L (.loop fr n ps as bd .done (some c)) ∧ pwp P false n c Q fr σ) ?_ _ ⟨σ, hL, rfl, h0⟩).mono ?_
  · rintro k σL hk ⟨σ, hn, rfl, hJ⟩
    refine yruns_body (frL := fr) (nL := n) (ps := ps) (as := as) (bd := bd) (pe := none) (by simp [Heap.set]) (hps _ (List.getElem_mem hk)) hlt ?_
    refine pwp_mono ((round k σ hk hJ).beside (x := .loop fr n ps as bd .ready none) hn) fun pe fr1 σ1L k1 => ?_
    obtain ⟨σ1, hn1, rfl, k2⟩ := k1
    cases pe with
    | normal =>
      refine ⟨none, by simp [Heap.set], ?_⟩
      have hset : (σ1.set L (.loop fr n ps as bd .ready none)).set L (.loop fr n ps as bd .busy none) = σ1.set L (.loop fr n ps as bd .busy none) := by
        funext j; unfold Heap.set; split <;> rfl
      rw [hset]
      have k2 : pwp P true n bd (rndK P n Q fr (J (k + 1))) fr1 σ1 := k2
      refine pwp_mono (k2.beside (x := .loop fr n ps as bd .busy none) hn1) fun pe fr2 σ2L k3 => ?_
      obtain ⟨σ2, hn2, rfl, k4⟩ := k3
      have hset2 : ∀ o, (σ2.set L (.loop fr n ps as bd .busy none)).set L o = σ2.set L o := fun o => by
        funext j; unfold Heap.set; split <;> rfl
      have here : ∃ st pe, (σ2.set L (.loop fr n ps as bd .busy none)) L = some (.loop fr n ps as bd st pe) := ⟨_, _, by simp [Heap.set]; exact ⟨rfl, rfl⟩⟩
      cases pe with
      | normal => exact ⟨here, .inl ⟨rfl, σ2, hn2, hset2 _, k4⟩⟩
      | ret => exact ⟨here, .inr ⟨rfl, σ2, _, hn2, hset2 _, k4⟩⟩
      | exit id => exact ⟨here, .inr ⟨rfl, σ2, _, hn2, hset2 _, k4⟩⟩
      | goto l => exact ⟨here, .inr ⟨rfl, σ2, _, hn2, hset2 _, k4⟩⟩
      | pan v => exact k4
    | exit id => exact k2
    | goto l => exact k2
    | ret => exact k2
    | pan v => exact k2
  · rintro o σ' ⟨⟨v, rfl⟩, h⟩
    have hdel : ∀ (σ2 : Heap) o, σ2 L = none → (σ2.set L o).del L = σ2 := fun σ2 o hn => by
      funext j; unfold Heap.set Heap.del; by_cases e : j = L
      · subst e; simp [hn]
      · simp [e]
    rcases h with ⟨σ2, hn, rfl, hJ⟩ | ⟨σ2, c, hn, rfl, hc⟩
    · refine ⟨.ready, none, by simp [Heap.set], by simp, ?_⟩
      rw [hdel _ _ hn]; exact hend _ hJ
    · refine ⟨.done, some c, by simp [Heap.set], by simp, ?_⟩
      rw [hdel _ _ hn]; exact hc

/-- What reads as p reads as q. -/
def PLe (p q : PV) : Prop := ∀ G W v, VRel G W p v → VRel G W q v
theorem PLe.refl (p : PV) : PLe p p := fun _ _ _ h => h
theorem PLe.nil (full : Bool) : PLe (.lit (.slice none 0 0)) (.slice full []) := fun G W v h => by
  have := lit_inv h
  subst this
  exact .nilsl _ _ _ (fun _ => rfl)
theorem PLe.unfull (full : Bool) (rows : List (List PV)) : PLe (.slice full rows) (.slice false rows) := fun _ _ _ h => h.unfull
inductive PLeL : List PV → List PV → Prop
  | nil : PLeL [] []
  | cons {p q : PV} {ps qs : List PV} : PLe p q → PLeL ps qs → PLeL (p :: ps) (q :: qs)
theorem PLeL.get {ps qs : List PV} (h : PLeL ps qs) : ps.length = qs.length ∧ ∀ i, i < qs.length → PLe (ps.getD i .any) (qs.getD i .any) := by
  induction h with
  | nil => exact ⟨rfl, fun i hi => by simp at hi⟩
  | cons h1 _ ih =>
    refine ⟨by simp [ih.1], fun i hi => ?_⟩
    cases i with
    | zero => exact h1
    | succ i => simpa using ih.2 i (by simpa using hi)
theorem pcalls.args {f : FuncId} {args args' : List PV} {K : Out → Heap → Prop} (h : pcalls P f args' σ K) (hle : PLeL args args') : pcalls P f args σ K := fun G W xs m h1 h2 => by
  obtain ⟨l1, l2⟩ := hle.get
  exact h G W xs m h1 ⟨by rw [h2.1, l1], fun i hi => l2 i hi _ _ _ (h2.2 i (by omega))⟩
end
end Go.Lo

/-
  The program logic 'Lo', part R: from a law's contract to its given statement, for any list of parameters. Nothing of the program.
-/
set_option linter.unusedSimpArgs false
set_option linter.unusedVariables false
namespace Go.Lo
open Go

section
variable {P : Program}

/-- What reads at these types is a list of arguments with Φ. -/
def ReadsL (P : Program) (ts : List TypeId) (Φ : List PV → Prop) : Prop :=
  ∀ {H : Type} (en : TypeId × Value → H) (W : World) (b : Nat) (vs : List Value) (ds : List (DataW H)) (ps : List MemPlace),
    (∀ (j : Nat) t v, ts[j]? = some t → vs[j]? = some v → Value.okWide P W .any b t v) → DataW.TrodAll en P W 0 (fun _ => true) true ts vs ds ps →
    ∃ pvs, Φ pvs ∧ CRel (G0 W) W pvs vs
theorem readsL_nil : ReadsL P [] (fun l => l = []) := fun en W b vs ds ps _ h => by
  match vs, ds, h with
  | [], [], _ => exact ⟨[], rfl, rfl, fun i hi => absurd hi (Nat.not_lt_zero _)⟩
theorem ReadsV.cons {t : TypeId} {ts : List TypeId} {α : Type} {enc : α → PV} {wf : α → Prop} {Φ : List PV → Prop} (h : ReadsV P t α enc wf) (k : ReadsL P ts Φ) :
    ReadsL P (t :: ts) (fun l => ∃ a l', wf a ∧ Φ l' ∧ l = enc a :: l') := fun en W b vs ds ps hok ht => by
  match vs, ds, ht with
  | v :: vs, d :: ds, ht =>
    obtain ⟨p, q, h1, h2, rfl⟩ := ht
    obtain ⟨a, w, r⟩ := h en W _ _ b v d p (hok 0 t v rfl rfl) h1
    obtain ⟨pvs, f, g⟩ := k en W b vs ds q (fun j t' v' e1 e2 => hok (j + 1) t' v' e1 e2) h2
    refine ⟨enc a :: pvs, ⟨a, pvs, w, f, rfl⟩, by simp [g.1], fun i hi => ?_⟩
    cases i with
    | zero => exact r
    | succ i => exact g.2 i (by simpa using hi)

theorem trodAll_len {H : Type} {en : TypeId × Value → H} {W : World} {b : Nat} {sp : Nat → Bool} {hd : Bool} : ∀ {ts : List TypeId} {vs : List Value} {ds : List (DataW H)} {ps : List MemPlace}, DataW.TrodAll en P W b sp hd ts vs ds ps → ds.length = ts.length := by
  intro ts
  induction ts with
  | nil => intro vs ds ps h; match vs, ds, h with
    | [], [], _ => rfl
  | cons t ts ih => intro vs ds ps h; match vs, ds, h with
    | v :: vs, d :: ds, h =>
      obtain ⟨p, q, _, h2, _⟩ := h
      simp [ih h2]

theorem law_top {H : Type} {enc : TypeId × Value → H} {C : Checked} {os : Os} {f : FuncId} {fn : Func} {s : ChangeSpec} {conds : List PathCond} {Φ : List PV → Prop} {tb : TypeId}
    (own : ownKnob C.prog.godebug = none) (started : os.Started) (noInit : C.prog.inits.idxOf? f = none) (hfn : C.prog.funcs[f]? = some fn)
    (witness : ∃ (w : World) (tape : Tape) (i : Input), w.os = os ∧ (w.forCall tape i).Shaped C.prog ∧ i.vars = [] ∧ Input.okWide C.prog (w.forCall tape i) .any w.heap.size f i ∧
      s.pre6 enc C.prog fn conds false (w.forCall tape i).memory i.args ∧ ({} : Assume).holds C.prog (lone (Frame.enter C.prog f i.args .normal) [] (w.forCall tape i)))
    (hl : laidOutB C.prog = true) (hvars : s.vars = []) {ts : List TypeId} (hts : fn.params.toList = ts) (hpar : ∀ t ∈ ts, C.prog.readableRec t = true ∧ t < C.prog.types.size)
    (hres : fn.resultTypes = #[tb]) (htb : C.prog.underlying tb = some .bool)
    (hs : ∀ ds : List (DataW H), ds.length = ts.length → (s.fn H ds).results = [.lit (.bool true)] ∧ (s.fn H ds).args = ds ∧ (s.fn H ds).vars = [])
    (hR : ReadsL C.prog ts Φ) (law : ∀ pvs, Φ pvs → PFun C.prog f pvs (.lit (.bool true))) :
    ReturnsInHanded {} C os f .any (s.pre6 enc C.prog fn conds false) (s.post enc C.prog fn false true false false) := by
  subst hts
  refine returnsInHanded_of_change own started noInit hfn witness ?_
  intro W base args ds gs before hval hW _ _
  have hW' := hW
  obtain ⟨p, q, hA, hV, rfl, hfz, hnd⟩ := hW
  have hlen : ds.length = fn.params.toList.length := trodAll_len hA
  obtain ⟨pvs, hΦ, hrel⟩ := hR enc W base args.toList ds p (fun j t v e1 e2 => hval j t v (by simpa using e1) (by simpa using e2)) hA
  refine (law_calls (law pvs hΦ) (args := args) ⟨by rw [hrel.1]; simp, fun i hi => ?_⟩).mono fun e W' ⟨he, hb⟩ => ?_
  · have := hrel.2 i (by rw [← hrel.1]; exact hi)
    simpa [Array.getD_eq_getD_getElem?, List.getD] using this
  · exact ⟨_, he, law_post hl hvars hpar hres htb (hs ds hlen) hW' hb⟩
end
end Go.Lo

/-
  The program logic 'Lo', part S: how simp runs code: each step forces its operands first and looks into nothing else. Nothing of the program.
-/
set_option linter.unusedSimpArgs false
set_option linter.unusedVariables false
namespace Go.Lo
open Go

/-! ### Forcing: simp normalizes the first argument alone -/
structure TgK {α : Type} (k : α → Prop) where
  x : Nat := 0
def VK {α : Type} (v : α) (k : α → Prop) (_ : TgK k) : Prop := k v
@[simp] theorem VK_def {α : Type} (v : α) (k : α → Prop) (t : TgK k) : VK v k t = k v := (rfl)
def OS {α : Type} (v : Option α) (k : α → Prop) (_ : TgK k) : Prop := match v with | some a => k a | none => False
@[simp] theorem OS_some {α : Type} (v : α) (k : α → Prop) (t : TgK k) : OS (some v) k t = k v := (rfl)
def ER (e : EV) (k : PV → Prop) (_ : TgK k) : Prop := e.D ∧ k e.V
@[simp] theorem ER_mk (D : Prop) (V : PV) (k : PV → Prop) (t : TgK k) : ER ⟨D, V⟩ k t = (D ∧ k V) := (rfl)
@[simp high] theorem ER_true (V : PV) (k : PV → Prop) (t : TgK k) : ER ⟨True, V⟩ k t = k V := by simp only [ER, true_and]
/-- .. under a guard. -/
def EG (b : Bool) (e : EV) (k : PV → Prop) (_ : TgK k) : Prop := (b = true → e.D) ∧ k (.gd b e.V)
@[simp] theorem EG_mk (b : Bool) (D : Prop) (V : PV) (k : PV → Prop) (t : TgK k) : EG b ⟨D, V⟩ k t = ((b = true → D) ∧ k (.gd b V)) := (rfl)
@[simp high] theorem EG_true (b : Bool) (V : PV) (k : PV → Prop) (t : TgK k) : EG b ⟨True, V⟩ k t = k (.gd b V) := by simp only [EG, implies_true, true_and]
structure TgG (e : EV) (k : PV → Prop) where
  x : Nat := 0
def GB (g : Option Bool) (e : EV) (k : PV → Prop) (_ : TgG e k) : Prop := match g with | some b => (b = true → e.D) ∧ k (.gd b e.V) | none => False
@[simp high] theorem GB_true (e : EV) (k : PV → Prop) (t : TgG e k) : GB (some true) e k t = ER e (fun V => k (.gd true V)) {} := by simp [GB, ER]
@[simp high] theorem GB_false (e : EV) (k : PV → Prop) (t : TgG e k) : GB (some false) e k t = k (.gd false e.V) := by simp [GB]
@[simp] theorem GB_some (b : Bool) (e : EV) (k : PV → Prop) (t : TgG e k) : GB (some b) e k t = EG b e k {} := (rfl)
structure TgC (X Y : Prop) where
  x : Nat := 0
def CR (p : PV) (X Y : Prop) (_ : TgC X Y) : Prop := match p with | .lit (.bool b) => (b = true → X) ∧ (b = false → Y) | _ => False
@[simp high] theorem CR_true (X Y : Prop) (t : TgC X Y) : CR (.lit (.bool true)) X Y t = X := by simp [CR]
@[simp high] theorem CR_false (X Y : Prop) (t : TgC X Y) : CR (.lit (.bool false)) X Y t = Y := by simp [CR]
@[simp] theorem CR_bool (b : Bool) (X Y : Prop) (t : TgC X Y) : CR (.lit (.bool b)) X Y t = ((b = true → X) ∧ (b = false → Y)) := (rfl)

def gEV (c : Prop) (e : EV) : EV := ⟨c ∧ e.D, e.V⟩
@[simp high] theorem gEV_true (e : EV) : gEV True e = e := by simp [gEV]
@[simp] theorem gEV_mk (c D : Prop) (V : PV) : gEV c ⟨D, V⟩ = ⟨c ∧ D, V⟩ := (rfl)

/-! ### Operands -/
@[simp ↓] theorem opv_tmp (fr : Fr) (t : Tmp) : opv fr (.tmp t) = fr t := (rfl)
@[simp ↓] theorem opv_const (fr : Fr) (v : Value) : opv fr (.const v) = .lit v := (rfl)
@[simp ↓] theorem opv_func (fr : Fr) (f : FuncId) : opv fr (.func f) = .fn (.func f) [] [] := (rfl)
@[simp ↓] theorem frSet_at (fr : Fr) (d t : Tmp) (v : PV) : frSet fr (some d) v t = if t = d then v else fr t := (rfl)
@[simp ↓] theorem frSet_none (fr : Fr) (t : Tmp) (v : PV) : frSet fr none v t = fr t := (rfl)
@[simp ↓] theorem Fr.set_at (fr : Fr) (d t : Tmp) (v : PV) : (fr.set d v) t = if t = d then v else fr t := (rfl)
@[simp ↓] theorem Fr.init_at (args : List PV) (t : Tmp) : Fr.init args t = args.getD t (.lit undef) := (rfl)
/-- Two names of memory: the same? -/
def SameId (a b : Nat) : Prop := a = b
instance (a b : Nat) : Decidable (SameId a b) := inferInstanceAs (Decidable (a = b))
def Apart (a b : Nat) : Prop := a ≠ b
@[simp high] theorem SameId_self (a : Nat) : SameId a a = True := by simp [SameId]
@[simp] theorem SameId_apart {a b : Nat} (h : Apart a b) : SameId a b = False := by simp [SameId]; exact h
@[simp] theorem SameId_apart' {a b : Nat} (h : Apart b a) : SameId a b = False := by simp [SameId]; exact Ne.symm h
@[simp low] theorem SameId_ne {a b : Nat} (h : ¬ a = b) : SameId a b = False := by simp [SameId]; exact h
@[simp low] theorem SameId_ne' {a b : Nat} (h : ¬ b = a) : SameId a b = False := by simp [SameId]; exact Ne.symm h
@[simp ↓] theorem Heap.set_at (σ : Heap) (id j : Nat) (o : PObj) : (σ.set id o) j = if SameId j id then some o else σ j := (rfl)
@[simp ↓] theorem Heap.del_at (σ : Heap) (id j : Nat) : (σ.del id) j = if SameId j id then none else σ j := (rfl)
/-- Nothing bears this name yet. -/
def frs (σ : Heap) (id : Nat) : Prop := σ id = none
@[simp] theorem frs_set (σ : Heap) (id j : Nat) (o : PObj) : frs (σ.set j o) id = (Apart id j ∧ frs σ id) := by
  unfold frs Apart Heap.set; split <;> simp_all
@[simp] theorem frs_empty (id : Nat) : frs Heap.empty id = True := by simp [frs, Heap.empty]
theorem frs.ne {σ : Heap} {id j : Nat} {x : PObj} (h : frs σ id) (hj : σ j = some x) : Apart id j := fun e => by
  unfold frs at h; rw [e, hj] at h; cases h
@[simp] theorem Heap.empty_at (j : Nat) : Heap.empty j = none := (rfl)

def avL (fr : Fr) : List Operand → Prop
  | [] => True
  | x :: l => avt (opv fr x) ∧ avL fr l
def svL (fr : Fr) : List Operand → List PV
  | [] => []
  | x :: l => sv (opv fr x) :: svL fr l
@[simp ↓] theorem avL_nil (fr : Fr) : avL fr [] = True := (rfl)
@[simp ↓] theorem avL_cons (fr : Fr) (x : Operand) (l : List Operand) : avL fr (x :: l) = (avt (opv fr x) ∧ avL fr l) := (rfl)
@[simp ↓] theorem svL_nil (fr : Fr) : svL fr [] = [] := (rfl)
@[simp ↓] theorem svL_cons (fr : Fr) (x : Operand) (l : List Operand) : svL fr (x :: l) = sv (opv fr x) :: svL fr l := (rfl)
theorem avL_iff (fr : Fr) : ∀ l, avL fr l = (∀ x ∈ l, avt (opv fr x)) := by
  intro l
  induction l with
  | nil => simp [avL]
  | cons x l ih => simp [avL, ih]
theorem svL_map (fr : Fr) : ∀ l, svL fr l = l.map fun x => sv (opv fr x) := by
  intro l
  induction l with
  | nil => rfl
  | cons x l ih => simp [svL, ih]
def avP (fr : Fr) : List (Nat × Operand) → Prop
  | [] => True
  | (i, x) :: l => avt (opv fr x) ∧ avP fr l
def svP (fr : Fr) : List (Nat × Operand) → List (Nat × PV)
  | [] => []
  | (i, x) :: l => (i, sv (opv fr x)) :: svP fr l
@[simp ↓] theorem avP_nil (fr : Fr) : avP fr [] = True := (rfl)
@[simp ↓] theorem avP_cons (fr : Fr) (i : Nat) (x : Operand) (l : List (Nat × Operand)) : avP fr ((i, x) :: l) = (avt (opv fr x) ∧ avP fr l) := (rfl)
@[simp ↓] theorem svP_nil (fr : Fr) : svP fr [] = [] := (rfl)
@[simp ↓] theorem svP_cons (fr : Fr) (i : Nat) (x : Operand) (l : List (Nat × Operand)) : svP fr ((i, x) :: l) = (i, sv (opv fr x)) :: svP fr l := (rfl)
theorem avP_iff (fr : Fr) : ∀ l, avP fr l = (∀ x ∈ l.map (·.2), avt (opv fr x)) := by
  intro l
  induction l with
  | nil => simp [avP]
  | cons x l ih => obtain ⟨i, x⟩ := x; simp [avP, ih]
theorem svP_map (fr : Fr) : ∀ l, svP fr l = l.map fun p => (p.1, sv (opv fr p.2)) := by
  intro l
  induction l with
  | nil => rfl
  | cons x l ih => obtain ⟨i, x⟩ := x; simp [svP, ih]
def avO (fr : Fr) : Option Operand → Prop
  | none => True
  | some x => avt (opv fr x)
def svO (fr : Fr) : Option Operand → Option PV
  | none => none
  | some x => some (sv (opv fr x))
@[simp ↓] theorem avO_none (fr : Fr) : avO fr none = True := (rfl)
@[simp ↓] theorem avO_some (fr : Fr) (x : Operand) : avO fr (some x) = avt (opv fr x) := (rfl)
@[simp ↓] theorem svO_none (fr : Fr) : svO fr none = none := (rfl)
@[simp ↓] theorem svO_some (fr : Fr) (x : Operand) : svO fr (some x) = some (sv (opv fr x)) := (rfl)

section
variable {P : Program} {T : Tab} {rd : Bool} {n : Nat} {ops : Array Oper} {Q : PX → Fr → Heap → Prop} {l : List Oper} {fr : Fr} {σ : Heap}

/-! ### What an operation yields -/
def evo (P : Program) (T : Tab) (σ : Heap) (fr : Fr) (op : Op) : EV := evc P T σ fr { dst := none, op := op, type := 0, pos := "", after := #[], guard := none }
theorem evc_evo (o : Oper) : evc P T σ fr o = evo P T σ fr o.op := by cases o; rfl
theorem gate_gEV (xs : List Operand) (e : EV) : gate fr xs e = gEV (avL fr xs) e := by rw [avL_iff]; rfl

@[simp ↓] theorem evo_move (x : Operand) : evo P T σ fr (.move x) = ⟨avt (opv fr x), sv (opv fr x)⟩ := by
  show gate fr [x] _ = _; simp [gate]
@[simp ↓] theorem evo_assign (x : Operand) : evo P T σ fr (.assign x) = ⟨avt (opv fr x), sv (opv fr x)⟩ := by
  show gate fr [x] _ = _; simp [gate]
@[simp ↓] theorem evo_bin (op : BinOp) (t : TypeId) (x y : Operand) (t2 : TypeId) : evo P T σ fr (.binOp op t x y t2) = gEV (avt (opv fr x) ∧ avt (opv fr y)) (evBin P op t (sv (opv fr x)) (sv (opv fr y))) := by
  show gate fr [x, y] _ = _; simp [gate, gEV]
@[simp ↓] theorem evo_un (op : UnOp) (t : TypeId) (x : Operand) : evo P T σ fr (.unOp op t x) = gEV (avt (opv fr x)) (evUn op (sv (opv fr x))) := by
  show gate fr [x] _ = _; simp [gate, gEV]
@[simp ↓] theorem evo_conv (s d : TypeId) (x : Operand) : evo P T σ fr (.convert s d x) = gEV (avt (opv fr x)) (evConv P s d (sv (opv fr x))) := by
  show gate fr [x] _ = _; simp [gate, gEV]
@[simp ↓] theorem evo_load (t : TypeId) (x : Operand) : evo P T σ fr (.load t x) = gEV (avt (opv fr x)) (evL P σ t (sv (opv fr x))) := by
  show gate fr [x] _ = _; simp [gate, gEV]
@[simp ↓] theorem evo_nilCheck (x : Operand) : evo P T σ fr (.nilCheck x) = gEV (avt (opv fr x)) (evNil (sv (opv fr x))) := by
  show gate fr [x] _ = _; simp [gate, gEV]
@[simp ↓] theorem evo_mkI (t : TypeId) (x : Operand) : evo P T σ fr (.makeInterface t x) = gEV (avt (opv fr x)) ⟨notIface P t = true, .iface t (sv (opv fr x))⟩ := by
  show gate fr [x] _ = _; simp [gate, gEV]
@[simp ↓] theorem evo_fieldAddr (t : TypeId) (x : Operand) (f : Nat) : evo P T σ fr (.fieldAddr t x f) = gEV (avt (opv fr x)) (evFA P t (sv (opv fr x)) f) := by
  show gate fr [x] _ = _; simp [gate, gEV]
@[simp ↓] theorem evo_field (t : TypeId) (x : Operand) (f : Nat) : evo P T σ fr (.field t x f) = gEV (avt (opv fr x)) (evF P t (sv (opv fr x)) f) := by
  show gate fr [x] _ = _; simp [gate, gEV]
@[simp ↓] theorem evo_indexAddr (t : TypeId) (x y : Operand) : evo P T σ fr (.indexAddr t x y) = gEV (avt (opv fr x) ∧ avt (opv fr y)) (evIA P t (sv (opv fr x)) (sv (opv fr y))) := by
  show gate fr [x, y] _ = _; simp [gate, gEV]
@[simp ↓] theorem evo_index (t : TypeId) (x y : Operand) : evo P T σ fr (.index t x y) = gEV (avt (opv fr x) ∧ avt (opv fr y)) (evI P t (sv (opv fr x)) (sv (opv fr y))) := by
  show gate fr [x, y] _ = _; simp [gate, gEV]
@[simp ↓] theorem evo_extract (x : Operand) (i : Nat) : evo P T σ fr (.extract x i) = gEV (avt (opv fr x)) (evExtract (sv (opv fr x)) i) := by
  show gate fr [x] _ = _; simp [gate, gEV]
@[simp ↓] theorem evo_build (t : TypeId) (ps : List (Nat × Operand)) : evo P T σ fr (.build t ps.toArray) = gEV (avP fr ps) (evBuild P t (svP fr ps)) := by
  rw [avP_iff, svP_map]
  show gate fr (ps.toArray.toList.map (·.2)) (evBuild P t (partsP fr ps.toArray)) = _
  simp [gate, gEV, partsP]
@[simp ↓] theorem evo_buildSlice (t : TypeId) (len : Nat) (ps : List (Nat × Operand)) : evo P T σ fr (.buildSlice t len ps.toArray) = gEV (avP fr ps) (evBS P t len (svP fr ps)) := by
  rw [avP_iff, svP_map]
  show gate fr (ps.toArray.toList.map (·.2)) (evBS P t len (partsP fr ps.toArray)) = _
  simp [gate, gEV, partsP]
@[simp ↓] theorem evo_makeFunc (f : Fn) (first cap : List Operand) : evo P T σ fr (.makeFunc f first.toArray cap.toArray) = gEV (avL fr first ∧ avL fr cap) ⟨True, .fn f (svL fr first) (svL fr cap)⟩ := by
  rw [avL_iff, avL_iff, svL_map, svL_map]
  show gate fr (first.toArray.toList ++ cap.toArray.toList) ⟨True, .fn f (first.toArray.toList.map fun x => sv (opv fr x)) (cap.toArray.toList.map fun x => sv (opv fr x))⟩ = _
  simp only [gate, gEV, and_true]
  congr 1
  simp only [List.mem_append, eq_iff_iff]
  exact ⟨fun h => ⟨fun x hx => h x (.inl hx), fun x hx => h x (.inr hx)⟩, fun h x hx => hx.elim (h.1 x) (h.2 x)⟩
@[simp ↓] theorem evo_slice (t : TypeId) (x : Operand) (lo hi mx : Option Operand) : evo P T σ fr (.slice t x lo hi mx) = gEV (avt (opv fr x) ∧ avO fr lo ∧ avO fr hi ∧ avO fr mx) (evSl P σ t (sv (opv fr x)) (svO fr lo) (svO fr hi) (svO fr mx)) := by
  show gate fr (x :: (lo.toList ++ hi.toList ++ mx.toList)) (evSl P σ t (sv (opv fr x)) (lo.map fun x => sv (opv fr x)) (hi.map fun x => sv (opv fr x)) (mx.map fun x => sv (opv fr x))) = _
  cases lo <;> cases hi <;> cases mx <;> simp [gate, gEV, avO, svO]
/-- The choice behind '&&' and '||'. -/
def pickE (c a b : PV) : EV :=
  match sv c with
  | .lit (.bool t) => ⟨avt c ∧ (t = true → avt a) ∧ (t = false → avt b), pickV t (sv a) (sv b)⟩
  | _ => .no
@[simp ↓] theorem evo_pick (c a b : Operand) : evo P T σ fr (.pick c a b) = pickE (opv fr c) (opv fr a) (opv fr b) := (rfl)
@[simp] theorem pickV_bool (c x y : Bool) : pickV c (.lit (.bool x)) (.lit (.bool y)) = .lit (.bool (bif c then x else y)) := (rfl)
theorem pickV_true (a b : PV) : pickV true a b = a := by unfold pickV; split <;> rfl
theorem pickV_false (a b : PV) : pickV false a b = b := by unfold pickV; split <;> rfl
@[simp high] theorem pickE_true (a b : PV) : pickE (.lit (.bool true)) a b = ⟨avt a, sv a⟩ := by simp [pickE, pickV_true]
@[simp high] theorem pickE_false (a b : PV) : pickE (.lit (.bool false)) a b = ⟨avt b, sv b⟩ := by simp [pickE, pickV_false]
@[simp] theorem pickE_bool (t : Bool) (a b : PV) : pickE (.lit (.bool t)) a b = ⟨(t = true → avt a) ∧ (t = false → avt b), pickV t (sv a) (sv b)⟩ := by simp [pickE]
@[simp high] theorem pickE_gd (g : Bool) (t : Bool) (a b : PV) : pickE (.gd g (.lit (.bool t))) a b = gEV (g = true) (pickE (.lit (.bool t)) a b) := by simp [pickE, gEV]

@[simp ↓] theorem evo_call (g : FuncId) (as : List Operand) (ts : Array TypeId) : evo P T σ fr (.call { callee := .value (.func g), args := as.toArray, argTypes := ts }) = gEV (avL fr as) (T.ev g (svL fr as) σ) := by
  rw [avL_iff, svL_map]
  show callT T σ fr { callee := .value (.func g), args := as.toArray, argTypes := ts } = _
  unfold callT gEV argsP opv
  simp [sv, avt]
def cloE (T : Tab) (σ : Heap) (f : PV) (args : List PV) : EV :=
  match f with
  | .fn (.func g) first cap => T.ev g (first ++ args ++ cap) σ
  | _ => .no
@[simp ↓] theorem evo_callv (t : Tmp) (as : List Operand) (ts : Array TypeId) : evo P T σ fr (.call { callee := .value (.tmp t), args := as.toArray, argTypes := ts }) = gEV (avt (fr t) ∧ avL fr as) (cloE T σ (sv (fr t)) (svL fr as)) := by
  rw [avL_iff, svL_map]
  show callT T σ fr { callee := .value (.tmp t), args := as.toArray, argTypes := ts } = _
  unfold callT gEV argsP opv cloE
  simp only [Operand.tmp.injEq]
  cases h : sv (fr t) <;> simp [EV.no]
  rename_i f a b
  cases f <;> simp [EV.no, and_assoc]
@[simp] theorem cloE_fn (g : FuncId) (first cap args : List PV) : cloE T σ (.fn (.func g) first cap) args = T.ev g (first ++ args ++ cap) σ := (rfl)
@[simp ↓] theorem evo_len (x : Operand) (t : TypeId) (ts : List TypeId) : evo P T σ fr (.call { callee := .builtin .len, args := #[x], argTypes := (t :: ts).toArray }) = gEV (avt (opv fr x)) (evLen P σ t (sv (opv fr x))) := by
  show gate fr [x] _ = _; simp [gate, gEV]
@[simp ↓] theorem evo_max (x y : Operand) (ts : Array TypeId) : evo P T σ fr (.call { callee := .builtin .max, args := #[x, y], argTypes := ts }) = gEV (avt (opv fr x) ∧ avt (opv fr y)) (evMM true (sv (opv fr x)) (sv (opv fr y))) := by
  show gate fr [x, y] _ = _; simp [gate, gEV]
@[simp ↓] theorem evo_min (x y : Operand) (ts : Array TypeId) : evo P T σ fr (.call { callee := .builtin .min, args := #[x, y], argTypes := ts }) = gEV (avt (opv fr x) ∧ avt (opv fr y)) (evMM false (sv (opv fr x)) (sv (opv fr y))) := by
  show gate fr [x, y] _ = _; simp [gate, gEV]

/-! ### Values -/
/-! Bits: simp does not look into them. -/
def andI (k : IntKind) (x y : Int) : Int := k.wrap (BitVec.ofInt k.bits x &&& BitVec.ofInt k.bits y).toNat
def orI (k : IntKind) (x y : Int) : Int := k.wrap (BitVec.ofInt k.bits x ||| BitVec.ofInt k.bits y).toNat
def xorI (k : IntKind) (x y : Int) : Int := k.wrap (BitVec.ofInt k.bits x ^^^ BitVec.ofInt k.bits y).toNat
def andNotI (k : IntKind) (x y : Int) : Int := k.wrap (BitVec.ofInt k.bits x &&& ~~~ BitVec.ofInt k.bits y).toNat
def shlI (k : IntKind) (x y : Int) : Int := k.wrap (x * 2 ^ (min y.toNat k.bits))
def shrI (k : IntKind) (x y : Int) : Int := x.fdiv (2 ^ (min y.toNat k.bits))
@[simp] theorem evBin_int (op : BinOp) (t : TypeId) (k : IntKind) (x y : Int) : evBin P op t (.lit (.int k x)) (.lit (.int k y)) = evInt op k x y := by
  simp [evBin]
@[simp low] theorem evBin_int2 (op : BinOp) (t : TypeId) (k k' : IntKind) (x y : Int) : evBin P op t (.lit (.int k x)) (.lit (.int k' y)) = gEV (shifts op = false → k = k') (evInt op k x y) := (rfl)
@[simp] theorem evBin_beq (t : TypeId) (x y : Bool) : evBin P .eql t (.lit (.bool x)) (.lit (.bool y)) = ⟨P.underlying t = some .bool, .lit (.bool (x == y))⟩ := (rfl)
@[simp] theorem evBin_bne (t : TypeId) (x y : Bool) : evBin P .neq t (.lit (.bool x)) (.lit (.bool y)) = ⟨P.underlying t = some .bool, .lit (.bool (!(x == y)))⟩ := (rfl)
@[simp] theorem evBin_seq (t : TypeId) (x y : ByteArray) : evBin P .eql t (.lit (.string x)) (.lit (.string y)) = ⟨True, .lit (.bool (x.toList == y.toList))⟩ := (rfl)
@[simp] theorem evBin_sne (t : TypeId) (x y : ByteArray) : evBin P .neq t (.lit (.string x)) (.lit (.string y)) = ⟨True, .lit (.bool (!(x.toList == y.toList)))⟩ := (rfl)
@[simp] theorem evBin_slt (t : TypeId) (x y : ByteArray) : evBin P .lss t (.lit (.string x)) (.lit (.string y)) = ⟨True, .lit (.bool (Op.bytesLess x.toList y.toList))⟩ := (rfl)
theorem evBin_aeq (t : TypeId) (x y : List PV) : evBin P .eql t (.agg x) (.agg y) = evEq P t x y := (rfl)
theorem evBin_ane (t : TypeId) (x y : List PV) : evBin P .neq t (.agg x) (.agg y) = ⟨(evEq P t x y).D, notV (evEq P t x y).V⟩ := (rfl)
@[simp] theorem notV_bool (b : Bool) : notV (.lit (.bool b)) = .lit (.bool (!b)) := (rfl)
@[simp] theorem evInt_add (k : IntKind) (x y : Int) : evInt .add k x y = ⟨True, .lit (.int k (k.wrap (x + y)))⟩ := (rfl)
@[simp] theorem evInt_sub (k : IntKind) (x y : Int) : evInt .sub k x y = ⟨True, .lit (.int k (k.wrap (x - y)))⟩ := (rfl)
@[simp] theorem evInt_mul (k : IntKind) (x y : Int) : evInt .mul k x y = ⟨True, .lit (.int k (k.wrap (x * y)))⟩ := (rfl)
@[simp] theorem evInt_quo (k : IntKind) (x y : Int) : evInt .quo k x y = ⟨y ≠ 0, .lit (.int k (k.wrap (x.tdiv y)))⟩ := (rfl)
@[simp] theorem evInt_rem (k : IntKind) (x y : Int) : evInt .rem k x y = ⟨y ≠ 0, .lit (.int k (x.tmod y))⟩ := (rfl)
@[simp] theorem evInt_and (k : IntKind) (x y : Int) : evInt .and k x y = ⟨True, .lit (.int k (andI k x y))⟩ := (rfl)
@[simp] theorem evInt_or (k : IntKind) (x y : Int) : evInt .or k x y = ⟨True, .lit (.int k (orI k x y))⟩ := (rfl)
@[simp] theorem evInt_xor (k : IntKind) (x y : Int) : evInt .xor k x y = ⟨True, .lit (.int k (xorI k x y))⟩ := (rfl)
@[simp] theorem evInt_andNot (k : IntKind) (x y : Int) : evInt .andNot k x y = ⟨True, .lit (.int k (andNotI k x y))⟩ := (rfl)
@[simp] theorem evInt_shl (k : IntKind) (x y : Int) : evInt .shl k x y = ⟨0 ≤ y, .lit (.int k (shlI k x y))⟩ := (rfl)
@[simp] theorem evInt_shr (k : IntKind) (x y : Int) : evInt .shr k x y = ⟨0 ≤ y, .lit (.int k (shrI k x y))⟩ := (rfl)
@[simp] theorem evInt_eql (k : IntKind) (x y : Int) : evInt .eql k x y = ⟨True, .lit (.bool (x == y))⟩ := (rfl)
@[simp] theorem evInt_neq (k : IntKind) (x y : Int) : evInt .neq k x y = ⟨True, .lit (.bool (x != y))⟩ := (rfl)
@[simp] theorem evInt_lss (k : IntKind) (x y : Int) : evInt .lss k x y = ⟨True, .lit (.bool (decide (x < y)))⟩ := (rfl)
@[simp] theorem evInt_leq (k : IntKind) (x y : Int) : evInt .leq k x y = ⟨True, .lit (.bool (decide (x ≤ y)))⟩ := (rfl)
@[simp] theorem evInt_gtr (k : IntKind) (x y : Int) : evInt .gtr k x y = ⟨True, .lit (.bool (decide (y < x)))⟩ := (rfl)
@[simp] theorem evInt_geq (k : IntKind) (x y : Int) : evInt .geq k x y = ⟨True, .lit (.bool (decide (y ≤ x)))⟩ := (rfl)
@[simp] theorem shifts_shl : shifts .shl = true := rfl
@[simp] theorem shifts_shr : shifts .shr = true := rfl
@[simp] theorem evUn_not (b : Bool) : evUn .not (.lit (.bool b)) = ⟨True, .lit (.bool (!b))⟩ := (rfl)
@[simp] theorem evUn_neg (k : IntKind) (x : Int) : evUn .neg (.lit (.int k x)) = ⟨True, .lit (.int k (k.wrap (0 - x)))⟩ := (rfl)
/-- A type that is an integer type, for conversions. -/
def intT (P : Program) (t : TypeId) : Option IntKind := match P.underlying t with | some (.int k) => some k | _ => none
def convE (o : Option IntKind) (e : EV) (n : Int) : EV := match o with | some k => ⟨True, .lit (.int k (k.wrap n))⟩ | none => e
@[simp] theorem convE_some (k : IntKind) (e : EV) (n : Int) : convE (some k) e n = ⟨True, .lit (.int k (k.wrap n))⟩ := (rfl)
theorem evConv_int (s d : TypeId) (k0 k : IntKind) (n : Int) (hs : (P.underlying s).isSome = true) (hd : P.underlying d = some (.int k)) : evConv P s d (.lit (.int k0 n)) = ⟨True, .lit (.int k (k.wrap n))⟩ := by
  obtain ⟨u, hu⟩ := Option.isSome_iff_exists.1 hs
  simp [evConv, hu, hd]
@[simp] theorem evNil_ptr (id off : Nat) : evNil (.ptr id off) = ⟨True, .ptr id off⟩ := (rfl)
@[simp] theorem evNil_ref (cs : List PV) : evNil (.ref cs) = ⟨True, .ref cs⟩ := (rfl)
@[simp] theorem evNil_fn (f : FuncId) (a b : List PV) : evNil (.fn (.func f) a b) = ⟨True, .fn (.func f) a b⟩ := (rfl)
@[simp] theorem evExtract_tup (cs : List PV) (i : Nat) : evExtract (.tup cs) i = ⟨i < cs.length, cs.getD i .any⟩ := (rfl)
@[simp] theorem evMM_int (mx : Bool) (k k' : IntKind) (x y : Int) : evMM mx (.lit (.int k x)) (.lit (.int k' y)) = ⟨True, .lit (.int k (if mx then max x y else min x y))⟩ := (rfl)

/-! Operations that ask for a type: by what the type is. -/
def FAx (o : Option (Nat × Nat × Bool)) (x : PV) : EV :=
  match o, x with
  | some (o, sz, _), .ref cs => ⟨sz ≠ 0, .ref (cs.drop o)⟩
  | some (o, sz, _), .ptr id off => ⟨sz ≠ 0, .ptr id (off + o)⟩
  | _, _ => .no
@[simp] theorem evFA_x (t : TypeId) (x : PV) (f : Nat) : evFA P t x f = FAx (fldT P t f) x := (rfl)
@[simp] theorem FAx_ref (o sz : Nat) (ag : Bool) (cs : List PV) : FAx (some (o, sz, ag)) (.ref cs) = ⟨sz ≠ 0, .ref (cs.drop o)⟩ := (rfl)
@[simp] theorem FAx_ptr (o sz : Nat) (ag : Bool) (id off : Nat) : FAx (some (o, sz, ag)) (.ptr id off) = ⟨sz ≠ 0, .ptr id (off + o)⟩ := (rfl)
def Fx (o : Option (Nat × Nat × Bool)) (x : PV) : EV :=
  match o, x with
  | some (o, sz, true), .agg cs => ⟨o + sz ≤ cs.length, .agg ((cs.drop o).take sz)⟩
  | some (o, _, false), .agg cs => ⟨o < cs.length, cs.getD o .any⟩
  | _, _ => .no
@[simp] theorem evF_x (t : TypeId) (x : PV) (f : Nat) : evF P t x f = Fx (fldT P t f) x := (rfl)
@[simp] theorem Fx_agg (o sz : Nat) (cs : List PV) : Fx (some (o, sz, true)) (.agg cs) = ⟨o + sz ≤ cs.length, .agg ((cs.drop o).take sz)⟩ := (rfl)
@[simp] theorem Fx_one (o sz : Nat) (cs : List PV) : Fx (some (o, sz, false)) (.agg cs) = ⟨o < cs.length, cs.getD o .any⟩ := (rfl)
def IAx (o : Option (Option Nat × Nat × Bool)) (x i : PV) : EV :=
  match o, x, i with
  | some (none, sz, _), .slice _ rows, .lit (.int _ z) => ⟨0 ≤ z ∧ z < rows.length ∧ (rows.getD z.toNat []).length = sz, .ref (rows.getD z.toNat [])⟩
  | some (none, sz, _), .msl id k off len _, .lit (.int _ z) => ⟨0 ≤ z ∧ z < len ∧ k = sz, .ptr id (off + z.toNat * sz)⟩
  | some (some m, sz, _), .ptr id off, .lit (.int _ z) => ⟨0 ≤ z ∧ z < m, .ptr id (off + z.toNat * sz)⟩
  | some (some m, sz, _), .ref cs, .lit (.int _ z) => ⟨0 ≤ z ∧ z < m, .ref (cs.drop (z.toNat * sz))⟩
  | _, _, _ => .no
@[simp] theorem evIA_x (t : TypeId) (x i : PV) : evIA P t x i = IAx (ixi P t) x i := (rfl)
@[simp] theorem IAx_slice (sz : Nat) (ag full : Bool) (rows : List (List PV)) (k : IntKind) (z : Int) : IAx (some (none, sz, ag)) (.slice full rows) (.lit (.int k z)) = ⟨0 ≤ z ∧ z < rows.length ∧ (rows.getD z.toNat []).length = sz, .ref (rows.getD z.toNat [])⟩ := (rfl)
@[simp] theorem IAx_msl (sz : Nat) (ag full : Bool) (id kk off len : Nat) (k : IntKind) (z : Int) : IAx (some (none, sz, ag)) (.msl id kk off len full) (.lit (.int k z)) = ⟨0 ≤ z ∧ z < len ∧ kk = sz, .ptr id (off + z.toNat * sz)⟩ := (rfl)
@[simp] theorem IAx_ptr (m sz : Nat) (ag : Bool) (id off : Nat) (k : IntKind) (z : Int) : IAx (some (some m, sz, ag)) (.ptr id off) (.lit (.int k z)) = ⟨0 ≤ z ∧ z < m, .ptr id (off + z.toNat * sz)⟩ := (rfl)
@[simp] theorem IAx_ref (m sz : Nat) (ag : Bool) (cs : List PV) (k : IntKind) (z : Int) : IAx (some (some m, sz, ag)) (.ref cs) (.lit (.int k z)) = ⟨0 ≤ z ∧ z < m, .ref (cs.drop (z.toNat * sz))⟩ := (rfl)
@[simp] theorem evI_string (t : TypeId) (s : ByteArray) (k : IntKind) (z : Int) : evI P t (.lit (.string s)) (.lit (.int k z)) = ⟨P.underlying t = some .string ∧ 0 ≤ z ∧ z < s.size, .lit (.int .u8 (s.data.getD z.toNat 0).toNat)⟩ := by
  unfold evI; split <;> first | rfl | simp_all
def Lx (o : Option (Nat × Bool)) (σ : Heap) (x : PV) : EV :=
  match o, x with
  | some (sz, true), .ref cs => ⟨sz ≤ cs.length, .agg (cs.take sz)⟩
  | some (_, false), .ref cs => ⟨0 < cs.length, cs.getD 0 .any⟩
  | some (sz, true), .ptr id off => match σ id with
    | some (.cells cs) => ⟨off + sz ≤ cs.length, .agg ((cs.drop off).take sz)⟩
    | _ => .no
  | some (_, false), .ptr id off => match σ id with
    | some (.cells cs) => ⟨off < cs.length, cs.getD off .any⟩
    | _ => .no
  | _, _ => .no
@[simp] theorem evL_x (t : TypeId) (x : PV) : evL P σ t x = Lx (inf P t) σ x := by unfold evL Lx; rfl
@[simp] theorem Lx_refA (sz : Nat) (cs : List PV) : Lx (some (sz, true)) σ (.ref cs) = ⟨sz ≤ cs.length, .agg (cs.take sz)⟩ := (rfl)
@[simp] theorem Lx_ref1 (sz : Nat) (cs : List PV) : Lx (some (sz, false)) σ (.ref cs) = ⟨0 < cs.length, cs.getD 0 .any⟩ := (rfl)
def LpA (o : Option PObj) (sz off : Nat) : EV := match o with | some (.cells cs) => ⟨off + sz ≤ cs.length, .agg ((cs.drop off).take sz)⟩ | _ => .no
def Lp1 (o : Option PObj) (off : Nat) : EV := match o with | some (.cells cs) => ⟨off < cs.length, cs.getD off .any⟩ | _ => .no
@[simp] theorem LpA_some (cs : List PV) (sz off : Nat) : LpA (some (.cells cs)) sz off = ⟨off + sz ≤ cs.length, .agg ((cs.drop off).take sz)⟩ := (rfl)
@[simp] theorem Lp1_some (cs : List PV) (off : Nat) : Lp1 (some (.cells cs)) off = ⟨off < cs.length, cs.getD off .any⟩ := (rfl)
@[simp] theorem Lx_ptrA (sz id off : Nat) : Lx (some (sz, true)) σ (.ptr id off) = LpA (σ id) sz off := (rfl)
@[simp] theorem Lx_ptr1 (sz id off : Nat) : Lx (some (sz, false)) σ (.ptr id off) = Lp1 (σ id) off := (rfl)
/-- What kind of thing has a length. -/
inductive LK where
  | slice | string | array (n : Nat) | map | other
def lenK (P : Program) (t : TypeId) : LK := match P.underlying t with
  | some (.slice _) => .slice
  | some .string => .string
  | some (.array m _) => .array m
  | some (.map _ _) => .map
  | _ => .other
def Lenx (k : LK) (σ : Heap) (x : PV) : EV :=
  match k, x with
  | .slice, .lit (.slice none 0 0) => ⟨True, .lit (.int .i64 0)⟩
  | .slice, .slice _ rows => ⟨True, .lit (.int .i64 rows.length)⟩
  | .slice, .msl _ _ _ len _ => ⟨True, .lit (.int .i64 len)⟩
  | .string, .lit (.string s) => ⟨True, .lit (.int .i64 s.size)⟩
  | .array m, _ => ⟨True, .lit (.int .i64 m)⟩
  | .map, .map id => match σ id with
    | some (.map es) => ⟨True, .lit (.int .i64 es.length)⟩
    | _ => .no
  | .map, .lit (.map none) => ⟨True, .lit (.int .i64 0)⟩
  | _, _ => .no
@[simp] theorem evLen_x (t : TypeId) (x : PV) : evLen P σ t x = Lenx (lenK P t) σ x := by
  unfold evLen lenK
  cases h : P.underlying t with
  | none => rfl
  | some u =>
    cases x with
    | lit v => cases v with
      | slice b l c => cases b <;> cases l <;> cases c <;> cases u <;> rfl
      | map r => cases r <;> cases u <;> rfl
      | _ => cases u <;> rfl
    | _ => cases u <;> rfl
@[simp] theorem Lenx_slice (f : Bool) (rows : List (List PV)) : Lenx .slice σ (.slice f rows) = ⟨True, .lit (.int .i64 rows.length)⟩ := (rfl)
@[simp] theorem Lenx_nil : Lenx .slice σ (.lit (.slice none 0 0)) = ⟨True, .lit (.int .i64 0)⟩ := (rfl)
@[simp] theorem Lenx_msl (id k off len : Nat) (f : Bool) : Lenx .slice σ (.msl id k off len f) = ⟨True, .lit (.int .i64 len)⟩ := (rfl)
@[simp] theorem Lenx_string (s : ByteArray) : Lenx .string σ (.lit (.string s)) = ⟨True, .lit (.int .i64 s.size)⟩ := (rfl)
@[simp] theorem Lenx_array (m : Nat) (x : PV) : Lenx (.array m) σ x = ⟨True, .lit (.int .i64 m)⟩ := (rfl)
end
end Go.Lo

/-
  The program logic 'Lo', part T: how simp runs code, continued: memory, regions, control flow, results. Nothing of the program.
-/
set_option linter.unusedSimpArgs false
set_option linter.unusedVariables false
namespace Go.Lo
open Go

/-- Code, run as far as the table, 'ev' and plain control flow go: what is left stands as 'pwp' and 'pops'. -/
def wpc (P : Program) (T : Tab) (rd : Bool) (n : Nat) : Code → (PX → Fr → Heap → Prop) → Fr → Heap → Prop
  | .seq a b, Q, fr, σ => wpc P T rd n a (PX.thn (fun fr σ => wpc P T rd n b Q fr σ) Q) fr σ
  | .region _ ops false, Q, fr, σ => pst P T rd n ops Q ops.toList fr σ
  | .cond c x y, Q, fr, σ => match opv fr c with
    | .lit (.bool b) => (b = true → wpc P T rd n x Q fr σ) ∧ (b = false → wpc P T rd n y Q fr σ)
    | _ => False
  | .block id c, Q, fr, σ => wpc P T rd n c (PX.blk id Q) fr σ
  | .ret, Q, fr, σ => Q .ret fr σ
  | .skip, Q, fr, σ => Q .normal fr σ
  | .exit id, Q, fr, σ => Q (.exit id) fr σ
  | .goto l, Q, fr, σ => Q (.goto l) fr σ
  | c, Q, fr, σ => pwp P rd n c Q fr σ

theorem pwp_run {P : Program} {T : Tab} (hT : T.ok P) {rd : Bool} {n : Nat} : ∀ {c : Code} {Q : PX → Fr → Heap → Prop} {fr : Fr} {σ : Heap}, wpc P T rd n c Q fr σ → pwp P rd n c Q fr σ := by
  intro c
  induction c with
  | seq a b iha ihb =>
    intro Q fr σ h
    refine pwp_seq (pwp_mono (iha h) fun pe fr σ k => ?_)
    cases pe <;> first | exact ihb k | exact k
  | region id ops d =>
    intro Q fr σ h
    cases d with
    | true => exact h
    | false => exact pwp_region (pops_pst hT h)
  | cond c x y ihx ihy =>
    intro Q fr σ h
    simp only [wpc] at h
    split at h
    · rename_i b hc
      exact pwp_cond hc (fun e => ihx (h.1 e)) (fun e => ihy (h.2 e))
    · exact h.elim
  | block id c ih => intro Q fr σ h; exact pwp_block (ih h)
  | ret => intro Q fr σ h; exact pwp_ret h
  | skip => intro Q fr σ h; exact pwp_skip h
  | exit id => intro Q fr σ h; exact pwp_exit h
  | goto l => intro Q fr σ h; exact pwp_goto h
  | loop c _ => intro Q fr σ h; exact h
  | rangeFunc f ps a b _ _ => intro Q fr σ h; exact h
  | scope c _ => intro Q fr σ h; exact h
  | label l => intro Q fr σ h; exact h
  | refuse w => intro Q fr σ h; exact h


section
variable {P : Program} {T : Tab} {rd : Bool} {n : Nat} {ops : Array Oper} {Q : PX → Fr → Heap → Prop} {l : List Oper} {fr : Fr} {σ : Heap}

/-! ### Structs, arrays and slices out of parts -/
def fillK (x : Option (Nat × Nat)) (place : Nat → Option (Nat × Nat)) (cells : List PV) (v : PV) (rest : List (Nat × PV)) : Option (List PV) :=
  match x with
  | none => none
  | some (off, size) => if isCell v && (cellsP v).length == size && decide (off + size ≤ cells.length) then fillP place (setR cells off (cellsP v)) rest else none
@[simp] theorem fillP_nil (place : Nat → Option (Nat × Nat)) (cells : List PV) : fillP place cells [] = some cells := (rfl)
@[simp] theorem fillP_cons (place : Nat → Option (Nat × Nat)) (cells : List PV) (i : Nat) (v : PV) (rest : List (Nat × PV)) : fillP place cells ((i, v) :: rest) = fillK (place i) place cells v rest := by
  simp only [fillP, fillK]; rfl
@[simp] theorem fillK_some (off size : Nat) (place : Nat → Option (Nat × Nat)) (cells : List PV) (v : PV) (rest : List (Nat × PV)) : fillK (some (off, size)) place cells v rest =
    if isCell v && (cellsP v).length == size && decide (off + size ≤ cells.length) then fillP place (setR cells off (cellsP v)) rest else none := (rfl)
def aggE (o : Option (List PV)) : EV := match o with | some r => ⟨True, .agg r⟩ | none => .no
@[simp] theorem aggE_some (r : List PV) : aggE (some r) = ⟨True, .agg r⟩ := (rfl)
def Bx (z : Option (List PV)) (pl : Option (List (Nat × Nat))) (ix : Option (Option Nat × Nat × Bool)) (ps : List (Nat × PV)) : EV :=
  match z, pl, ix with
  | some zs, some pl, _ => aggE (fillP (pl[·]?) zs ps)
  | some zs, none, some (some _, sz, _) => aggE (fillP (fun i => some (i * sz, sz)) zs ps)
  | _, _, _ => .no
@[simp] theorem evBuild_x (t : TypeId) (ps : List (Nat × PV)) : evBuild P t ps = Bx (zeroP P t) (places P t) (ixi P t) ps := by
  unfold evBuild Bx aggE
  cases zeroP P t with
  | none => rfl
  | some zs => cases places P t with
    | some pl => rfl
    | none => cases ixi P t with
      | none => rfl
      | some x => obtain ⟨a, b, c⟩ := x; cases a <;> rfl
@[simp] theorem Bx_struct (zs : List PV) (pl : List (Nat × Nat)) (ix : Option (Option Nat × Nat × Bool)) (ps : List (Nat × PV)) : Bx (some zs) (some pl) ix ps = aggE (fillP (pl[·]?) zs ps) := (rfl)
@[simp] theorem Bx_array (zs : List PV) (m sz : Nat) (ag : Bool) (ps : List (Nat × PV)) : Bx (some zs) none (some (some m, sz, ag)) ps = aggE (fillP (fun i => some (i * sz, sz)) zs ps) := (rfl)

def rowsB (sz : Nat) : List (Nat × PV) → Prop
  | [] => True
  | p :: l => (isCell p.2 = true ∧ (cellsP p.2).length = sz) ∧ rowsB sz l
def rowsC : List (Nat × PV) → List (List PV)
  | [] => []
  | p :: l => cellsP p.2 :: rowsC l
@[simp] theorem rowsB_nil (sz : Nat) : rowsB sz [] = True := (rfl)
@[simp] theorem rowsB_cons (sz : Nat) (p : Nat × PV) (l : List (Nat × PV)) : rowsB sz (p :: l) = ((isCell p.2 = true ∧ (cellsP p.2).length = sz) ∧ rowsB sz l) := (rfl)
@[simp] theorem rowsC_nil : rowsC [] = [] := (rfl)
@[simp] theorem rowsC_cons (p : Nat × PV) (l : List (Nat × PV)) : rowsC (p :: l) = cellsP p.2 :: rowsC l := (rfl)
@[simp] theorem inOrder_nil (i : Nat) : inOrder i [] = true := (rfl)
@[simp] theorem inOrder_cons (i j : Nat) (v : PV) (r : List (Nat × PV)) : inOrder i ((j, v) :: r) = (i == j && inOrder (i + 1) r) := (rfl)
theorem rowsB_iff (sz : Nat) : ∀ l, rowsB sz l = (∀ p ∈ l, isCell p.2 = true ∧ (cellsP p.2).length = sz) := by
  intro l
  induction l with
  | nil => simp
  | cons p l ih => simp only [rowsB_cons, ih, List.forall_mem_cons]
theorem rowsC_map : ∀ l, rowsC l = l.map fun p => cellsP p.2 := by
  intro l
  induction l with
  | nil => rfl
  | cons p l ih => simp [ih]
/-- A slice's elements can be made. -/
def elemOk (P : Program) (t : TypeId) : Bool := match P.underlying t with | some (.slice e) => (zeroP P e).isSome | _ => false
def BSx (ix : Option (Option Nat × Nat × Bool)) (ok : Bool) (len : Nat) (ps : List (Nat × PV)) : EV :=
  match ix with
  | some (none, sz, _) => ⟨inOrder 0 ps = true ∧ ps.length = len ∧ rowsB sz ps ∧ len * sz ≤ 16777216 ∧ len ≤ 16777216 ∧ (len * sz = 0 ∨ ok = true), .slice true (rowsC ps)⟩
  | _ => .no
@[simp] theorem evBS_x (t : TypeId) (len : Nat) (ps : List (Nat × PV)) : evBS P t len ps = BSx (ixi P t) (elemOk P t) len ps := by
  unfold evBS BSx elemOk
  rw [rowsC_map]
  cases ixi P t with
  | none => rfl
  | some x =>
    obtain ⟨a, b, c⟩ := x
    cases a with
    | some _ => rfl
    | none =>
      simp only [rowsB_iff]
      congr 1
      cases P.underlying t with
      | none => simp
      | some u => cases u <;> simp
@[simp] theorem BSx_slice (sz : Nat) (ag ok : Bool) (len : Nat) (ps : List (Nat × PV)) : BSx (some (none, sz, ag)) ok len ps =
    ⟨inOrder 0 ps = true ∧ ps.length = len ∧ rowsB sz ps ∧ len * sz ≤ 16777216 ∧ len ≤ 16777216 ∧ (len * sz = 0 ∨ ok = true), .slice true (rowsC ps)⟩ := (rfl)

/-! ### Slicing -/
@[simp] theorem bnd_n (d : Int) : bnd none d = some d := (rfl)
@[simp] theorem bnd_s (k : IntKind) (z d : Int) : bnd (some (.lit (.int k z))) d = some z := (rfl)
def SlR (sz : Nat) (full : Bool) (rows : List (List PV)) (mx hi : Bool) (l h m : Option Int) : EV :=
  match l, h, m with
  | some l, some h, some m => ⟨0 ≤ l ∧ l ≤ h ∧ h ≤ m ∧ m ≤ rows.length ∧ (mx = true → hi = true) ∧ ∀ r ∈ rows, r.length = sz,
        .slice (if mx then decide (m = h) else full && decide (h = rows.length)) ((rows.drop l.toNat).take (h - l).toNat)⟩
  | _, _, _ => .no
@[simp] theorem SlR_some (sz : Nat) (full : Bool) (rows : List (List PV)) (mx hi : Bool) (l h m : Int) : SlR sz full rows mx hi (some l) (some h) (some m) =
  ⟨0 ≤ l ∧ l ≤ h ∧ h ≤ m ∧ m ≤ rows.length ∧ (mx = true → hi = true) ∧ ∀ r ∈ rows, r.length = sz,
        .slice (if mx then decide (m = h) else full && decide (h = rows.length)) ((rows.drop l.toNat).take (h - l).toNat)⟩ := (rfl)
def SlM (sz id k off len : Nat) (full : Bool) (mx hi : Bool) (l h m : Option Int) : EV :=
  match l, h, m with
  | some l, some h, some m => ⟨0 ≤ l ∧ l ≤ h ∧ h ≤ m ∧ m ≤ len ∧ k = sz ∧ (mx = true → hi = true),
        .msl id k (off + l.toNat * k) (h - l).toNat (if mx then decide (m = h) else full && decide (h = len))⟩
  | _, _, _ => .no
@[simp] theorem SlM_some (sz id k off len : Nat) (full : Bool) (mx hi : Bool) (l h m : Int) : SlM sz id k off len full mx hi (some l) (some h) (some m) =
  ⟨0 ≤ l ∧ l ≤ h ∧ h ≤ m ∧ m ≤ len ∧ k = sz ∧ (mx = true → hi = true),
        .msl id k (off + l.toNat * k) (h - l).toNat (if mx then decide (m = h) else full && decide (h = len))⟩ := (rfl)
def Slx (o : Option (Option Nat × Nat × Bool)) (σ : Heap) (x : PV) (lo hi mx : Option PV) : EV :=
  match x, o with
  | .slice full rows, some (none, sz, _) => match bnd lo 0, bnd hi rows.length, bnd mx rows.length with
    | some l, some h, some m => ⟨0 ≤ l ∧ l ≤ h ∧ h ≤ m ∧ m ≤ rows.length ∧ (mx.isSome = true → hi.isSome = true) ∧ ∀ r ∈ rows, r.length = sz,
        .slice (if mx.isSome then decide (m = h) else full && decide (h = rows.length)) ((rows.drop l.toNat).take (h - l).toNat)⟩
    | _, _, _ => .no
  | .lit (.slice none 0 0), some (none, _, _) => match bnd lo 0, bnd hi 0, bnd mx 0 with
    | some l, some h, some m => ⟨l = 0 ∧ h = 0 ∧ m = 0 ∧ (mx.isSome = true → hi.isSome = true), .lit (.slice none 0 0)⟩
    | _, _, _ => .no
  | .msl id k off len full, some (none, sz, _) => match bnd lo 0, bnd hi len, bnd mx len with
    | some l, some h, some m => ⟨0 ≤ l ∧ l ≤ h ∧ h ≤ m ∧ m ≤ len ∧ k = sz ∧ (mx.isSome = true → hi.isSome = true),
        .msl id k (off + l.toNat * k) (h - l).toNat (if mx.isSome then decide (m = h) else full && decide (h = len))⟩
    | _, _, _ => .no
  | .ptr id off, some (some n, sz, _) => match σ id with
    | some (.cells cs) => match bnd lo 0, bnd hi n, bnd mx n with
      | some l, some h, some m => ⟨0 ≤ l ∧ l ≤ h ∧ h ≤ m ∧ m ≤ n ∧ off + n * sz ≤ cs.length ∧ n ≤ maxLen ∧ (mx.isSome = true → hi.isSome = true), .msl id sz (off + l.toNat * sz) (h - l).toNat (decide (m = h))⟩
      | _, _, _ => .no
    | _ => .no
  | .ref cs, some (some n, sz, _) => match bnd lo 0, bnd hi n, bnd mx n with
    | some l, some h, some m => ⟨0 ≤ l ∧ l ≤ h ∧ h ≤ m ∧ m ≤ n ∧ n ≤ cs.length ∧ sz = 1 ∧ n ≤ maxLen ∧ (mx.isSome = true → hi.isSome = true), .slice (decide (m = h)) (((cs.drop l.toNat).take (h - l).toNat).map fun c => [c])⟩
    | _, _, _ => .no
  | _, _ => .no
@[simp] theorem evSl_x (t : TypeId) (x : PV) (lo hi mx : Option PV) : evSl P σ t x lo hi mx = Slx (ixi P t) σ x lo hi mx := by unfold evSl Slx; rfl
@[simp] theorem Slx_rows (sz : Nat) (ag : Bool) (full : Bool) (rows : List (List PV)) (lo hi mx : Option PV) :
    Slx (some (none, sz, ag)) σ (.slice full rows) lo hi mx = SlR sz full rows mx.isSome hi.isSome (bnd lo 0) (bnd hi rows.length) (bnd mx rows.length) := by
  simp only [Slx, SlR]
@[simp] theorem Slx_msl (sz : Nat) (ag : Bool) (id k off len : Nat) (full : Bool) (lo hi mx : Option PV) :
    Slx (some (none, sz, ag)) σ (.msl id k off len full) lo hi mx = SlM sz id k off len full mx.isSome hi.isSome (bnd lo 0) (bnd hi len) (bnd mx len) := by
  simp only [Slx, SlM]
def cellsO (o : Option PObj) : Option (List PV) := match o with | some (.cells cs) => some cs | _ => none
@[simp] theorem cellsO_some (cs : List PV) : cellsO (some (.cells cs)) = some cs := (rfl)
def SlP (c : Option (List PV)) (n sz id off : Nat) (mx hi : Bool) (l h m : Option Int) : EV :=
  match c, l, h, m with
  | some cs, some l, some h, some m => ⟨0 ≤ l ∧ l ≤ h ∧ h ≤ m ∧ m ≤ n ∧ off + n * sz ≤ cs.length ∧ n ≤ maxLen ∧ (mx = true → hi = true), .msl id sz (off + l.toNat * sz) (h - l).toNat (decide (m = h))⟩
  | _, _, _, _ => .no
@[simp] theorem SlP_some (cs : List PV) (n sz id off : Nat) (mx hi : Bool) (l h m : Int) : SlP (some cs) n sz id off mx hi (some l) (some h) (some m) =
    ⟨0 ≤ l ∧ l ≤ h ∧ h ≤ m ∧ m ≤ n ∧ off + n * sz ≤ cs.length ∧ n ≤ maxLen ∧ (mx = true → hi = true), .msl id sz (off + l.toNat * sz) (h - l).toNat (decide (m = h))⟩ := (rfl)
@[simp] theorem Slx_ptr (n sz : Nat) (ag : Bool) (id off : Nat) (lo hi mx : Option PV) :
    Slx (some (some n, sz, ag)) σ (.ptr id off) lo hi mx = SlP (cellsO (σ id)) n sz id off mx.isSome hi.isSome (bnd lo 0) (bnd hi n) (bnd mx n) := by
  simp only [Slx]
  cases h : σ id with
  | none => rfl
  | some o =>
    cases o with
    | cells cs => simp only [cellsO]; cases bnd lo 0 <;> cases bnd hi n <;> cases bnd mx n <;> rfl
    | _ => rfl
@[simp] theorem Slx_nil (sz : Nat) (ag : Bool) (lo hi mx : Option PV) : Slx (some (none, sz, ag)) σ (.lit (.slice none 0 0)) lo hi mx = match bnd lo 0, bnd hi 0, bnd mx 0 with
    | some l, some h, some m => ⟨l = 0 ∧ h = 0 ∧ m = 0 ∧ (mx.isSome = true → hi.isSome = true), .lit (.slice none 0 0)⟩
    | _, _, _ => .no := (rfl)

/-! ### Straight code -/
structure TgI (X Y : Prop) where
  x : Nat := 0
def IFK (b : Bool) (X Y : Prop) (_ : TgI X Y) : Prop := if b = true then X else Y
@[simp] theorem IFK_true (X Y : Prop) (t : TgI X Y) : IFK true X Y t = X := (rfl)
@[simp] theorem IFK_false (X Y : Prop) (t : TgI X Y) : IFK false X Y t = Y := (rfl)
structure TgS (ops : Array Oper) (Q : PX → Fr → Heap → Prop) (l : List Oper) (fr : Fr) (σ : Heap) where
  x : Nat := 0
def pT (P : Program) (T : Tab) (rd : Bool) (n : Nat) (ops : Array Oper) (Q : PX → Fr → Heap → Prop) (l : List Oper) (fr : Fr) (σ : Heap) (_ : TgS ops Q l fr σ) : Prop := pst P T rd n ops Q l fr σ
def dB (n : Nat) : Option Tmp → Bool
  | some d => decide (d < n)
  | none => true
@[simp] theorem dB_some (n : Nat) (d : Tmp) : dB n (some d) = decide (d < n) := (rfl)
@[simp] theorem dB_none (n : Nat) : dB n none = true := (rfl)
/-- The slot of an operation of this region. -/
def gsl : List Oper → Nat → Option Tmp
  | [], _ => none
  | o :: _, 0 => o.dst
  | _ :: l, j + 1 => gsl l j
theorem gsl_eq : ∀ (l : List Oper) (j : Nat), gsl l j = (l[j]?).bind (·.dst) := by
  intro l
  induction l with
  | nil => intro j; rfl
  | cons o l ih => intro j; cases j with
    | zero => rfl
    | succ j => simp [gsl, ih]
@[simp ↓] theorem gsl_zero (dst : Option Tmp) (op : Op) (ty : TypeId) (pos : String) (after : Array Edge) (g : Option (Nat × Bool)) (l : List Oper) : gsl ({ dst, op, type := ty, pos, after, guard := g } :: l) 0 = dst := (rfl)
@[simp ↓] theorem gsl_succ (o : Oper) (l : List Oper) (j : Nat) : gsl (o :: l) (j + 1) = gsl l j := (rfl)
def gvp (p : PV) (w : Bool) : Option Bool := match p with
  | .lit (.bool b) => some (b == w)
  | .gd true (.lit (.bool b)) => some (b == w)
  | .gd false _ => some false
  | _ => none
@[simp] theorem gvp_lit (b w : Bool) : gvp (.lit (.bool b)) w = some (b == w) := (rfl)
@[simp] theorem gvp_gd (g b w : Bool) : gvp (.gd g (.lit (.bool b))) w = some (g && (b == w)) := by cases g <;> rfl
@[simp] theorem gvp_gdF (p : PV) (w : Bool) : gvp (.gd false p) w = some false := (rfl)
theorem gval_gvp (dst : Option Tmp) (op : Op) (ty : TypeId) (pos : String) (after : Array Edge) (j : Nat) (w : Bool) :
    gval ops fr { dst, op, type := ty, pos, after, guard := some (j, w) } = match gsl ops.toList j with | some d => gvp (fr d) w | none => none := by
  rw [gsl_eq, Array.getElem?_toList]
  simp only [gval, gvp]
  rfl

/-- Operations that only compute. -/
def isQ : Op → Bool
  | .move _ | .assign _ | .pick _ _ _ | .build _ _ | .buildSlice _ _ _ | .load _ _ | .nilCheck _ | .binOp _ _ _ _ _ | .unOp _ _ _ | .convert _ _ _ | .makeInterface _ _ | .makeFunc _ _ _ | .slice _ _ _ _ _
  | .fieldAddr _ _ _ | .field _ _ _ | .indexAddr _ _ _ | .index _ _ _ | .extract _ _ => true
  | .call { callee := .builtin .len, .. } | .call { callee := .builtin .max, .. } | .call { callee := .builtin .min, .. } => true
  | _ => false
theorem quietC_isQ {op : Op} (h : isQ op = true) : quietC T fr op = true := by
  cases op with
  | call c =>
    obtain ⟨callee, args, ts⟩ := c
    cases callee with
    | builtin b => cases b <;> first | rfl | cases h
    | _ => cases h
  | _ => first | rfl | cases h
section
variable (dst : Option Tmp) (ty : TypeId) (pos : String) (after : Array Edge)
/-- What stops: to be taken on by hand. -/
structure TgX (ops : Array Oper) (Q : PX → Fr → Heap → Prop) (l : List Oper) where
  x : Nat := 0
def popsT (P : Program) (T : Tab) (rd : Bool) (n : Nat) (ops : Array Oper) (Q : PX → Fr → Heap → Prop) (l : List Oper) (_ : TgX ops Q l) (fr : Fr) (σ : Heap) : Prop := pst P T rd n ops Q l fr σ
theorem pT_quiet {op : Op} (h : quietC T fr op = true) (t : TgS ops Q ({ dst, op, type := ty, pos, after, guard := none } :: l) fr σ) : pT P T rd n ops Q ({ dst, op, type := ty, pos, after, guard := none } :: l) fr σ t =
    (dB n dst = true ∧ ER (evo P T σ fr op) (fun V => pT P T rd n ops Q l (frSet fr dst V) σ {}) {}) := by
  simp only [pT, pst, h, if_true, evc_evo, ER]
  rw [show dstOk n { dst, op, type := ty, pos, after, guard := none } = dB n dst by cases dst <;> rfl]
  exact propext ⟨fun ⟨a, b, c⟩ => ⟨b, a, c⟩, fun ⟨a, b, c⟩ => ⟨b, a, c⟩⟩
theorem pT_guard {op : Op} {j : Nat} {w : Bool} (h : quietC T fr op = true) (t : TgS ops Q ({ dst, op, type := ty, pos, after, guard := some (j, w) } :: l) fr σ) : pT P T rd n ops Q ({ dst, op, type := ty, pos, after, guard := some (j, w) } :: l) fr σ t =
    (dB n dst = true ∧ OS (gsl ops.toList j) (fun d => VK (gvp (fr d) w) (fun g => GB g (evo P T σ fr op) (fun V => pT P T rd n ops Q l (frSet fr dst V) σ {}) {}) {}) {}) := by
  simp only [pT, pst, h, if_true, evc_evo, OS, VK, GB]
  rw [show dstOk n { dst, op, type := ty, pos, after, guard := some (j, w) } = dB n dst by cases dst <;> rfl, gval_gvp]
  cases gsl ops.toList j with
  | none => simp
  | some d =>
    simp only
    cases gvp (fr d) w with
    | none => simp
    | some g => exact propext ⟨fun ⟨a, b, c⟩ => ⟨b, a, c⟩, fun ⟨a, b, c⟩ => ⟨b, a, c⟩⟩
@[simp ↓] theorem pT_nil (t : TgS ops Q [] fr σ) : pT P T rd n ops Q [] fr σ t = Q .normal fr σ := (rfl)
@[simp ↓ low] theorem pT_isQ {op : Op} (t : TgS ops Q ({ dst, op, type := ty, pos, after, guard := none } :: l) fr σ) : pT P T rd n ops Q ({ dst, op, type := ty, pos, after, guard := none } :: l) fr σ t =
    IFK (isQ op) (dB n dst = true ∧ ER (evo P T σ fr op) (fun V => pT P T rd n ops Q l (frSet fr dst V) σ {}) {}) (popsT P T rd n ops Q ({ dst, op, type := ty, pos, after, guard := none } :: l) {} fr σ) {} := by
  cases h : isQ op with
  | true => rw [IFK_true]; exact pT_quiet dst ty pos after (quietC_isQ h) t
  | false => rfl
@[simp ↓ low] theorem pT_isQg {op : Op} {j : Nat} {w : Bool} (t : TgS ops Q ({ dst, op, type := ty, pos, after, guard := some (j, w) } :: l) fr σ) : pT P T rd n ops Q ({ dst, op, type := ty, pos, after, guard := some (j, w) } :: l) fr σ t =
    IFK (isQ op) (dB n dst = true ∧ OS (gsl ops.toList j) (fun d => VK (gvp (fr d) w) (fun g => GB g (evo P T σ fr op) (fun V => pT P T rd n ops Q l (frSet fr dst V) σ {}) {}) {}) {}) (popsT P T rd n ops Q ({ dst, op, type := ty, pos, after, guard := some (j, w) } :: l) {} fr σ) {} := by
  cases h : isQ op with
  | true => rw [IFK_true]; exact pT_guard dst ty pos after (quietC_isQ h) t
  | false => rfl
@[simp ↓] theorem pT_call {g : FuncId} {as ts} (t : TgS ops Q ({ dst, op := .call { callee := .value (.func g), args := as, argTypes := ts }, type := ty, pos, after, guard := none } :: l) fr σ) :
    pT P T rd n ops Q ({ dst, op := .call { callee := .value (.func g), args := as, argTypes := ts }, type := ty, pos, after, guard := none } :: l) fr σ t =
    IFK (T.dom g) (dB n dst = true ∧ ER (evo P T σ fr (.call { callee := .value (.func g), args := as, argTypes := ts })) (fun V => pT P T rd n ops Q l (frSet fr dst V) σ {}) {})
      (popsT P T rd n ops Q ({ dst, op := .call { callee := .value (.func g), args := as, argTypes := ts }, type := ty, pos, after, guard := none } :: l) {} fr σ) {} := by
  cases h : T.dom g with
  | true => rw [IFK_true]; exact pT_quiet dst ty pos after (show quietC T fr (.call { callee := .value (.func g), args := as, argTypes := ts }) = true from h) t
  | false => rfl
@[simp ↓] theorem pT_callg {g : FuncId} {as ts} {j : Nat} {w : Bool} (t : TgS ops Q ({ dst, op := .call { callee := .value (.func g), args := as, argTypes := ts }, type := ty, pos, after, guard := some (j, w) } :: l) fr σ) :
    pT P T rd n ops Q ({ dst, op := .call { callee := .value (.func g), args := as, argTypes := ts }, type := ty, pos, after, guard := some (j, w) } :: l) fr σ t =
    IFK (T.dom g) (dB n dst = true ∧ OS (gsl ops.toList j) (fun d => VK (gvp (fr d) w) (fun g' => GB g' (evo P T σ fr (.call { callee := .value (.func g), args := as, argTypes := ts })) (fun V => pT P T rd n ops Q l (frSet fr dst V) σ {}) {}) {}) {})
      (popsT P T rd n ops Q ({ dst, op := .call { callee := .value (.func g), args := as, argTypes := ts }, type := ty, pos, after, guard := some (j, w) } :: l) {} fr σ) {} := by
  cases h : T.dom g with
  | true => rw [IFK_true]; exact pT_guard dst ty pos after (show quietC T fr (.call { callee := .value (.func g), args := as, argTypes := ts }) = true from h) t
  | false => rfl
/-- A call of a function value. -/
def VCK (T : Tab) (p : PV) (A B : Prop) (_ : TgI A B) : Prop := match p with
  | .fn (.func g) _ _ => if T.dom g = true then A else B
  | _ => B
@[simp] theorem VCK_fn (T : Tab) (g : FuncId) (a b : List PV) (A B : Prop) (t : TgI A B) : VCK T (.fn (.func g) a b) A B t = IFK (T.dom g) A B {} := (rfl)
@[simp] theorem VCK_yld (T : Tab) (L : Nat) (A B : Prop) (t : TgI A B) : VCK T (.yld L) A B t = B := (rfl)
@[simp ↓] theorem pT_callv {x : Tmp} {as ts} (t : TgS ops Q ({ dst, op := .call { callee := .value (.tmp x), args := as, argTypes := ts }, type := ty, pos, after, guard := none } :: l) fr σ) :
    pT P T rd n ops Q ({ dst, op := .call { callee := .value (.tmp x), args := as, argTypes := ts }, type := ty, pos, after, guard := none } :: l) fr σ t =
    VCK T (sv (fr x)) (dB n dst = true ∧ ER (evo P T σ fr (.call { callee := .value (.tmp x), args := as, argTypes := ts })) (fun V => pT P T rd n ops Q l (frSet fr dst V) σ {}) {})
      (popsT P T rd n ops Q ({ dst, op := .call { callee := .value (.tmp x), args := as, argTypes := ts }, type := ty, pos, after, guard := none } :: l) {} fr σ) {} := by
  have hq : quietC T fr (.call { callee := .value (.tmp x), args := as, argTypes := ts }) = match sv (fr x) with | .fn (.func g) _ _ => T.dom g | _ => false := rfl
  unfold VCK
  split
  · rename_i g a b e
    split
    · rename_i hd
      exact pT_quiet dst ty pos after (by rw [hq, e]; exact hd) t
    · rfl
  · rfl

@[simp ↓] theorem pT_callvg {x : Tmp} {as ts} {j : Nat} {w : Bool} (t : TgS ops Q ({ dst, op := .call { callee := .value (.tmp x), args := as, argTypes := ts }, type := ty, pos, after, guard := some (j, w) } :: l) fr σ) :
    pT P T rd n ops Q ({ dst, op := .call { callee := .value (.tmp x), args := as, argTypes := ts }, type := ty, pos, after, guard := some (j, w) } :: l) fr σ t =
    VCK T (sv (fr x)) (dB n dst = true ∧ OS (gsl ops.toList j) (fun d => VK (gvp (fr d) w) (fun g' => GB g' (evo P T σ fr (.call { callee := .value (.tmp x), args := as, argTypes := ts })) (fun V => pT P T rd n ops Q l (frSet fr dst V) σ {}) {}) {}) {})
      (popsT P T rd n ops Q ({ dst, op := .call { callee := .value (.tmp x), args := as, argTypes := ts }, type := ty, pos, after, guard := some (j, w) } :: l) {} fr σ) {} := by
  have hq : quietC T fr (.call { callee := .value (.tmp x), args := as, argTypes := ts }) = match sv (fr x) with | .fn (.func g) _ _ => T.dom g | _ => false := rfl
  unfold VCK
  split
  · rename_i g a b e
    split
    · rename_i hd
      exact pT_guard dst ty pos after (by rw [hq, e]; exact hd) t
    · rfl
  · rfl

/-! Memory. -/
structure TgN (σ : Heap) (k : Nat → Prop) where
  x : Nat := 0
/-- New memory. -/
def NEW (σ : Heap) (k : Nat → Prop) (_ : TgN σ k) : Prop := ∀ id, σ id = none → k id
@[simp ↓] theorem NEW_def (σ : Heap) (k : Nat → Prop) (t : TgN σ k) : NEW σ k t = ∀ id, frs σ id → k id := (rfl)
theorem pT_heap {op : Op} (h1 : quietC T fr op = false) (h2 : heapK op = true) (t : TgS ops Q ({ dst, op, type := ty, pos, after, guard := none } :: l) fr σ) : pT P T rd n ops Q ({ dst, op, type := ty, pos, after, guard := none } :: l) fr σ t =
    (dB n dst = true ∧ gstep P σ fr op fun V σ' => pst P T rd n ops Q l (frSet fr dst V) σ') := by
  simp only [pT, pst, h1, h2]
  rw [show dstOk n { dst, op, type := ty, pos, after, guard := none } = dB n dst by cases dst <;> rfl]
  simp
@[simp ↓] theorem pT_box (b : TypeId) (x : Operand) (t : TgS ops Q ({ dst, op := .box b x, type := ty, pos, after, guard := none } :: l) fr σ) : pT P T rd n ops Q ({ dst, op := .box b x, type := ty, pos, after, guard := none } :: l) fr σ t =
    (dB n dst = true ∧ ER ⟨avt (opv fr x), sv (opv fr x)⟩ (fun v => isCell v = true ∧ VK (cellsP v) (fun cs => NEW σ (fun id => pT P T rd n ops Q l (frSet fr dst (.ptr id 0)) (σ.set id (.cells cs)) {}) {}) {}) {}) := by
  rw [pT_heap dst ty pos after rfl rfl]; rfl
@[simp ↓] theorem pT_alloc (b : TypeId) (t : TgS ops Q ({ dst, op := .alloc b, type := ty, pos, after, guard := none } :: l) fr σ) : pT P T rd n ops Q ({ dst, op := .alloc b, type := ty, pos, after, guard := none } :: l) fr σ t =
    (dB n dst = true ∧ OS (zeroP P b) (fun cs => NEW σ (fun id => pT P T rd n ops Q l (frSet fr dst (.ptr id 0)) (σ.set id (.cells cs)) {}) {}) {}) := by
  rw [pT_heap dst ty pos after rfl rfl]
  simp only [gstep, OS]
  cases zeroP P b <;> rfl
def all1 : List PV → Prop
  | [] => True
  | c :: l => isCell1 c = true ∧ all1 l
@[simp] theorem all1_nil : all1 [] = True := (rfl)
@[simp] theorem all1_cons (c : PV) (l : List PV) : all1 (c :: l) = (isCell1 c = true ∧ all1 l) := (rfl)
theorem all1_iff : ∀ l, all1 l = (∀ c ∈ l, isCell1 c = true) := by
  intro l
  induction l with
  | nil => simp
  | cons c l ih => simp only [all1_cons, ih, List.forall_mem_cons]
structure TgH (C : Heap → Prop) where
  x : Nat := 0
structure TgV (C : PV → Heap → Prop) where
  x : Nat := 0
/-- A store. -/
def STO (P : Program) (σ : Heap) (t : TypeId) (a x : PV) (C : Heap → Prop) (_ : TgH C) : Prop := storeP P σ t a x C
@[simp] theorem STO_ptr (t : TypeId) (id off : Nat) (x : PV) (C : Heap → Prop) (tg : TgH C) : STO P σ t (.ptr id off) x C tg = OS (inf P t) (fun i => OS (cellsO (σ id)) (fun cs => VK (cellsP x) (fun new =>
    isCell x = true ∧ new.length = i.1 ∧ all1 new ∧ off + i.1 ≤ cs.length ∧ VK (setR cs off new) (fun cs' => C (σ.set id (.cells cs'))) {}) {}) {}) {} := by
  simp only [STO, storeP, OS, VK, all1_iff]
  cases inf P t with
  | none => simp
  | some i =>
    simp only
    cases h : σ id with
    | none => simp [cellsO]
    | some o =>
      cases o with
      | cells cs => simp only [cellsO]; exact propext ⟨fun ⟨a, b, c⟩ => ⟨b, a, c⟩, fun ⟨a, b, c⟩ => ⟨b, a, c⟩⟩
      | _ => simp [cellsO]
@[simp ↓] theorem pT_store (b : TypeId) (a x : Operand) (t : TgS ops Q ({ dst, op := .store b a x, type := ty, pos, after, guard := none } :: l) fr σ) : pT P T rd n ops Q ({ dst, op := .store b a x, type := ty, pos, after, guard := none } :: l) fr σ t =
    (dB n dst = true ∧ ER ⟨avt (opv fr a), sv (opv fr a)⟩ (fun p => ER ⟨avt (opv fr x), sv (opv fr x)⟩ (fun v => STO P σ b p v (fun σ' => pT P T rd n ops Q l (frSet fr dst (.lit undef)) σ' {}) {}) {}) {}) := by
  rw [pT_heap dst ty pos after rfl rfl]; rfl
/-- 'make'. -/
def MK (P : Program) (σ : Heap) (t : TypeId) (a x : PV) (C : PV → Heap → Prop) (_ : TgV C) : Prop := makeP P σ t a x C
@[simp] theorem MK_int (t : TypeId) (x y : Int) (C : PV → Heap → Prop) (tg : TgV C) : MK P σ t (.lit (.int .i64 x)) (.lit (.int .i64 y)) C tg = OS (elemB P t) (fun e => 0 ≤ x ∧ x ≤ y ∧ y ≤ 4294967296 ∧ e.1 ≤ 65536 ∧ e.2 ≠ [] ∧
      VK (replP y.toNat e.2) (fun cs => NEW σ (fun id => C (.msl id e.2.length 0 x.toNat (decide (x = y))) (σ.set id (.cells cs))) {}) {}) {} := by
  simp only [MK, makeP, OS, VK, NEW]
  cases elemB P t with
  | none => simp
  | some e => obtain ⟨b, zs⟩ := e; rfl
@[simp ↓] theorem pT_make (b : TypeId) (a x : Operand) (t : TgS ops Q ({ dst, op := .makeSlice b a x, type := ty, pos, after, guard := none } :: l) fr σ) : pT P T rd n ops Q ({ dst, op := .makeSlice b a x, type := ty, pos, after, guard := none } :: l) fr σ t =
    (dB n dst = true ∧ ER ⟨avt (opv fr a), sv (opv fr a)⟩ (fun p => ER ⟨avt (opv fr x), sv (opv fr x)⟩ (fun v => MK P σ b p v (fun V σ' => pT P T rd n ops Q l (frSet fr dst V) σ' {}) {}) {}) {}) := by
  rw [pT_heap dst ty pos after rfl rfl]; rfl
/-- 'append': to be taken on by hand. -/
def APP (P : Program) (σ : Heap) (t t2 : TypeId) (x y : PV) (C : PV → Heap → Prop) (_ : TgV C) : Prop := appendP P σ t t2 x y C
@[simp ↓] theorem pT_append (x y : Operand) (t1 t2 : TypeId) (tl : List TypeId) (t : TgS ops Q ({ dst, op := .call { callee := .builtin .append, args := #[x, y], argTypes := (t1 :: t2 :: tl).toArray }, type := ty, pos, after, guard := none } :: l) fr σ) :
    pT P T rd n ops Q ({ dst, op := .call { callee := .builtin .append, args := #[x, y], argTypes := (t1 :: t2 :: tl).toArray }, type := ty, pos, after, guard := none } :: l) fr σ t =
    (dB n dst = true ∧ ER ⟨avt (opv fr x), sv (opv fr x)⟩ (fun p => ER ⟨avt (opv fr y), sv (opv fr y)⟩ (fun v => APP P σ t1 t2 p v (fun V σ' => pT P T rd n ops Q l (frSet fr dst V) σ' {}) {}) {}) {}) := by
  rw [pT_heap dst ty pos after rfl rfl]; rfl
end
@[simp] theorem isQ_move (x : Operand) : isQ (.move x) = true := rfl
@[simp] theorem isQ_assign (x : Operand) : isQ (.assign x) = true := rfl
@[simp] theorem isQ_pick (a b c : Operand) : isQ (.pick a b c) = true := rfl
@[simp] theorem isQ_build (t : TypeId) (ps) : isQ (.build t ps) = true := rfl
@[simp] theorem isQ_buildSlice (t : TypeId) (m ps) : isQ (.buildSlice t m ps) = true := rfl
@[simp] theorem isQ_load (t : TypeId) (a : Operand) : isQ (.load t a) = true := rfl
@[simp] theorem isQ_nilCheck (a : Operand) : isQ (.nilCheck a) = true := rfl
@[simp] theorem isQ_bin (o t) (a b : Operand) (u) : isQ (.binOp o t a b u) = true := rfl
@[simp] theorem isQ_un (o t) (a : Operand) : isQ (.unOp o t a) = true := rfl
@[simp] theorem isQ_conv (s d) (a : Operand) : isQ (.convert s d a) = true := rfl
@[simp] theorem isQ_mkI (t) (a : Operand) : isQ (.makeInterface t a) = true := rfl
@[simp] theorem isQ_mkF (f a b) : isQ (.makeFunc f a b) = true := rfl
@[simp] theorem isQ_slice (t a b c d) : isQ (.slice t a b c d) = true := rfl
@[simp] theorem isQ_fieldAddr (t a b) : isQ (.fieldAddr t a b) = true := rfl
@[simp] theorem isQ_field (t a b) : isQ (.field t a b) = true := rfl
@[simp] theorem isQ_indexAddr (t a b) : isQ (.indexAddr t a b) = true := rfl
@[simp] theorem isQ_index (t a b) : isQ (.index t a b) = true := rfl
@[simp] theorem isQ_extract (a b) : isQ (.extract a b) = true := rfl
@[simp] theorem isQ_len (a b) : isQ (.call { callee := .builtin .len, args := a, argTypes := b }) = true := rfl
@[simp] theorem isQ_max (a b) : isQ (.call { callee := .builtin .max, args := a, argTypes := b }) = true := rfl
@[simp] theorem isQ_min (a b) : isQ (.call { callee := .builtin .min, args := a, argTypes := b }) = true := rfl
@[simp] theorem isQ_callf (f a b) : isQ (.call { callee := .value f, args := a, argTypes := b }) = false := rfl
@[simp] theorem isQ_append (a b) : isQ (.call { callee := .builtin .append, args := a, argTypes := b }) = false := rfl
@[simp] theorem isQ_box (a b) : isQ (.box a b) = false := rfl
@[simp] theorem isQ_alloc (a) : isQ (.alloc a) = false := rfl
@[simp] theorem isQ_store (a b c) : isQ (.store a b c) = false := rfl
@[simp] theorem isQ_make (a b c) : isQ (.makeSlice a b c) = false := rfl
theorem pops_popsT (hT : T.ok P) {t : TgX ops Q l} (h : popsT P T rd n ops Q l t fr σ) : pops P rd n ops l Q fr σ := pops_pst hT h

/-! ### Regions that draw their order -/
structure TgA (ops : Array Oper) (K : Fr → Prop) (l : List Oper) (fr : Fr) (σ : Heap) where
  x : Nat := 0
def aT (P : Program) (T : Tab) (σ : Heap) (n : Nat) (ops : Array Oper) (K : Fr → Prop) (l : List Oper) (fr : Fr) (_ : TgA ops K l fr σ) : Prop := aLex P T σ n ops K l fr
section
variable (dst : Option Tmp) (ty : TypeId) (pos : String) (after : Array Edge) {K : Fr → Prop}
@[simp ↓] theorem aT_nil (t : TgA ops K [] fr σ) : aT P T σ n ops K [] fr t = K fr := (rfl)
@[simp ↓] theorem aT_cons (op : Op) (t : TgA ops K ({ dst, op, type := ty, pos, after, guard := none } :: l) fr σ) : aT P T σ n ops K ({ dst, op, type := ty, pos, after, guard := none } :: l) fr t =
    (dB n dst = true ∧ ER (evo P T σ fr op) (fun V => aT P T σ n ops K l (frSet fr dst V) {}) {}) := by
  simp only [aT, aLex, evc_evo, ER]
  rw [show dstOk n { dst, op, type := ty, pos, after, guard := none } = dB n dst by cases dst <;> rfl]
  exact propext ⟨fun ⟨a, b, c⟩ => ⟨b, a, c⟩, fun ⟨a, b, c⟩ => ⟨b, a, c⟩⟩
@[simp ↓] theorem aT_guard (op : Op) (j : Nat) (w : Bool) (t : TgA ops K ({ dst, op, type := ty, pos, after, guard := some (j, w) } :: l) fr σ) : aT P T σ n ops K ({ dst, op, type := ty, pos, after, guard := some (j, w) } :: l) fr t =
    (dB n dst = true ∧ OS (gsl ops.toList j) (fun d => VK (gvp (fr d) w) (fun g => GB g (evo P T σ fr op) (fun V => aT P T σ n ops K l (frSet fr dst V) {}) {}) {}) {}) := by
  simp only [aT, aLex, evc_evo, OS, VK, GB]
  rw [show dstOk n { dst, op, type := ty, pos, after, guard := some (j, w) } = dB n dst by cases dst <;> rfl, gval_gvp]
  cases gsl ops.toList j with
  | none => simp
  | some d =>
    simp only
    cases gvp (fr d) w with
    | none => simp
    | some g => exact propext ⟨fun ⟨a, b, c⟩ => ⟨b, a, c⟩, fun ⟨a, b, c⟩ => ⟨b, a, c⟩⟩
end
/-- **A region that draws its order**, the first k operations of it. -/
theorem pwp_drawT (hT : T.ok P) (k : Nat) {id : Nat} (hm : P.follows .mixedOrders = true) (hB : drawB ops k = true)
    (h : VK (ops.toList.take k, ops.toList.drop k) (fun p => aT P T σ n ops (fun fr' => pT P T rd n ops Q p.2 fr' σ {}) p.1 fr {}) {}) : pwp P rd n (.region id ops true) Q fr σ :=
  pwp_draw hT hm hB h

/-! ### Control flow -/
structure TgW (c : Code) (Q : PX → Fr → Heap → Prop) (fr : Fr) (σ : Heap) where
  x : Nat := 0
structure TgL (c : Code) (Q : PX → Fr → Heap → Prop) where
  x : Nat := 0
def wT (P : Program) (T : Tab) (rd : Bool) (n : Nat) (c : Code) (Q : PX → Fr → Heap → Prop) (fr : Fr) (σ : Heap) (_ : TgW c Q fr σ) : Prop := wpc P T rd n c Q fr σ
/-- What stops: loops, ranges over functions, regions that draw their order. -/
def pwpT (P : Program) (rd : Bool) (n : Nat) (c : Code) (Q : PX → Fr → Heap → Prop) (_ : TgL c Q) (fr : Fr) (σ : Heap) : Prop := pwp P rd n c Q fr σ
theorem pwp_go (hT : T.ok P) {c : Code} (h : wT P T rd n c Q fr σ {}) : pwp P rd n c Q fr σ := pwp_run hT h
theorem pwpT_go {c : Code} {t : TgL c Q} (h : pwp P rd n c Q fr σ) : pwpT P rd n c Q t fr σ := h
@[simp ↓] theorem wT_seq (a b : Code) (t : TgW (.seq a b) Q fr σ) : wT P T rd n (.seq a b) Q fr σ t = wT P T rd n a (PX.thn (fun fr σ => wT P T rd n b Q fr σ {}) Q) fr σ {} := (rfl)
@[simp ↓] theorem wT_region (id : Nat) (l : List Oper) (t : TgW (.region id l.toArray false) Q fr σ) : wT P T rd n (.region id l.toArray false) Q fr σ t = pT P T rd n l.toArray Q l fr σ {} := (rfl)
@[simp ↓] theorem wT_draw (id : Nat) (ops : Array Oper) (t : TgW (.region id ops true) Q fr σ) : wT P T rd n (.region id ops true) Q fr σ t = pwpT P rd n (.region id ops true) Q {} fr σ := (rfl)
@[simp ↓] theorem wT_cond (c : Operand) (x y : Code) (t : TgW (.cond c x y) Q fr σ) : wT P T rd n (.cond c x y) Q fr σ t = CR (opv fr c) (wT P T rd n x Q fr σ {}) (wT P T rd n y Q fr σ {}) {} := (rfl)
@[simp ↓] theorem wT_block (id : Nat) (c : Code) (t : TgW (.block id c) Q fr σ) : wT P T rd n (.block id c) Q fr σ t = wT P T rd n c (PX.blk id Q) fr σ {} := (rfl)
@[simp ↓] theorem wT_ret (t : TgW .ret Q fr σ) : wT P T rd n .ret Q fr σ t = Q .ret fr σ := (rfl)
@[simp ↓] theorem wT_skip (t : TgW .skip Q fr σ) : wT P T rd n .skip Q fr σ t = Q .normal fr σ := (rfl)
@[simp ↓] theorem wT_exit (id : Nat) (t : TgW (.exit id) Q fr σ) : wT P T rd n (.exit id) Q fr σ t = Q (.exit id) fr σ := (rfl)
@[simp ↓] theorem wT_goto (id : Nat) (t : TgW (.goto id) Q fr σ) : wT P T rd n (.goto id) Q fr σ t = Q (.goto id) fr σ := (rfl)
@[simp ↓] theorem wT_loop (c : Code) (t : TgW (.loop c) Q fr σ) : wT P T rd n (.loop c) Q fr σ t = pwpT P rd n (.loop c) Q {} fr σ := (rfl)
@[simp ↓] theorem wT_rangeFunc (f : Operand) (ps : Array Tmp) (a b : Code) (t : TgW (.rangeFunc f ps a b) Q fr σ) : wT P T rd n (.rangeFunc f ps a b) Q fr σ t = pwpT P rd n (.rangeFunc f ps a b) Q {} fr σ := (rfl)
section
variable {K : Fr → Heap → Prop} {id : Nat}
@[simp ↓] theorem thn_normal : PX.thn K Q .normal fr σ = K fr σ := (rfl)
@[simp ↓] theorem thn_exit (j : Nat) : PX.thn K Q (.exit j) fr σ = Q (.exit j) fr σ := (rfl)
@[simp ↓] theorem thn_goto (j : Nat) : PX.thn K Q (.goto j) fr σ = Q (.goto j) fr σ := (rfl)
@[simp ↓] theorem thn_ret : PX.thn K Q .ret fr σ = Q .ret fr σ := (rfl)
@[simp ↓] theorem thn_pan (v : PV) : PX.thn K Q (.pan v) fr σ = Q (.pan v) fr σ := (rfl)
@[simp ↓] theorem blk_normal : PX.blk id Q .normal fr σ = Q .normal fr σ := (rfl)
@[simp ↓] theorem blk_exit (j : Nat) : PX.blk id Q (.exit j) fr σ = IFK (j == id) (Q .normal fr σ) (Q (.exit j) fr σ) {} := by
  simp only [PX.blk, IFK, beq_iff_eq]
@[simp ↓] theorem blk_goto (j : Nat) : PX.blk id Q (.goto j) fr σ = Q (.goto j) fr σ := (rfl)
@[simp ↓] theorem blk_ret : PX.blk id Q .ret fr σ = Q .ret fr σ := (rfl)
@[simp ↓] theorem blk_pan (v : PV) : PX.blk id Q (.pan v) fr σ = Q (.pan v) fr σ := (rfl)
end
/-! Results. -/
structure TgO (K : Out → Heap → Prop) (σ : Heap) where
  x : Nat := 0
def RR (e : EV) (K : Out → Heap → Prop) (σ : Heap) (_ : TgO K σ) : Prop := e.D ∧ K (.val e.V) σ
@[simp] theorem RR_mk (D : Prop) (V : PV) (K : Out → Heap → Prop) (t : TgO K σ) : RR ⟨D, V⟩ K σ t = (D ∧ K (.val V) σ) := (rfl)
@[simp high] theorem RR_true (V : PV) (K : Out → Heap → Prop) (t : TgO K σ) : RR ⟨True, V⟩ K σ t = K (.val V) σ := by simp [RR]
variable {K : Out → Heap → Prop} {rs : List ResultVar}
@[simp ↓] theorem bodyQ_normal : bodyQ P rs K .normal fr σ = RR (resP P rs fr σ) K σ {} := (rfl)
@[simp ↓] theorem bodyQ_ret : bodyQ P rs K .ret fr σ = RR (resP P rs fr σ) K σ {} := (rfl)
@[simp ↓] theorem bodyQ_pan (v : PV) : bodyQ P rs K (.pan v) fr σ = K (.pan v) σ := (rfl)
@[simp ↓] theorem resP_nil : resP P [] fr σ = ⟨True, .lit (.tuple #[])⟩ := (rfl)
@[simp ↓] theorem rvP_tmp (t : Tmp) : rvP P fr σ (.tmp t) = ⟨avt (fr t), sv (fr t)⟩ := (rfl)
@[simp ↓] theorem rvP_cell (a : Tmp) (t : TypeId) : rvP P fr σ (.cell a t) = gEV (avt (fr a)) (evL P σ t (sv (fr a))) := (rfl)
@[simp ↓] theorem resP_one (r : ResultVar) : resP P [r] fr σ = rvP P fr σ r := (rfl)
def rvL (P : Program) (fr : Fr) (σ : Heap) : List ResultVar → List EV
  | [] => []
  | r :: l => rvP P fr σ r :: rvL P fr σ l
@[simp ↓] theorem rvL_nil : rvL P fr σ [] = [] := (rfl)
@[simp ↓] theorem rvL_cons (r : ResultVar) (l : List ResultVar) : rvL P fr σ (r :: l) = rvP P fr σ r :: rvL P fr σ l := (rfl)
def tupD : List EV → Prop
  | [] => True
  | e :: l => e.D ∧ tupD l
def tupV : List EV → List PV
  | [] => []
  | e :: l => e.V :: tupV l
@[simp] theorem tupD_nil : tupD [] = True := (rfl)
@[simp] theorem tupD_cons (e : EV) (l : List EV) : tupD (e :: l) = (e.D ∧ tupD l) := (rfl)
@[simp] theorem tupV_nil : tupV [] = [] := (rfl)
@[simp] theorem tupV_cons (e : EV) (l : List EV) : tupV (e :: l) = e.V :: tupV l := (rfl)
theorem tup_rvL : ∀ l : List ResultVar, tupD (rvL P fr σ l) = (∀ r ∈ l, (rvP P fr σ r).D) ∧ tupV (rvL P fr σ l) = l.map fun r => (rvP P fr σ r).V := by
  intro l
  induction l with
  | nil => simp [rvL]
  | cons r l ih => simp [rvL, ih.1, ih.2]
@[simp ↓] theorem resP_two (a b : ResultVar) (l : List ResultVar) : resP P (a :: b :: l) fr σ = ⟨tupD (rvL P fr σ (a :: b :: l)), .tup (tupV (rvL P fr σ (a :: b :: l)))⟩ := by
  rw [(tup_rvL _).1, (tup_rvL _).2]; rfl

theorem popsT_of_pops {dst ty pos after as ts} {fo : Operand} {t : TgX ops Q ({ dst, op := .call { callee := .value fo, args := as, argTypes := ts }, type := ty, pos, after, guard := none } :: l)} (hq : quietC T fr (.call { callee := .value fo, args := as, argTypes := ts }) = false)
    (h : pops P rd n ops ({ dst, op := .call { callee := .value fo, args := as, argTypes := ts }, type := ty, pos, after, guard := none } :: l) Q fr σ) :
    popsT P T rd n ops Q ({ dst, op := .call { callee := .value fo, args := as, argTypes := ts }, type := ty, pos, after, guard := none } :: l) t fr σ := by
  have e : heapK (.call { callee := .value fo, args := as, argTypes := ts }) = false := rfl
  simp only [popsT, pst, hq, e]
  exact h
/-- A call that is taken on by hand. -/
theorem popsT_call (hT : T.ok P) {dst ty pos after as ts} {g : FuncId} {K : Out → Heap → Prop} {args : List PV} {t : TgX ops Q ({ dst, op := .call { callee := .value (.func g), args := as.toArray, argTypes := ts }, type := ty, pos, after, guard := none } :: l)} (he : Enters P g)
    (h : pcalls P g args σ K) (hg : T.dom g = false) (hd : dB n dst = true) (ha : avL fr as) (hargs : svL fr as = args)
    (hK : ∀ o' σ', K o' σ' → match o' with | .val v => pT P T rd n ops Q l (frSet fr dst v) σ' {} | .pan v => Q (.pan v) fr σ') :
    popsT P T rd n ops Q ({ dst, op := .call { callee := .value (.func g), args := as.toArray, argTypes := ts }, type := ty, pos, after, guard := none } :: l) t fr σ := by
  rw [avL_iff] at ha
  exact popsT_of_pops (show T.dom g = false from hg) (pops_call T hT rfl (by rw [← hd]; cases dst <;> rfl) rfl rfl he (by simpa using ha) (by rw [← hargs, svL_map]; rfl) h hK)
/-- A yield that is taken on by hand. -/
theorem popsT_yield (hT : T.ok P) {dst ty pos after as ts} {x : Tmp} {L : Nat} {K : Out → Heap → Prop} {args : List PV} {t : TgX ops Q ({ dst, op := .call { callee := .value (.tmp x), args := as.toArray, argTypes := ts }, type := ty, pos, after, guard := none } :: l)} (h : yruns P L args σ K)
    (hy : fr x = .yld L) (hd : dB n dst = true) (ha : avL fr as) (hargs : svL fr as = args)
    (hK : ∀ o' σ', K o' σ' → match o' with | .val v => pT P T rd n ops Q l (frSet fr dst v) σ' {} | .pan v => Q (.pan v) fr σ') :
    popsT P T rd n ops Q ({ dst, op := .call { callee := .value (.tmp x), args := as.toArray, argTypes := ts }, type := ty, pos, after, guard := none } :: l) t fr σ := by
  rw [avL_iff] at ha
  refine popsT_of_pops (show (match sv (fr x) with | .fn (.func g) _ _ => T.dom g | _ => false) = false by rw [hy]; rfl) ?_
  exact pops_yield T hT rfl (by rw [← hd]; cases dst <;> rfl) rfl rfl (L := L) (by show sv (fr x) = _; rw [hy]; rfl) (by show avt (fr x); rw [hy]; trivial) (by simpa using ha) (by rw [← hargs, svL_map]; rfl) h hK
end
end Go.Lo

/-
  The program logic 'Lo', part U: regions that draw their order and make memory once among the drawn operations. Nothing of the program.
-/
set_option linter.unusedSimpArgs false
set_option linter.unusedVariables false
namespace Go.Lo
open Go

section
variable {P : Program} {T : Tab} {rd : Bool} {n : Nat} {σ : Heap} {ops : Array Oper} {fr : Fr}

/-! ### Draws over any relation -/
def aOpY (ops : Array Oper) (n : Nat) (Y : Nat → Oper → PV → Fr → Prop) (i : Nat) (K : Fr → Prop) (fr : Fr) : Prop := ∃ o, ops[i]? = some o ∧ dstOk n o = true ∧ ∃ U, Y i o U fr ∧ K (frSet fr o.dst U)
def aAnyY (ops : Array Oper) (n : Nat) (Y : Nat → Oper → PV → Fr → Prop) (k : Nat) (K : Fr → Prop) : Nat → Array Bool → Fr → Prop
  | 0, listed, fr => (∀ j, j < k → j ∉ Region.ready .any ops listed) ∧ K fr
  | m + 1, listed, fr => (∃ i, i < k ∧ i ∈ Region.ready .any ops listed) ∧ ∀ i, i < k → i ∈ Region.ready .any ops listed → aOpY ops n Y i (aAnyY ops n Y k K m (listed.setIfInBounds i true)) fr
def aLexY (ops : Array Oper) (n : Nat) (Y : Nat → Oper → PV → Fr → Prop) (K : Fr → Prop) : List Oper → Nat → Fr → Prop
  | [], _, fr => K fr
  | o :: l, i, fr => dstOk n o = true ∧ ∃ U, Y i o U fr ∧ aLexY ops n Y K l (i + 1) (frSet fr o.dst U)

/-- What an operation yields does not hang on slots that it does not look at. -/
def SetInv (ops : Array Oper) (Y : Nat → Oper → PV → Fr → Prop) : Prop := ∀ i o U fr dst V, (∀ d, dst = some d → d ∉ o.looksAt ops) → (Y i o U (frSet fr dst V) ↔ Y i o U fr)

theorem aAnyY_first {Y : Nat → Oper → PV → Fr → Prop} (hY : SetInv ops Y) {k : Nat} {K : Fr → Prop} {i : Nat} {oi : Oper} {U : PV} (hi : ops[i]? = some oi) (hik : i < k) (hdi : dstOk n oi = true) :
    ∀ (m : Nat) (listed : Array Bool) (fr : Fr),
      (∀ j oj, j < k → ops[j]? = some oj → j ≠ i → listed.getD j true = false → (∀ e ∈ oj.after, Region.binds .any e = true → e.on ≠ i) → oi.apart ops oj = true) →
      i ∈ Region.ready .any ops listed → Y i oi U fr →
      aAnyY ops n Y k K m (listed.setIfInBounds i true) (frSet fr oi.dst U) → aAnyY ops n Y k K (m + 1) listed fr := by
  intro m
  induction m with
  | zero =>
    intro listed fr _ hr hy H
    refine ⟨⟨i, hik, hr⟩, fun j hjk hj => ?_⟩
    by_cases hji : j = i
    · subst hji; exact ⟨oi, hi, hdi, U, hy, H⟩
    · exact absurd (ready_mono hj hji) (H.1 j hjk)
  | succ m ih =>
    intro listed fr hfree hr hy H
    refine ⟨⟨i, hik, hr⟩, fun j hjk hj => ?_⟩
    by_cases hji : j = i
    · subst hji; exact ⟨oi, hi, hdi, U, hy, H⟩
    · obtain ⟨oj, hoj, hdj, V, hyj, H1⟩ := H.2 j hjk (ready_mono hj hji)
      obtain ⟨hjun, oj', hoj', hall⟩ := mem_ready.1 hj
      rw [hoj] at hoj'; cases hoj'
      have hnot : ∀ e ∈ oj.after, Region.binds .any e = true → e.on ≠ i := fun e he hb heq => by
        have h1 := hall e he hb
        have h0 := (mem_ready.1 hr).1
        rw [heq] at h1
        rcases Nat.lt_or_ge i listed.size with h' | h'
        · simp [h'] at h0 h1; rw [h0] at h1; cases h1
        · simp [Array.getElem?_eq_none h'] at h1
      have hap := hfree j oj hjk hoj hji hjun hnot
      obtain ⟨a1, a2, a3⟩ := Oper.apart_spec hap
      have hfree' : ∀ l ol, l < k → ops[l]? = some ol → l ≠ i → (listed.setIfInBounds j true).getD l true = false →
          (∀ e ∈ ol.after, Region.binds .any e = true → e.on ≠ i) → oi.apart ops ol = true := fun l ol hl hol hli hun hno => by
        refine hfree l ol hl hol hli ?_ hno
        by_cases hjl : j = l
        · subst hjl; exact hjun
        · rw [getD_set_ne true hjl] at hun; exact hun
      refine ⟨oj, hoj, hdj, V, (hY _ _ _ _ _ _ a1).1 hyj, ?_⟩
      refine ih (listed.setIfInBounds j true) _ hfree' (ready_mono hr (Ne.symm hji)) ((hY _ _ _ _ _ _ a3).2 hy) ?_
      rw [Array.setIfInBounds_comm _ _ hji, ← frSet_comm fr U V a2]
      exact H1

theorem aAnyY_lex {Y : Nat → Oper → PV → Fr → Prop} (hY : SetInv ops Y) {k : Nat} {K : Fr → Prop} : ∀ (l : List Oper) (i : Nat) (listed : Array Bool) (fr : Fr), (∀ j, j < l.length → ops[i + j]? = l[j]?) → lexK ops k l.length i listed = true → aLexY ops n Y K l i fr → aAnyY ops n Y k K l.length listed fr := by
  intro l
  induction l with
  | nil =>
    intro i listed fr _ hB h
    simp only [List.length_nil, lexK, List.all_eq_true, List.mem_range] at hB
    refine ⟨fun j hj hr => ?_, h⟩
    have h1 := hB j hj
    have h2 := (mem_ready.1 hr).1
    rcases Nat.lt_or_ge j listed.size with h' | h'
    · simp [h'] at h1 h2; rw [h1] at h2; cases h2
    · simp [Array.getElem?_eq_none h'] at h1
  | cons o l ih =>
    intro i listed fr hl hB h
    simp only [List.length_cons, lexK, Bool.and_eq_true, decide_eq_true_eq] at hB
    obtain ⟨⟨⟨hik, hr⟩, hf⟩, hB'⟩ := hB
    have h0 : ops[i]? = some o := by have := hl 0 (by simp); simpa using this
    have hfree : ∀ j oj, j < k → ops[j]? = some oj → j ≠ i → listed.getD j true = false → (∀ e ∈ oj.after, Region.binds .any e = true → e.on ≠ i) → o.apart ops oj = true := fun j oj hj hoj hne hun hno => by
      simp only [freeK, h0, List.all_eq_true, List.mem_range] at hf
      have h1 := hf j hj
      simp only [hoj, Bool.or_eq_true, beq_iff_eq, hne, false_or, hun, Bool.false_eq_true] at h1
      rcases h1 with h1 | h1
      · obtain ⟨e, he, hb⟩ := Array.any_eq_true'.1 h1
        simp only [Bool.and_eq_true, beq_iff_eq] at hb
        exact absurd hb.2 (hno e he hb.1)
      · exact h1
    have hl' : ∀ j, j < l.length → ops[i + 1 + j]? = l[j]? := fun j hj => by have := hl (j + 1) (by simpa using hj); rw [show i + 1 + j = i + (j + 1) by omega]; simpa using this
    obtain ⟨hd, U, hU, hn⟩ := h
    exact aAnyY_first hY h0 hik hd l.length listed fr hfree (by simpa using hr) hU (ih (i + 1) _ _ hl' hB' hn)

/-! ### More memory, the same results -/
theorem evc_mono {σ' : Heap} {o : Oper} (hσ : ∀ id x, σ id = some x → σ' id = some x) (h : (evc P Tab.nil σ fr o).D) : (evc P Tab.nil σ' fr o).D ∧ (evc P Tab.nil σ' fr o).V = (evc P Tab.nil σ fr o).V := by
  have hL : ∀ t x, (evL P σ t x).D → (evL P σ' t x).D ∧ (evL P σ' t x).V = (evL P σ t x).V := by
    intro t x h
    unfold evL at h ⊢
    split at h
    · exact ⟨h, rfl⟩
    · exact ⟨h, rfl⟩
    · split at h
      · rename_i cs e; simp only [hσ _ _ e]; exact ⟨h, trivial⟩
      · exact h.elim
    · split at h
      · rename_i cs e; simp only [hσ _ _ e]; exact ⟨h, trivial⟩
      · exact h.elim
    · exact h.elim
  have hLen : ∀ t x, (evLen P σ t x).D → (evLen P σ' t x).D ∧ (evLen P σ' t x).V = (evLen P σ t x).V := by
    intro t x h
    unfold evLen at h ⊢
    split at h
    case h_6 =>
      split at h
      · rename_i es e; simp only [hσ _ _ e]; exact ⟨h, trivial⟩
      · exact h.elim
    all_goals first | exact ⟨h, rfl⟩ | exact h.elim
  have hSl : ∀ t x lo hi mx, (evSl P σ t x lo hi mx).D → (evSl P σ' t x lo hi mx).D ∧ (evSl P σ' t x lo hi mx).V = (evSl P σ t x lo hi mx).V := by
    intro t x lo hi mx h
    unfold evSl at h ⊢
    split at h
    case h_4 =>
      split at h
      · rename_i cs e; simp only [hσ _ _ e]; exact ⟨h, trivial⟩
      · exact h.elim
    all_goals first | exact ⟨h, rfl⟩ | exact h.elim
  have gate' : ∀ xs (e e' : EV), ((gate fr xs e).D → (e.D → e'.D ∧ e'.V = e.V) → (gate fr xs e').D ∧ (gate fr xs e').V = (gate fr xs e).V) := fun xs e e' h k => ⟨⟨h.1, (k h.2).1⟩, (k h.2).2⟩
  obtain ⟨dst, op, ty, pos, after, g⟩ := o
  cases op <;> try exact ⟨h, rfl⟩
  case load t a => exact gate' _ _ _ h (hL _ _)
  case slice t x lo hi mx => exact gate' _ _ _ h (hSl _ _ _ _ _)
  case call c =>
    obtain ⟨callee, args, ts⟩ := c
    cases callee with
    | value f =>
      exfalso
      simp only [evc, callT] at h
      split at h
      · exact h.2.2
      · exact h
    | builtin b =>
      show (evCall P σ' fr ⟨.builtin b, args, ts⟩).D ∧ (evCall P σ' fr ⟨.builtin b, args, ts⟩).V = (evCall P σ fr ⟨.builtin b, args, ts⟩).V
      have h : (evCall P σ fr ⟨.builtin b, args, ts⟩).D := h
      cases b <;> try exact ⟨h, rfl⟩
      case len =>
        simp only [evCall] at h ⊢
        split at h
        · exact gate' _ _ _ h (hLen _ _)
        · exact h.elim
    | _ => exact ⟨h, rfl⟩

/-- An operation without a guard yields U. -/
def YN (P : Program) (σ : Heap) (o : Oper) (U : PV) (fr : Fr) : Prop := o.guard = none ∧ (evc P Tab.nil σ fr o).D ∧ U = (evc P Tab.nil σ fr o).V
theorem YN.mono {σ' : Heap} {o : Oper} {U : PV} (hσ : ∀ id x, σ id = some x → σ' id = some x) (h : YN P σ o U fr) : YN P σ' o U fr := by
  obtain ⟨h0, h1, h2⟩ := h
  obtain ⟨k1, k2⟩ := evc_mono hσ h1
  exact ⟨h0, k1, h2.trans k2.symm⟩

theorem gstep_congr {op : Op} {fr' : Fr} {C : PV → Heap → Prop} (h : ∀ x ∈ op.operands, opv fr' x = opv fr x) : gstep P σ fr' op C = gstep P σ fr op C := by
  cases op <;> try rfl
  case box t x => simp only [gstep]; rw [h x (by simp [Op.operands])]
  case store t a x => simp only [gstep]; rw [h x (by simp [Op.operands]), h a (by simp [Op.operands])]
  case makeSlice t l c => simp only [gstep]; rw [h l (by simp [Op.operands]), h c (by simp [Op.operands])]
  case call c =>
    obtain ⟨callee, args, ts⟩ := c
    cases callee with
    | builtin b =>
      cases b <;> try rfl
      simp only [gstep]
      split
      · rename_i x y t t2 tl e1 e2
        have hx : x ∈ args.toList := by rw [e1]; simp
        have hy : y ∈ args.toList := by rw [e1]; simp
        rw [h x (by simp [Op.operands, Call.operands]; simpa using hx), h y (by simp [Op.operands, Call.operands]; simpa using hy)]
      · rfl
    | _ => rfl

/-- What the operation at j makes. -/
def MJ (P : Program) (σ : Heap) (V : Nat → PV) (x : PObj) (o : Oper) (fr : Fr) : Prop := o.guard = none ∧ gstep P σ fr o.op fun V' σ' => ∃ id, σ id = none ∧ V' = V id ∧ σ' = σ.set id x
/-- Does operation i hang on j? -/
def hangs (ops : Array Oper) (j i : Nat) : Bool := (ancGo ops i [i]).contains j
/-- The operation at j makes the memory 'id'; what hangs on it knows of it, the others need not. -/
def YM (P : Program) (σ : Heap) (ops : Array Oper) (j : Nat) (V : Nat → PV) (x : PObj) (id : Nat) (i : Nat) (o : Oper) (U : PV) (fr : Fr) : Prop :=
  if i = j then MJ P σ V x o fr ∧ U = V id else if hangs ops j i then YN P (σ.set id x) o U fr else YN P σ o U fr

theorem YN.setInv {o : Oper} {U V : PV} {dst : Option Tmp} (h : ∀ d, dst = some d → d ∉ o.looksAt ops) : YN P σ o U (frSet fr dst V) ↔ YN P σ o U fr := by
  unfold YN
  rw [evc_congr (agree_set h)]
theorem YM.setInv {j : Nat} {V : Nat → PV} {x : PObj} {id : Nat} : SetInv ops (YM P σ ops j V x id) := by
  intro i o U fr dst W h
  unfold YM
  split
  · unfold MJ
    rw [gstep_congr (agree_set h)]
  · split
    · exact YN.setInv h
    · exact YN.setInv h

/-- After the making. -/
theorem pops_drawM2 {k j : Nat} {V : Nat → PV} {x : PObj} {id : Nat} (hid : σ id = none) {K : Fr → Prop} {Q : PX → Fr → Heap → Prop} (hlt : ∀ j, j < ops.size → ∀ p ∈ preds ops j, p < j) (hanc : ∀ t, k ≤ t → t < ops.size → ∀ p, p < t → p ∈ ancGo ops t [t]) (hk : k ≤ ops.size)
    (hK : ∀ fr, K fr → pops P rd n ops (ops.toList.drop k) Q fr (σ.set id x)) : ∀ (c : Nat) (listed : Array Bool) (fr : Fr), aAnyY ops n (YM P σ ops j V x id) k K c listed fr → listed.getD j false = true → closedL ops listed → listed.size = ops.size → (∀ j, listed.getD j false = true → j < k) →
    ∀ (G : Gh) (W : World) (A : Act) (r : Option Nat) (m base : Nat), r.isSome = rd → HRel G W (σ.set id x) → TRel G W n fr A.tmps → DRel base W A.defers → base ≤ W.heap.size →
      wpAnyIn (FW r) m P .any ops (Post G W (σ.set id x) n base Q) (c + (ops.size - k)) listed A W := by
  intro c
  induction c with
  | zero =>
    intro listed fr h hj hc hs hb G W A r m base h1 h2 h3 h4 h5
    have all : ∀ j, j < k → listed.getD j false = true := by
      intro j
      induction j using Nat.strongRecOn with
      | _ j ih =>
        intro hj
        cases hx : listed.getD j false with
        | true => rfl
        | false => exact absurd ((ready_iff hs).2 ⟨by omega, hx, fun p hp => by have := hlt j (by omega) p hp; exact ih p this (by omega)⟩) (h.1 j hj)
    have := wpAnyIn_tail (F := FW r) (m := m) (P := P) (fun _ => trivial) k hlt hanc (ops.toList.drop k) k listed A W (Nat.le_refl _) hk hs (fun j => ⟨hb j, all j⟩) rfl (hK fr h.2 G W A r m base h1 h2 h3 h4 h5)
    rw [List.length_drop, Array.length_toList] at this
    rw [Nat.zero_add]; exact this
  | succ c ih =>
    intro listed fr h hj hc hs hb G W A r m base h1 h2 h3 h4 h5
    obtain ⟨⟨i0, hi0, hr0⟩, h⟩ := h
    rw [show c + 1 + (ops.size - k) = c + (ops.size - k) + 1 by omega]
    refine ⟨fun h0 => (by rw [h0] at hr0; cases hr0), fun i hi => ?_⟩
    obtain ⟨i1, i2, i3⟩ := (ready_iff hs).1 hi
    obtain ⟨_, j2, _⟩ := (ready_iff hs).1 hr0
    have hik : i < k := by
      rcases Nat.lt_or_ge i k with h' | h'
      · exact h'
      · have hin := hanc i h' i1 i0 (by omega)
        rcases anc_listed hc i [i] (fun j hj p hp => by simp at hj; subst hj; exact i3 p hp) i0 hin with h6 | h6
        · simp at h6; omega
        · rw [j2] at h6; cases h6
    obtain ⟨o, ho, hd, U, hU, hn⟩ := h i hik hi
    have hij : i ≠ j := fun e => by subst e; rw [hj] at i2; cases i2
    have step := ih (listed.setIfInBounds i true) (frSet fr o.dst U) hn ((getD_set_iff (by omega)).2 (.inr hj)) (closed_set hs hc hi) (by simp [hs]) (fun j hj => by
      rw [getD_set_iff (by omega)] at hj
      rcases hj with rfl | hj
      · exact hik
      · exact hb j hj)
    have hdf : ∀ v, (A.put o.dst v).defers = A.defers := fun v => by cases o.dst <;> rfl
    have hdd : ∀ d, o.dst = some d → d < n := fun d hd' => by simpa [dstOk, hd'] using hd
    have hU' : YN P (σ.set id x) o U fr := by
      unfold YM at hU
      rw [if_neg hij] at hU
      split at hU
      · exact hU
      · exact hU.mono fun id' y hy => by
          have : id' ≠ id := fun e => by subst e; rw [hid] at hy; cases hy
          simp [Heap.set, this, hy]
    obtain ⟨hg, hD, hV⟩ := hU'
    unfold wpOpIn
    simp only [ho]
    rw [show Region.wanted o (yielded ops A.tmps) = true by simp [Region.wanted, hg], if_pos rfl]
    refine qop_of_evc (Tab.nil_ok P) hD G W A r m h2 h3 _ _ fun G' W' v he hr hv => ?_
    have hT' := (h3.mono (he.ext h2)).put (hV ▸ hv) hdd
    exact wpAnyIn_post (fun e a w q => q.trans he) _ _ _ _ (step G' W' _ r m base h1 hr hT' (by rw [hdf]; exact h4.evol h2 he) (Nat.le_trans h5 he.size))

/-- Before it. -/
theorem pops_drawM {k j : Nat} {V : Nat → PV} {x : PObj} {K : Nat → Fr → Prop} {Q : PX → Fr → Heap → Prop} (hjk : j < k) (hlt : ∀ j, j < ops.size → ∀ p ∈ preds ops j, p < j) (hanc : ∀ t, k ≤ t → t < ops.size → ∀ p, p < t → p ∈ ancGo ops t [t]) (hk : k ≤ ops.size)
    (hK : ∀ id, σ id = none → ∀ fr, K id fr → pops P rd n ops (ops.toList.drop k) Q fr (σ.set id x)) : ∀ (c : Nat) (listed : Array Bool) (fr : Fr), (∀ id, σ id = none → aAnyY ops n (YM P σ ops j V x id) k (K id) c listed fr) → listed.getD j false = false → closedL ops listed → listed.size = ops.size → (∀ j, listed.getD j false = true → j < k) →
    ∀ (G : Gh) (W : World) (A : Act) (r : Option Nat) (m base : Nat), r.isSome = rd → HRel G W σ → TRel G W n fr A.tmps → DRel base W A.defers → base ≤ W.heap.size →
      wpAnyIn (FW r) m P .any ops (Post G W σ n base Q) (c + (ops.size - k)) listed A W := by
  intro c
  induction c with
  | zero =>
    intro listed fr h hj hc hs hb G W A r m base h1 h2 h3 h4 h5
    exfalso
    obtain ⟨N, hN⟩ := h2.bnd
    have hn : σ N = none := by
      cases hx : σ N with
      | none => rfl
      | some y => obtain ⟨loc, e, _⟩ := h2.obj N y hx; rw [hN N (Nat.le_refl _)] at e; cases e
    have h0 := (h N hn).1
    have all : ∀ i, i < k → listed.getD i false = true := by
      intro i
      induction i using Nat.strongRecOn with
      | _ i ih =>
        intro hi
        cases hx : listed.getD i false with
        | true => rfl
        | false => exact absurd ((ready_iff hs).2 ⟨by omega, hx, fun p hp => by have := hlt i (by omega) p hp; exact ih p this (by omega)⟩) (h0 i hi)
    rw [all j hjk] at hj; cases hj
  | succ c ih =>
    intro listed fr h hj hc hs hb G W A r m base h1 h2 h3 h4 h5
    obtain ⟨N, hN⟩ := h2.bnd
    have hn0 : σ N = none := by
      cases hx : σ N with
      | none => rfl
      | some y => obtain ⟨loc, e, _⟩ := h2.obj N y hx; rw [hN N (Nat.le_refl _)] at e; cases e
    obtain ⟨⟨i0, hi0, hr0⟩, hall⟩ := h N hn0
    rw [show c + 1 + (ops.size - k) = c + (ops.size - k) + 1 by omega]
    refine ⟨fun h0 => (by rw [h0] at hr0; cases hr0), fun i hi => ?_⟩
    obtain ⟨i1, i2, i3⟩ := (ready_iff hs).1 hi
    obtain ⟨_, j2, _⟩ := (ready_iff hs).1 hr0
    have hik : i < k := by
      rcases Nat.lt_or_ge i k with h' | h'
      · exact h'
      · have hin := hanc i h' i1 i0 (by omega)
        rcases anc_listed hc i [i] (fun j hj p hp => by simp at hj; subst hj; exact i3 p hp) i0 hin with h6 | h6
        · simp at h6; omega
        · rw [j2] at h6; cases h6
    have hb' : ∀ j, (listed.setIfInBounds i true).getD j false = true → j < k := fun j hj => by
      rw [getD_set_iff (by omega)] at hj
      rcases hj with rfl | hj
      · exact hik
      · exact hb j hj
    obtain ⟨o, ho, hd, U, hU, _⟩ := hall i hik hi
    have hdf : ∀ v, (A.put o.dst v).defers = A.defers := fun v => by cases o.dst <;> rfl
    have hdd : ∀ d, o.dst = some d → d < n := fun d hd' => by simpa [dstOk, hd'] using hd
    unfold wpOpIn
    simp only [ho]
    by_cases hij : i = j
    · subst hij
      have hMJ : MJ P σ V x o fr := by unfold YM at hU; rw [if_pos rfl] at hU; exact hU.1
      obtain ⟨hg, hM⟩ := hMJ
      rw [show Region.wanted o (yielded ops A.tmps) = true by simp [Region.wanted, hg], if_pos rfl]
      refine gop_gstep (n := n) (rd := rd) (K := fun out σ' => ∃ id, σ id = none ∧ out = .val (V id) ∧ σ' = σ.set id x) (gstep_mono (fun V' σ' ⟨id, a, b, c⟩ => ⟨id, a, by rw [b], c⟩) hM) G W A r m h1 h2 h3 _ _ ?_ ?_
      · rintro V' σ' G' W' v ⟨id, hid, e1, rfl⟩ he hr hv
        cases e1
        obtain ⟨o', ho', _, U', hU', hn⟩ := (h id hid).2 i hik hi
        rw [ho] at ho'; cases ho'
        have hU'' : U' = V id := by unfold YM at hU'; rw [if_pos rfl] at hU'; exact hU'.2
        subst hU''
        have hT' := (h3.mono (he.ext h2)).put hv hdd
        have step := pops_drawM2 hid hlt hanc hk (hK id hid) c (listed.setIfInBounds i true) _ hn ((getD_set_iff (by omega)).2 (.inl rfl)) (closed_set hs hc hi) (by simp [hs]) hb' G' W' (A.put o.dst v) r m base h1 hr hT' (by rw [hdf]; exact h4.evol h2 he) (Nat.le_trans h5 he.size)
        exact wpAnyIn_post (fun e a w q => q.trans he) _ _ _ _ step
      · rintro V' σ' G' W' v ⟨id, _, e1, _⟩
        cases e1
    · have hh : hangs ops j i = false := by
        cases hx : hangs ops j i with
        | false => rfl
        | true =>
          exfalso
          have hin : j ∈ ancGo ops i [i] := by simpa [hangs] using hx
          rcases anc_listed hc i [i] (fun l hl p hp => by simp at hl; subst hl; exact i3 p hp) j hin with h6 | h6
          · simp at h6; exact hij h6.symm
          · rw [hj] at h6; cases h6
      have hYN : ∀ id, ∀ U o, YM P σ ops j V x id i o U fr → YN P σ o U fr := fun id U o h => by
        unfold YM at h; rw [if_neg hij, hh] at h; exact h
      obtain ⟨hg, hD, hV⟩ := hYN _ _ _ hU
      rw [show Region.wanted o (yielded ops A.tmps) = true by simp [Region.wanted, hg], if_pos rfl]
      refine qop_of_evc (Tab.nil_ok P) hD G W A r m h2 h3 _ _ fun G' W' v he hr hv => ?_
      have hT' := (h3.mono (he.ext h2)).put (hV ▸ hv) hdd
      have step := ih (listed.setIfInBounds i true) (frSet fr o.dst U) (fun id hid => by
        obtain ⟨o', ho', _, U', hU', hn⟩ := (h id hid).2 i hik hi
        rw [ho] at ho'; cases ho'
        have := (hYN _ _ _ hU').2.2
        rw [hV, ← this]; exact hn) (by
          cases hx : (listed.setIfInBounds i true).getD j false with
          | false => rfl
          | true =>
            rcases (getD_set_iff (by omega)).1 hx with h6 | h6
            · exact absurd h6.symm hij
            · rw [hj] at h6; cases h6) (closed_set hs hc hi) (by simp [hs]) hb'
      exact wpAnyIn_post (fun e a w q => q.trans he) _ _ _ _ (step G' W' _ r m base h1 hr hT' (by rw [hdf]; exact h4.evol h2 he) (Nat.le_trans h5 he.size))

/-- **A region that draws its order and makes memory at its operation j.** -/
theorem pwp_drawM {id k j : Nat} {V : Nat → PV} {x : PObj} {Q : PX → Fr → Heap → Prop} (hT : T.ok P) (hm : P.follows .mixedOrders = true) (hB : drawB ops k = true) (hjk : j < k)
    (h : ∀ id, σ id = none → aLexY ops n (YM P σ ops j V x id) (fun fr' => pst P T rd n ops Q (ops.toList.drop k) fr' (σ.set id x)) (ops.toList.take k) 0 fr) : pwp P rd n (.region id ops true) Q fr σ := by
  intro G W A r m base h1 h2 h3 h4 h5
  simp only [drawB, Bool.and_eq_true, decide_eq_true_eq, List.all_eq_true, List.mem_range, Bool.or_eq_true] at hB
  obtain ⟨⟨⟨b1, b2⟩, b3⟩, b4⟩ := hB
  refine wpIn_region_any hm ?_
  have qd := QEv.drew h2
  have he := qd.evol h2
  have hlen : (ops.toList.take k).length = k := by simp; omega
  have hf0 : ∀ j, (Array.replicate ops.size false).getD j false = false := fun j => by
    rw [Array.getD_eq_getD_getElem?, Array.getElem?_replicate]; split <;> rfl
  have key : ∀ id, σ id = none → aAnyY ops n (YM P σ ops j V x id) k (fun fr' => pst P T rd n ops Q (ops.toList.drop k) fr' (σ.set id x)) k (Array.replicate ops.size false) fr := fun id hid => by
    have := aAnyY_lex (n := n) YM.setInv (k := k) (ops.toList.take k) 0 (Array.replicate ops.size false) fr (fun j hj => by
      rw [hlen] at hj
      rw [List.getElem?_take, if_pos hj]; simp) (by rw [hlen]; exact b1) (h id hid)
    rwa [hlen] at this
  have := pops_drawM (rd := rd) (Q := Q) (j := j) (V := V) (x := x) (K := fun id fr' => pst P T rd n ops Q (ops.toList.drop k) fr' (σ.set id x)) hjk b3 (fun t h1 h2 p hp => by
    rcases b4 t h2 with h6 | h6
    · omega
    · simpa using h6 p hp) b2 (fun id hid fr hk => pops_pst hT hk) k _ fr key (hf0 j) (fun j hj => by
      rw [hf0 j] at hj; cases hj) (by simp) (fun j hj => by
      rw [hf0 j] at hj; cases hj) G W.drew A r m base h1 (qd.hrel h2) (h3.mono (he.ext h2)) (h4.evol h2 he) (Nat.le_trans h5 he.size)
  rw [show k + (ops.size - k) = ops.size by omega] at this
  exact wpAnyIn_post (fun e a w q => q.trans he) _ _ _ _ this

/-! ### .. as simp runs it -/
structure TgM (K : Fr → Prop) (l : List Oper) (fr : Fr) (σ : Heap) (x : PObj) where
  y : Nat := 0
def mT (P : Program) (σ : Heap) (n : Nat) (V : Nat → PV) (x : PObj) (id : Nat) (K : Fr → Prop) : (l : List Oper) → List (Option Bool) → (fr : Fr) → Prop
  | [], _, fr => K fr
  | o :: l, none :: hs, fr => dB n o.dst = true ∧ MJ P σ V x o fr ∧ mT P σ n V x id K l hs (frSet fr o.dst (V id))
  | o :: l, some b :: hs, fr => dB n o.dst = true ∧ o.guard = none ∧ (evo P Tab.nil (if b then σ.set id x else σ) fr o.op).D ∧ mT P σ n V x id K l hs (frSet fr o.dst (evo P Tab.nil (if b then σ.set id x else σ) fr o.op).V)
  | _ :: _, [], _ => False
theorem mT_lex {j : Nat} {V : Nat → PV} {x : PObj} {id : Nat} {K : Fr → Prop} : ∀ (l : List Oper) (i : Nat) (hs : List (Option Bool)) (fr : Fr), ((List.range l.length).map fun m => if i + m = j then none else some (hangs ops j (i + m))) = hs → mT P σ n V x id K l hs fr → aLexY ops n (YM P σ ops j V x id) K l i fr := by
  intro l
  induction l with
  | nil => intro i hs fr _ h; exact h
  | cons o l ih =>
    intro i hs fr he h
    rw [List.length_cons, List.range_succ_eq_map, List.map_cons, List.map_map] at he
    obtain ⟨c, hs', rfl⟩ : ∃ c hs', hs = c :: hs' := ⟨_, _, he.symm⟩
    rw [List.cons.injEq] at he
    have he2 : ((List.range l.length).map fun m => if i + 1 + m = j then none else some (hangs ops j (i + 1 + m))) = hs' := by
      rw [← he.2]
      refine List.map_congr_left fun m _ => ?_
      simp only [Function.comp]
      rw [show i + 1 + m = i + (m + 1) by omega]
    have hdo : ∀ {o : Oper}, dB n o.dst = true → dstOk n o = true := fun {o} h => by rw [← h]; cases o with | mk d _ _ _ _ _ => cases d <;> rfl
    cases c with
    | none =>
      have hij : i = j := by
        have := he.1
        by_cases e : i + 0 = j
        · exact e
        · rw [if_neg e] at this; cases this
      subst hij
      obtain ⟨h1, h2, h3⟩ := h
      exact ⟨hdo h1, _, by unfold YM; rw [if_pos rfl]; exact ⟨h2, rfl⟩, ih (i + 1) hs' _ he2 h3⟩
    | some b =>
      have hij : i ≠ j := by
        intro e
        have := he.1
        rw [if_pos (show i + 0 = j by omega)] at this; cases this
      have hb : hangs ops j i = b := by
        have := he.1
        rw [if_neg (show ¬ i + 0 = j by omega)] at this
        simpa using this
      obtain ⟨h1, h2, h3, h4⟩ := h
      refine ⟨hdo h1, _, ?_, ih (i + 1) hs' _ he2 h4⟩
      unfold YM
      rw [if_neg hij, hb]
      cases b with
      | true => exact ⟨h2, by rw [evc_evo]; exact h3, by rw [evc_evo]; rfl⟩
      | false => exact ⟨h2, by rw [evc_evo]; exact h3, by rw [evc_evo]; rfl⟩
def mS (P : Program) (σ : Heap) (n : Nat) (V : Nat → PV) (x : PObj) (id : Nat) (K : Fr → Prop) (l : List Oper) (hs : List (Option Bool)) (fr : Fr) (_ : TgM K l fr σ x) : Prop := mT P σ n V x id K l hs fr
section
variable (dst : Option Tmp) (op : Op) (ty : TypeId) (pos : String) (after : Array Edge) {V : Nat → PV} {x : PObj} {id : Nat} {K : Fr → Prop} {l : List Oper} {hs : List (Option Bool)}
@[simp ↓] theorem mS_nil (t : TgM K [] fr σ x) : mS P σ n V x id K [] hs fr t = K fr := (rfl)
@[simp ↓] theorem mS_false (t : TgM K ({ dst, op, type := ty, pos, after, guard := none } :: l) fr σ x) : mS P σ n V x id K ({ dst, op, type := ty, pos, after, guard := none } :: l) (some false :: hs) fr t =
    (dB n dst = true ∧ ER (evo P Tab.nil σ fr op) (fun W => mS P σ n V x id K l hs (frSet fr dst W) {}) {}) := by
  simp only [mS, mT, ER, true_and]; rfl
@[simp ↓] theorem mS_true (t : TgM K ({ dst, op, type := ty, pos, after, guard := none } :: l) fr σ x) : mS P σ n V x id K ({ dst, op, type := ty, pos, after, guard := none } :: l) (some true :: hs) fr t =
    (dB n dst = true ∧ ER (evo P Tab.nil (σ.set id x) fr op) (fun W => mS P σ n V x id K l hs (frSet fr dst W) {}) {}) := by
  simp only [mS, mT, ER, true_and]; rfl
/-- 'make' among the drawn operations. -/
def MKJ (P : Program) (σ : Heap) (t : TypeId) (a c : PV) (V : Nat → PV) (x : PObj) : Prop := makeP P σ t a c fun V' σ' => ∃ id, σ id = none ∧ V' = V id ∧ σ' = σ.set id x
@[simp ↓] theorem mS_make (b : TypeId) (a c : Operand) (t : TgM K ({ dst, op := .makeSlice b a c, type := ty, pos, after, guard := none } :: l) fr σ x) : mS P σ n V x id K ({ dst, op := .makeSlice b a c, type := ty, pos, after, guard := none } :: l) (none :: hs) fr t =
    (dB n dst = true ∧ ER ⟨avt (opv fr a), sv (opv fr a)⟩ (fun p => ER ⟨avt (opv fr c), sv (opv fr c)⟩ (fun q => MKJ P σ b p q V x ∧ mS P σ n V x id K l hs (frSet fr dst (V id)) {}) {}) {}) := by
  simp only [mS, mT, ER, MJ, MKJ, gstep, true_and, and_assoc]
theorem MKJ_int {t : TypeId} {x y : Int} {b : Nat} {zs : List PV} (he : elemB P t = some (b, zs)) (h0 : 0 ≤ x) (h1 : x ≤ y) (h2 : y ≤ 4294967296) (h3 : b ≤ 65536) (h4 : zs ≠ []) :
    MKJ P σ t (.lit (.int .i64 x)) (.lit (.int .i64 y)) (fun id => .msl id zs.length 0 x.toNat (decide (x = y))) (.cells (replP y.toNat zs)) := by
  simp only [MKJ, makeP, he]
  exact ⟨h0, h1, h2, h3, h4, fun id hid => ⟨id, hid, rfl, rfl⟩⟩
end
theorem pwp_drawMT (hT : T.ok P) (k j : Nat) (V : Nat → PV) (x : PObj) (hs : List (Option Bool)) {id0 : Nat} {Q : PX → Fr → Heap → Prop} (hm : P.follows .mixedOrders = true) (hB : drawB ops k = true) (hjk : j < k)
    (hhs : ((List.range k).map fun m => if m = j then none else some (hangs ops j m)) = hs)
    (h : ∀ id, σ id = none → VK (ops.toList.take k, ops.toList.drop k) (fun p => mS P σ n V x id (fun fr' => pT P T rd n ops Q p.2 fr' (σ.set id x) {}) p.1 hs fr {}) {}) : pwp P rd n (.region id0 ops true) Q fr σ := by
  refine pwp_drawM (V := V) (x := x) hT hm hB hjk fun id hid => ?_
  have hk : k ≤ ops.size := by
    simp only [drawB, Bool.and_eq_true, decide_eq_true_eq] at hB
    exact hB.1.1.2
  refine mT_lex (j := j) (ops.toList.take k) 0 hs fr ?_ (h id hid)
  rw [← hhs, List.length_take, Array.length_toList, Nat.min_eq_left hk]
  refine List.map_congr_left fun m _ => by rw [Nat.zero_add]
end
end Go.Lo

/-
  The program logic 'Lo', part V: rows of integers, counters. Nothing of the program.
-/
set_option linter.unusedSimpArgs false
set_option linter.unusedVariables false
namespace Go.Lo
open Go

abbrev bo (b : Bool) : PV := .lit (.bool b)
abbrev num (x : Int) : PV := .lit (.int .i64 x)
/-- A row of integers. -/
def encI (b : Bool) (l : List Int) : PV := .slice b (l.map fun x => [num x])
theorem encI_def (b : Bool) (l : List Int) : encI b l = .slice b (l.map fun x => [num x]) := rfl
@[simp] theorem sv_encI (b : Bool) (l : List Int) : sv (encI b l) = encI b l := rfl
@[simp] theorem avt_encI (b : Bool) (l : List Int) : avt (encI b l) = True := rfl
@[simp] theorem cellsP_encI (b : Bool) (l : List Int) : cellsP (encI b l) = [encI b l] := rfl
@[simp] theorem isCell_encI (b : Bool) (l : List Int) : isCell (encI b l) = true := rfl
@[simp] theorem isCell1_encI (b : Bool) (l : List Int) : isCell1 (encI b l) = true := rfl
@[simp] theorem Lenx_encI (σ : Heap) (b : Bool) (l : List Int) : Lenx .slice σ (encI b l) = ⟨True, num l.length⟩ := by
  simp [encI]
/-- The element at a place. -/
theorem IAx_encI {b : Bool} {l : List Int} {k : Nat} (ag : Bool) (kk : IntKind) (h : k < l.length) : IAx (some (none, 1, ag)) (encI b l) (.lit (.int kk (k : Int))) = ⟨True, .ref [num l[k]]⟩ := by
  simp [encI, h]
theorem IAx_encI' {b : Bool} {l : List Int} {z : Int} (ag : Bool) (kk : IntKind) (h : 0 ≤ z ∧ z < l.length) : IAx (some (none, 1, ag)) (encI b l) (.lit (.int kk z)) = ⟨True, .ref [num (l.getD z.toNat 0)]⟩ := by
  have h1 : z.toNat < l.length := by omega
  simp [encI, h.1, h.2, h1]
@[simp] theorem LxI (σ : Heap) (x : Int) : Lx (some (1, false)) σ (.ref [num x]) = ⟨True, num x⟩ := by simp
theorem wrap_nat {x : Int} (h1 : -9223372036854775808 ≤ x) (h2 : x < 9223372036854775808) : IntKind.i64.wrap x = x := wrap_i64 h1 h2
/-- A counter counts. -/
theorem wrap_succ {k : Nat} (h : k < 9223372036854775807) : IntKind.i64.wrap ((k : Int) + 1) = ((k + 1 : Nat) : Int) := by
  rw [wrap_i64 (by omega) (by omega)]; omega

/-- What reads as a row of integers reads as it, wherever it lies. -/
theorem PLe.encI (b : Bool) (l : List Int) : PLe (.slice b (l.map fun x => [num x])) (Lo.encI b l) := .refl _
theorem PLe.encI_nil (b : Bool) : PLe (.lit (.slice none 0 0)) (Lo.encI b []) := PLe.nil b
theorem PLe.encI_full (b : Bool) (l : List Int) : PLe (Lo.encI b l) (Lo.encI false l) := PLe.unfull _ _

theorem Frz.set {σf σ : Heap} {id : Nat} {cs : List PV} (h : Frz σf σ) (hid : σ id = some (.cells cs)) : Frz (σf.set id (.cells cs)) σ :=
  ⟨fun j x hx => by
    rw [Heap.set_at] at hx; split at hx
    · rename_i e; have e : j = id := e; subst e; cases hx; exact hid
    · exact h.sub j x hx, fun j x hx => by
    rw [Heap.set_at] at hx; split at hx
    · cases hx; exact ⟨cs, rfl⟩
    · exact h.cells j x hx⟩

/-! Running through a row. -/
def allTo {α : Type} (p : α → Bool) (l : List α) (k : Nat) : Bool := (l.take k).all p
theorem allTo_zero {α : Type} (p : α → Bool) (l : List α) : allTo p l 0 = true := by simp [allTo]
theorem allTo_succ {α : Type} {p : α → Bool} {l : List α} {k : Nat} (h : k < l.length) : allTo p l (k + 1) = (allTo p l k && p l[k]) := by
  unfold allTo
  rw [List.take_succ_eq_append_getElem h, List.all_append]; simp
theorem allTo_all {α : Type} {p : α → Bool} {l : List α} {k : Nat} (h : ¬ k < l.length) : allTo p l k = l.all p := by
  unfold allTo
  rw [List.take_of_length_le (by omega)]
theorem all_not {α : Type} {p : α → Bool} {l : List α} {k : Nat} (h : k < l.length) (hp : p l[k] = false) : l.all p = false := by
  rw [List.all_eq_false]
  exact ⟨_, List.getElem_mem h, by simp [hp]⟩
def anyTo {α : Type} (p : α → Bool) (l : List α) (k : Nat) : Bool := (l.take k).any p
theorem anyTo_zero {α : Type} (p : α → Bool) (l : List α) : anyTo p l 0 = false := by simp [anyTo]
theorem anyTo_succ {α : Type} {p : α → Bool} {l : List α} {k : Nat} (h : k < l.length) : anyTo p l (k + 1) = (anyTo p l k || p l[k]) := by
  unfold anyTo
  rw [List.take_succ_eq_append_getElem h, List.any_append]; simp
theorem anyTo_all {α : Type} {p : α → Bool} {l : List α} {k : Nat} (h : ¬ k < l.length) : anyTo p l k = l.any p := by
  unfold anyTo
  rw [List.take_of_length_le (by omega)]
theorem any_yes {α : Type} {p : α → Bool} {l : List α} {k : Nat} (h : k < l.length) (hp : p l[k] = true) : l.any p = true :=
  List.any_eq_true.2 ⟨_, List.getElem_mem h, hp⟩

/-! Rounds of a range over a function. -/
section
variable {P : Program} {n : Nat} {Q : PX → Fr → Heap → Prop} {fr fr' : Fr} {σ : Heap} {J : Heap → Prop}
@[simp ↓] theorem setPs_nil (fr : Fr) (vs : List PV) : setPs fr [] vs = fr := by cases vs <;> rfl
@[simp ↓] theorem setPs_cons (fr : Fr) (t : Tmp) (ts : List Tmp) (v : PV) (vs : List PV) : setPs fr (t :: ts) (v :: vs) = setPs (fr.set t v) ts vs := (rfl)
/-- What a round's end means to the loop's function. -/
def rndT (Q : PX → Fr → Heap → Prop) (fr : Fr) (J : Heap → Prop) : PX → Fr → Heap → Prop
  | .normal, _, σ => J σ
  | .ret, _, σ => Q .ret fr σ
  | .exit id, _, σ => Q (.exit id) fr σ
  | .goto l, _, σ => Q (.goto l) fr σ
  | .pan _, _, _ => False
@[simp ↓] theorem rndT_normal : rndT Q fr J .normal fr' σ = J σ := (rfl)
@[simp ↓] theorem rndT_ret : rndT Q fr J .ret fr' σ = Q .ret fr σ := (rfl)
@[simp ↓] theorem rndT_exit (id : Nat) : rndT Q fr J (.exit id) fr' σ = Q (.exit id) fr σ := (rfl)
@[simp ↓] theorem rndT_goto (l : Nat) : rndT Q fr J (.goto l) fr' σ = Q (.goto l) fr σ := (rfl)
@[simp ↓] theorem rndT_pan (v : PV) : rndT Q fr J (.pan v) fr' σ = False := (rfl)
/-- **A range over an iterator**, as simp runs it. -/
theorem pwp_rangeT {T : Tab} (hT : T.ok P) {g : Operand} {ps : Array Tmp} {as bd : Code} {f : FuncId} {first cap : List PV} {vs : List (List PV)} {t : TgL (.rangeFunc g ps as bd) Q} (J : Nat → Heap → Prop) (hit : IterC P f first cap vs) (hg : opv fr g = .fn (.func f) first cap) (he : Enters P f)
    (hps : ∀ v ∈ vs, ps.size = v.length) (hlt : ∀ t ∈ ps.toList, t < n) (h0 : J 0 σ)
    (round : ∀ k σ (h : k < vs.length), J k σ → wT P T true n as (PX.thn (fun fr1 σ1 => wT P T true n bd (rndT Q fr (J (k + 1))) fr1 σ1 {}) (fun _ _ _ => False)) (setPs fr ps.toList vs[k]) σ {})
    (hend : ∀ σ, J vs.length σ → Q .normal fr σ) : pwpT P false n (.rangeFunc g ps as bd) Q t fr σ := by
  refine pwp_range hit (by rw [hg]; rfl) (by rw [hg]; trivial) he hps hlt J h0 (fun k σ h hJ => ?_) hend
  refine pwp_mono (pwp_go hT (round k σ h hJ)) fun pe fr1 σ1 k1 => ?_
  cases pe with
  | normal =>
    refine pwp_mono (pwp_go hT (show wT P T true n bd (rndT Q fr (J (k + 1))) fr1 σ1 {} from k1)) fun pe fr2 σ2 k2 => ?_
    cases pe with
    | normal => exact k2
    | ret => exact pwp_ret k2
    | exit id => exact pwp_exit k2
    | goto l => exact pwp_goto k2
    | pan v => exact k2
  | _ => exact k1
end

/-! Bits of small numbers. -/
theorem bit_i64 {m d : Nat} (hm : m < 9223372036854775808) (hd : d < 63) : andI .i64 (shrI .i64 (m : Int) (d : Int)) 1 = if m.testBit d then 1 else 0 := by
  have e1 : shrI .i64 (m : Int) (d : Int) = ((m / 2 ^ d : Nat) : Int) := by
    unfold shrI
    rw [show IntKind.i64.bits = 64 from rfl, Int.toNat_natCast, Nat.min_eq_left (by omega)]
    rw [Int.fdiv_eq_ediv_of_nonneg _ (by exact_mod_cast Nat.zero_le _)]
    norm_cast
  rw [e1]
  unfold andI
  rw [show IntKind.i64.bits = 64 from rfl]
  have e2 : (BitVec.ofInt 64 ((m / 2 ^ d : Nat) : Int) &&& BitVec.ofInt 64 1).toNat = (m / 2 ^ d) % 2 := by
    rw [BitVec.toNat_and]
    rw [show (BitVec.ofInt 64 1).toNat = 1 from rfl, Nat.and_one_is_mod, BitVec.ofInt_natCast, BitVec.toNat_ofNat]
    omega
  rw [e2, wrap_i64 (by omega) (by omega), Nat.testBit_eq_decide_div_mod_eq]
  have : m / 2 ^ d % 2 < 2 := Nat.mod_lt _ (by omega)
  rcases Nat.lt_or_ge (m / 2 ^ d % 2) 1 with h | h
  · have : m / 2 ^ d % 2 = 0 := by omega
    simp [this]
  · have : m / 2 ^ d % 2 = 1 := by omega
    simp [this]

/-! Rows by a function. -/
def rowP (n : Nat) (g : Nat → PV) : List PV := (List.range n).map g
@[simp] theorem rowP_length (n : Nat) (g : Nat → PV) : (rowP n g).length = n := by simp [rowP]
theorem rowP_get? {n : Nat} (g : Nat → PV) {i : Nat} (h : i < n) : (rowP n g)[i]? = some (g i) := by simp [rowP, h]
theorem rowP_getD {n : Nat} (g : Nat → PV) {i : Nat} (d : PV) (h : i < n) : (rowP n g).getD i d = g i := by rw [List.getD_eq_getElem?_getD, rowP_get? g h]; rfl
@[simp] theorem rowP_getElem (n : Nat) (g : Nat → PV) (i : Nat) (h : i < (rowP n g).length) : (rowP n g)[i] = g i := by simp [rowP]
theorem rowP_set {n : Nat} (g : Nat → PV) {i : Nat} (v : PV) (h : i < n) : setR (rowP n g) i [v] = rowP n fun j => if j = i then v else g j := by
  refine List.ext_getElem? fun j => ?_
  have hl : (setR (rowP n g) i [v]).length = n := by rw [setR_length (by simp; omega)]; simp
  rcases Nat.lt_or_ge j n with hj | hj
  · have h1 := setR_getD (cells := rowP n g) (new := [v]) (off := i) (by simp; omega) j
    rw [rowP_get? _ hj, List.getElem?_eq_getElem (by omega)]
    simp only [List.getD, List.getElem?_eq_getElem (show j < (setR (rowP n g) i [v]).length by omega), Option.getD_some, rowP_get? _ hj] at h1
    rw [h1]
    by_cases e : j = i
    · subst e; simp
    · rw [if_neg (by simp; omega)]; simp [e]
  · rw [List.getElem?_eq_none (by omega), List.getElem?_eq_none (by simpa using hj)]
theorem rowP_congr {n : Nat} {f g : Nat → PV} (h : ∀ i, i < n → f i = g i) : rowP n f = rowP n g := List.map_congr_left fun i hi => h i (List.mem_range.1 hi)
theorem rowP_repl (n : Nat) (v : PV) : replP n [v] = rowP n fun _ => v := by
  unfold replP rowP
  induction n with
  | zero => rfl
  | succ n ih => rw [List.range_succ, List.map_append, ← ih, List.replicate_succ', List.flatten_append]; simp
theorem rowP_map (n : Nat) (g : Nat → PV) (f : PV → PV) : (rowP n g).map f = rowP n fun i => f (g i) := by simp [rowP]
theorem chunks_row (n : Nat) (g : Nat → PV) : chunks 1 n (rowP n g) = (List.range n).map fun i => [g i] := by
  unfold chunks
  refine List.map_congr_left fun i hi => ?_
  have hi := List.mem_range.1 hi
  rw [Nat.mul_one, List.drop_eq_getElem_cons (by simpa using hi)]
  simp [rowP]

/-! What reads as something, in parts. -/
theorem PLe.agg {ps qs : List PV} (h : PLeL ps qs) : PLe (.agg ps) (.agg qs) := fun G W v hv => by
  cases hv with
  | agg _ vs h1 h2 =>
    obtain ⟨l1, l2⟩ := h.get
    exact .agg qs vs (by omega) fun i hi => l2 i hi G W _ (h2 i (by omega))
theorem PLe.tup {ps qs : List PV} (h : PLeL ps qs) : PLe (.tup ps) (.tup qs) := fun G W v hv => by
  cases hv with
  | tup _ vs h1 h2 =>
    obtain ⟨l1, l2⟩ := h.get
    exact .tup qs vs (by omega) fun i hi => l2 i hi G W _ (h2 i (by omega))
theorem PLe.ref {ps qs : List PV} (h : PLeL ps qs) : PLe (.ref ps) (.ref qs) := fun G W v hv => by
  cases hv with
  | ref _ b off cv h1 h2 =>
    obtain ⟨l1, l2⟩ := h.get
    exact .ref qs b off cv (fun j hj => h1 j (by omega)) fun j hj => l2 j hj G W _ (h2 j (by omega))
theorem PLe.trans {p q r : PV} (h : PLe p q) (k : PLe q r) : PLe p r := fun G W v hv => k G W v (h G W v hv)
theorem pcalls.wk {P : Program} {σ : Heap} {f : FuncId} {args : List PV} {r : PV} (h : pcalls P f args σ fun o _ => ∃ r', o = .val r' ∧ PLe r' r) : pcalls P f args σ fun o _ => o = .val r :=
  fun G W xs m h1 h2 => (h G W xs m h1 h2).mono fun e W' ⟨o, σ', G', ⟨r', hr, ho⟩, k2, k3, k4⟩ => by
    subst hr
    refine ⟨.val r, σ', G', rfl, ?_, k3, k4⟩
    cases e <;> simp only [OutRel] at k2 ⊢
    exact ho _ _ _ k2

/-! Freezing rows of integers. -/
@[simp ↓] theorem Heap.minus_at (σ σf : Heap) (id : Nat) : (σ.minus σf) id = if (σf id).isSome then none else σ id := (rfl)
@[simp] theorem frzN_num (n : Nat) (σ : Heap) (v : Value) : frzN n σ (.lit v) = .lit v := by cases n <;> rfl
@[simp] theorem frzN_encI (n : Nat) (σ : Heap) (b : Bool) (l : List Int) : frzN n σ (encI b l) = encI b l := by
  cases n with
  | zero => rfl
  | succ n => simp only [encI, frzN, List.map_map, Function.comp_def, List.map_cons, List.map_nil, frzN_num]

@[simp] theorem frzN_zero (σ : Heap) (v : PV) : frzN 0 σ v = v := (rfl)
def FZP (o : Option (List PV)) (n : Nat) (σ : Heap) (id off : Nat) : PV := match o with | some cs => .ref ((cs.drop off).map (frzN n σ)) | none => .ptr id off
@[simp] theorem FZP_some (cs : List PV) (n : Nat) (σ : Heap) (id off : Nat) : FZP (some cs) n σ id off = .ref ((cs.drop off).map (frzN n σ)) := (rfl)
@[simp] theorem FZP_none (n : Nat) (σ : Heap) (id off : Nat) : FZP none n σ id off = .ptr id off := (rfl)
@[simp] theorem cellsO_none : cellsO none = none := (rfl)
@[simp] theorem frzN_ptr (n : Nat) (σ : Heap) (id off : Nat) : frzN (n + 1) σ (.ptr id off) = FZP (cellsO (σ id)) n σ id off := by
  simp only [frzN, FZP, cellsO]
  cases σ id with
  | none => rfl
  | some o => cases o <;> rfl
def FZM (o : Option (List PV)) (n : Nat) (σ : Heap) (id k off len : Nat) (full : Bool) : PV := match o with | some cs => if off + len * k ≤ cs.length then .slice full (chunks k len ((cs.drop off).map (frzN n σ))) else .msl id k off len full | none => .msl id k off len full
@[simp] theorem FZM_some (cs : List PV) (n : Nat) (σ : Heap) (id k off len : Nat) (full : Bool) : FZM (some cs) n σ id k off len full = if off + len * k ≤ cs.length then .slice full (chunks k len ((cs.drop off).map (frzN n σ))) else .msl id k off len full := (rfl)
@[simp] theorem FZM_none (n : Nat) (σ : Heap) (id k off len : Nat) (full : Bool) : FZM none n σ id k off len full = .msl id k off len full := (rfl)
@[simp] theorem frzN_msl (n : Nat) (σ : Heap) (id k off len : Nat) (full : Bool) : frzN (n + 1) σ (.msl id k off len full) = FZM (cellsO (σ id)) n σ id k off len full := by
  simp only [frzN, FZM, cellsO]
  cases σ id with
  | none => rfl
  | some o => cases o <;> rfl
@[simp] theorem frzN_fn (n : Nat) (σ : Heap) (f : Fn) (a b : List PV) : frzN (n + 1) σ (.fn f a b) = .fn f (a.map (frzN n σ)) (b.map (frzN n σ)) := (rfl)
@[simp] theorem frzN_tup (n : Nat) (σ : Heap) (a : List PV) : frzN (n + 1) σ (.tup a) = .tup (a.map (frzN n σ)) := (rfl)
@[simp] theorem frzN_agg (n : Nat) (σ : Heap) (a : List PV) : frzN (n + 1) σ (.agg a) = .agg (a.map (frzN n σ)) := (rfl)
@[simp] theorem frzN_ref (n : Nat) (σ : Heap) (a : List PV) : frzN (n + 1) σ (.ref a) = .ref (a.map (frzN n σ)) := (rfl)
@[simp] theorem frzN_gd (n : Nat) (σ : Heap) (g : Bool) (v : PV) : frzN (n + 1) σ (.gd g v) = .gd g (frzN n σ v) := (rfl)

theorem encI_one (b : Bool) (l : List Int) : ∀ r ∈ l.map (fun x => [num x]), r.length = 1 := fun r hr => by
  obtain ⟨x, _, rfl⟩ := List.mem_map.1 hr; rfl
/-- A part of a row. -/
theorem Slx_encI {σ : Heap} (ag b : Bool) (l : List Int) (k k' : IntKind) (x y : Nat) (h1 : x ≤ y) (h2 : y ≤ l.length) : Slx (some (none, 1, ag)) σ (encI b l) (some (.lit (.int k (x : Int)))) (some (.lit (.int k' (y : Int)))) none = ⟨True, encI (b && decide (y = l.length)) ((l.drop x).take (y - x))⟩ := by
  have e1 : ((y : Int) - (x : Int)).toNat = y - x := by omega
  unfold encI
  rw [Slx_rows]
  simp [h1, h2]
  congr 1
  rw [decide_eq_decide]; omega

/-- The first part of a row. -/
theorem Slx_encI0 {σ : Heap} (ag b : Bool) (l : List Int) (k' : IntKind) (y : Nat) (h2 : y ≤ l.length) : Slx (some (none, 1, ag)) σ (encI b l) none (some (.lit (.int k' (y : Int)))) none = ⟨True, encI (b && decide (y = l.length)) (l.take y)⟩ := by
  unfold encI
  rw [Slx_rows]
  simp [h2]
  congr 1
  rw [decide_eq_decide]; omega
end Go.Lo

/-
  Running code up to chosen regions: there the run stops, so that memory can be frozen ahead of a call.
-/
set_option linter.unusedSimpArgs false
set_option linter.unusedVariables false
namespace Go.Lo
open Go

/-- Code, run as 'wpc' runs it, but for the regions of a list. -/
def wpk (P : Program) (T : Tab) (rd : Bool) (n : Nat) (ks : List Nat) : Code → (PX → Fr → Heap → Prop) → Fr → Heap → Prop
  | .seq a b, Q, fr, σ => wpk P T rd n ks a (PX.thn (fun fr σ => wpk P T rd n ks b Q fr σ) Q) fr σ
  | .region id ops false, Q, fr, σ => if ks.contains id = true then pwp P rd n (.region id ops false) Q fr σ else pst P T rd n ops Q ops.toList fr σ
  | .cond c x y, Q, fr, σ => match opv fr c with
    | .lit (.bool b) => (b = true → wpk P T rd n ks x Q fr σ) ∧ (b = false → wpk P T rd n ks y Q fr σ)
    | _ => False
  | .block id c, Q, fr, σ => wpk P T rd n ks c (PX.blk id Q) fr σ
  | .ret, Q, fr, σ => Q .ret fr σ
  | .skip, Q, fr, σ => Q .normal fr σ
  | .exit id, Q, fr, σ => Q (.exit id) fr σ
  | .goto l, Q, fr, σ => Q (.goto l) fr σ
  | c, Q, fr, σ => pwp P rd n c Q fr σ

theorem pwp_runK {P : Program} {T : Tab} (hT : T.ok P) {rd : Bool} {n : Nat} {ks : List Nat} : ∀ {c : Code} {Q : PX → Fr → Heap → Prop} {fr : Fr} {σ : Heap}, wpk P T rd n ks c Q fr σ → pwp P rd n c Q fr σ := by
  intro c
  induction c with
  | seq a b iha ihb =>
    intro Q fr σ h
    refine pwp_seq (pwp_mono (iha h) fun pe fr σ k => ?_)
    cases pe <;> first | exact ihb k | exact k
  | region id ops d =>
    intro Q fr σ h
    cases d with
    | true => exact h
    | false =>
      unfold wpk at h
      split at h
      · exact h
      · exact pwp_region (pops_pst hT h)
  | cond c x y ihx ihy =>
    intro Q fr σ h
    simp only [wpk] at h
    split at h
    · rename_i b hc
      exact pwp_cond hc (fun e => ihx (h.1 e)) (fun e => ihy (h.2 e))
    · exact h.elim
  | block id c ih => intro Q fr σ h; exact pwp_block (ih h)
  | ret => intro Q fr σ h; exact pwp_ret h
  | skip => intro Q fr σ h; exact pwp_skip h
  | exit id => intro Q fr σ h; exact pwp_exit h
  | goto l => intro Q fr σ h; exact pwp_goto h
  | loop c _ => intro Q fr σ h; exact h
  | rangeFunc f ps a b _ _ => intro Q fr σ h; exact h
  | scope c _ => intro Q fr σ h; exact h
  | label l => intro Q fr σ h; exact h
  | refuse w => intro Q fr σ h; exact h

section
variable {P : Program} {T : Tab} {rd : Bool} {n : Nat} {ks : List Nat} {Q : PX → Fr → Heap → Prop} {fr : Fr} {σ : Heap}
def wK (P : Program) (T : Tab) (rd : Bool) (n : Nat) (ks : List Nat) (c : Code) (Q : PX → Fr → Heap → Prop) (fr : Fr) (σ : Heap) (_ : TgW c Q fr σ) : Prop := wpk P T rd n ks c Q fr σ
/-- Run, and stop ahead of the regions of the list. -/
theorem pwp_goK (hT : T.ok P) (ks : List Nat) {c : Code} (h : wK P T rd n ks c Q fr σ {}) : pwp P rd n c Q fr σ := pwp_runK hT h
@[simp ↓] theorem wK_seq (a b : Code) (t : TgW (.seq a b) Q fr σ) : wK P T rd n ks (.seq a b) Q fr σ t = wK P T rd n ks a (PX.thn (fun fr σ => wK P T rd n ks b Q fr σ {}) Q) fr σ {} := (rfl)
@[simp ↓] theorem wK_region (id : Nat) (l : List Oper) (t : TgW (.region id l.toArray false) Q fr σ) : wK P T rd n ks (.region id l.toArray false) Q fr σ t = IFK (ks.contains id) (pwpT P rd n (.region id l.toArray false) Q {} fr σ) (pT P T rd n l.toArray Q l fr σ {}) {} := (rfl)
@[simp ↓] theorem wK_draw (id : Nat) (ops : Array Oper) (t : TgW (.region id ops true) Q fr σ) : wK P T rd n ks (.region id ops true) Q fr σ t = pwpT P rd n (.region id ops true) Q {} fr σ := (rfl)
@[simp ↓] theorem wK_cond (c : Operand) (x y : Code) (t : TgW (.cond c x y) Q fr σ) : wK P T rd n ks (.cond c x y) Q fr σ t = CR (opv fr c) (wK P T rd n ks x Q fr σ {}) (wK P T rd n ks y Q fr σ {}) {} := (rfl)
@[simp ↓] theorem wK_block (id : Nat) (c : Code) (t : TgW (.block id c) Q fr σ) : wK P T rd n ks (.block id c) Q fr σ t = wK P T rd n ks c (PX.blk id Q) fr σ {} := (rfl)
@[simp ↓] theorem wK_ret (t : TgW .ret Q fr σ) : wK P T rd n ks .ret Q fr σ t = Q .ret fr σ := (rfl)
@[simp ↓] theorem wK_skip (t : TgW .skip Q fr σ) : wK P T rd n ks .skip Q fr σ t = Q .normal fr σ := (rfl)
@[simp ↓] theorem wK_exit (id : Nat) (t : TgW (.exit id) Q fr σ) : wK P T rd n ks (.exit id) Q fr σ t = Q (.exit id) fr σ := (rfl)
@[simp ↓] theorem wK_goto (id : Nat) (t : TgW (.goto id) Q fr σ) : wK P T rd n ks (.goto id) Q fr σ t = Q (.goto id) fr σ := (rfl)
@[simp ↓] theorem wK_loop (c : Code) (t : TgW (.loop c) Q fr σ) : wK P T rd n ks (.loop c) Q fr σ t = pwpT P rd n (.loop c) Q {} fr σ := (rfl)
@[simp ↓] theorem wK_rangeFunc (f : Operand) (ps : Array Tmp) (a b : Code) (t : TgW (.rangeFunc f ps a b) Q fr σ) : wK P T rd n ks (.rangeFunc f ps a b) Q fr σ t = pwpT P rd n (.rangeFunc f ps a b) Q {} fr σ := (rfl)
end
end Go.Lo

/-
  The program logic 'Lo', part X: regions that draw their order, by an invariant over the set of what is done. Nothing of the program.
-/
set_option linter.unusedSimpArgs false
set_option linter.unusedVariables false
namespace Go.Lo
open Go

section
variable {P : Program} {T : Tab} {rd : Bool} {n : Nat} {σ : Heap} {ops : Array Oper} {fr : Fr}

/-- Done: one more. -/
def upd (L : Nat → Bool) (i : Nat) : Nat → Bool := fun j => j == i || L j
def QI (I : (Nat → Bool) → Fr → Heap → Prop) (L : Nat → Bool) : PX → Fr → Heap → Prop
  | .normal, fr, σ => I L fr σ
  | _, _, _ => False
@[simp] theorem QI_normal (I : (Nat → Bool) → Fr → Heap → Prop) (L : Nat → Bool) (fr : Fr) (σ : Heap) : QI I L .normal fr σ = I L fr σ := (rfl)
def undone (k : Nat) (listed : Array Bool) : Nat := ((List.range k).filter fun j => !listed.getD j false).length
theorem undone_zero {k : Nat} {listed : Array Bool} (h : undone k listed = 0) : ∀ j, j < k → listed.getD j false = true := fun j hj => by
  unfold undone at h
  rw [List.length_eq_zero_iff, List.filter_eq_nil_iff] at h
  have := h j (List.mem_range.2 hj)
  simpa using this
theorem filter_one {p q : Nat → Bool} {i : Nat} (hi : p i = true) (hq : ∀ j, q j = (p j && !(j == i))) : ∀ k, i < k → ((List.range k).filter p).length = ((List.range k).filter q).length + 1 := by
  intro k
  induction k with
  | zero => intro h; omega
  | succ k ih =>
    intro h
    rw [List.range_succ, List.filter_append, List.filter_append, List.length_append, List.length_append]
    rcases Nat.lt_or_ge i k with h1 | h1
    · rw [ih h1]
      have : q k = p k := by rw [hq, show (k == i) = false by simp; omega]; simp
      simp only [List.filter_cons, List.filter_nil, this]
      omega
    · have e : i = k := by omega
      subst e
      have hs : (List.range i).filter p = (List.range i).filter q := List.filter_congr fun j hj => by
        have := List.mem_range.1 hj
        rw [hq, show (j == i) = false by simp; omega]; simp
      rw [hs]
      simp [List.filter_cons, hi, hq]
theorem undone_set {k i : Nat} {listed : Array Bool} (hi : i < k) (hs : i < listed.size) (h : listed.getD i false = false) : undone k listed = undone k (listed.setIfInBounds i true) + 1 := by
  unfold undone
  refine filter_one (i := i) (by simpa using h) (fun j => ?_) k hi
  by_cases e : j = i
  · subst e
    have := (getD_set_iff (listed := listed) (j := j) hs).2 (.inl rfl)
    rw [this]; simp
  · rw [getD_set_ne false (Ne.symm e)]
    simp [e]

theorem wpInO_postN {F : Fence} {m : Nat} {o : Oper} {a : Act} {w : World} {K K' : Act → World → Prop} {Q Q' : Exit → Act → World → Prop} (hK : ∀ a w, K a w → K' a w) (hq : ∀ e a w, e ≠ .normal → Q e a w → Q' e a w) (h : o.wpIn F m P a w K Q) : o.wpIn F m P a w K' Q' := by
  have h' := Oper.wpIn_mono hK h
  refine ⟨h'.1, ?_⟩
  have h2 := h'.2
  generalize (o.semAt F.round a.eval).run P w = r at *
  unfold Oper.uponIn at *
  split <;> rename_i hr <;> simp only at h2
  · exact h2
  · exact h2
  · exact h2
  · exact ⟨h2.1, h2.2.mono fun e w' k => by
      cases e with
      | returned v => exact k
      | panicked ch => exact hq _ _ _ (by simp) k
      | outgrown => obtain ⟨a0, w0, k⟩ := k; exact ⟨a0, w0, hq _ _ _ (by simp) k⟩⟩
  · exact h2
  · exact ⟨h2.1, h2.2.mono fun e w' k => by
      cases e with
      | returned v => exact k
      | panicked ch => exact hq _ _ _ (by simp) k
      | outgrown => obtain ⟨a0, w0, k⟩ := k; exact ⟨a0, w0, hq _ _ _ (by simp) k⟩⟩
  · exact hq _ _ _ (by simp) h2

theorem pops_drawI {k : Nat} {I : (Nat → Bool) → Fr → Heap → Prop} {Q : PX → Fr → Heap → Prop} (hlt : ∀ j, j < ops.size → ∀ p ∈ preds ops j, p < j) (hanc : ∀ t, k ≤ t → t < ops.size → ∀ p, p < t → p ∈ ancGo ops t [t]) (hk : k ≤ ops.size)
    (hI : ∀ (L : Nat → Bool) fr σ i o, i < k → ops[i]? = some o → L i = false → (∀ p ∈ preds ops i, L p = true) → I L fr σ → pops P rd n ops [o] (QI I (upd L i)) fr σ)
    (hK : ∀ (L : Nat → Bool) fr σ, (∀ i, i < k → L i = true) → I L fr σ → pops P rd n ops (ops.toList.drop k) Q fr σ) : ∀ (c : Nat) (listed : Array Bool) (fr : Fr) (σ : Heap), I (fun j => listed.getD j false) fr σ → undone k listed = c → closedL ops listed → listed.size = ops.size → (∀ j, listed.getD j false = true → j < k) →
    ∀ (G : Gh) (W : World) (A : Act) (r : Option Nat) (m base : Nat), r.isSome = rd → HRel G W σ → TRel G W n fr A.tmps → DRel base W A.defers → base ≤ W.heap.size →
      wpAnyIn (FW r) m P .any ops (Post G W σ n base Q) (c + (ops.size - k)) listed A W := by
  intro c
  induction c with
  | zero =>
    intro listed fr σ h hu hc hs hb G W A r m base h1 h2 h3 h4 h5
    have all := undone_zero hu
    have := wpAnyIn_tail (F := FW r) (m := m) (P := P) (fun _ => trivial) k hlt hanc (ops.toList.drop k) k listed A W (Nat.le_refl _) hk hs (fun j => ⟨hb j, all j⟩) rfl (hK _ fr σ all h G W A r m base h1 h2 h3 h4 h5)
    rw [List.length_drop, Array.length_toList] at this
    rw [Nat.zero_add]; exact this
  | succ c ih =>
    intro listed fr σ h hu hc hs hb G W A r m base h1 h2 h3 h4 h5
    have ex : ∃ i0, i0 < k ∧ i0 ∈ Region.ready .any ops listed := by
      by_cases hne : ∃ j, j < k ∧ listed.getD j false = false
      · obtain ⟨j, hj, hf⟩ := hne
        have : ∀ j, j < k → listed.getD j false = false → ∃ i0, i0 < k ∧ i0 ∈ Region.ready .any ops listed := by
          intro j
          induction j using Nat.strongRecOn with
          | _ j ih2 =>
            intro hj hf
            by_cases hp : ∀ p ∈ preds ops j, listed.getD p false = true
            · exact ⟨j, hj, (ready_iff hs).2 ⟨by omega, hf, hp⟩⟩
            · rw [Classical.not_forall] at hp
              obtain ⟨p, hp⟩ := hp
              rw [Classical.not_imp] at hp
              have hpj := hlt j (by omega) p hp.1
              exact ih2 p hpj (by omega) (by simpa using hp.2)
        exact this j hj hf
      · exfalso
        have : undone k listed = 0 := by
          unfold undone
          rw [List.length_eq_zero_iff, List.filter_eq_nil_iff]
          intro j hj
          have hj := List.mem_range.1 hj
          cases hx : listed.getD j false with
          | true => simp
          | false => exact absurd ⟨j, hj, hx⟩ hne
        omega
    obtain ⟨i0, hi0, hr0⟩ := ex
    rw [show c + 1 + (ops.size - k) = c + (ops.size - k) + 1 by omega]
    refine ⟨fun h0 => (by rw [h0] at hr0; cases hr0), fun i hi => ?_⟩
    obtain ⟨i1, i2, i3⟩ := (ready_iff hs).1 hi
    obtain ⟨_, j2, _⟩ := (ready_iff hs).1 hr0
    have hik : i < k := by
      rcases Nat.lt_or_ge i k with h' | h'
      · exact h'
      · have hin := hanc i h' i1 i0 (by omega)
        rcases anc_listed hc i [i] (fun j hj p hp => by simp at hj; subst hj; exact i3 p hp) i0 hin with h6 | h6
        · simp at h6; omega
        · rw [j2] at h6; cases h6
    have ho : ops[i]? = some ops[i] := by simp [i1]
    have step := hI _ fr σ i ops[i] hik ho i2 i3 h G W A r m base h1 h2 h3 h4 h5
    have eL : (fun j => (listed.setIfInBounds i true).getD j false) = upd (fun j => listed.getD j false) i := by
      funext j
      unfold upd
      by_cases e : j = i
      · subst e
        rw [(getD_set_iff (by omega)).2 (.inl rfl)]; simp
      · rw [getD_set_ne false (Ne.symm e)]; simp [e]
    have next : ∀ a w, Post G W σ n base (QI I (upd (fun j => listed.getD j false) i)) .normal a w → wpAnyIn (FW r) m P .any ops (Post G W σ n base Q) (c + (ops.size - k)) (listed.setIfInBounds i true) a w := by
      rintro a w ⟨pe, fr', σ', G', q1, q2, q3, q4, q5, q6⟩
      cases pe <;> simp only [QI] at q1
      have := ih (listed.setIfInBounds i true) fr' σ' (by rw [eL]; exact q1) (by have := undone_set hik (show i < listed.size by omega) i2; omega) (closed_set hs hc hi) (by simp [hs]) (fun j hj => by
        rw [getD_set_iff (by omega)] at hj
        rcases hj with rfl | hj
        · exact hik
        · exact hb j hj) G' w a r m base h1 q4 q5 q6 (Nat.le_trans h5 q3.size)
      exact wpAnyIn_post (fun e a w q => q.trans q3) _ _ _ _ this
    have bad : ∀ e a w, e ≠ .normal → Post G W σ n base (QI I (upd (fun j => listed.getD j false) i)) e a w → False := by
      rintro e a w hne ⟨pe, fr', σ', G', q1, q2, _⟩
      cases pe <;> simp only [QI] at q1
      cases e <;> simp only [XRel] at q2
      exact hne rfl
    unfold wpOpIn
    simp only [ho]
    simp only [wpL] at step
    split
    · rename_i hw
      rw [if_pos hw] at step
      exact wpInO_postN next (fun e a w he k => (bad e a w he k).elim) step
    · rename_i hw
      rw [if_neg hw] at step
      exact ⟨fun _ _ => trivial, next _ _ step⟩

/-- **A region that draws its order**, by an invariant over the set of what is done. -/
theorem pwp_drawI {id k : Nat} {I : (Nat → Bool) → Fr → Heap → Prop} {Q : PX → Fr → Heap → Prop} (hm : P.follows .mixedOrders = true) (hB : ((List.range ops.size).all fun j => (preds ops j).all fun p => decide (p < j)) = true) (hA : ((List.range ops.size).all fun t => decide (t < k) || ((List.range t).all fun p => (ancGo ops t [t]).contains p)) = true) (hk : k ≤ ops.size)
    (h0 : I (fun _ => false) fr σ)
    (hI : ∀ (L : Nat → Bool) fr σ i o, i < k → ops[i]? = some o → L i = false → (∀ p ∈ preds ops i, L p = true) → I L fr σ → pops P rd n ops [o] (QI I (upd L i)) fr σ)
    (hK : ∀ (L : Nat → Bool) fr σ, (∀ i, i < k → L i = true) → I L fr σ → pops P rd n ops (ops.toList.drop k) Q fr σ) : pwp P rd n (.region id ops true) Q fr σ := by
  intro G W A r m base h1 h2 h3 h4 h5
  simp only [decide_eq_true_eq, List.all_eq_true, List.mem_range, Bool.or_eq_true] at hB hA
  refine wpIn_region_any hm ?_
  have qd := QEv.drew h2
  have he := qd.evol h2
  have hf0 : ∀ j, (Array.replicate ops.size false).getD j false = false := fun j => by
    rw [Array.getD_eq_getD_getElem?, Array.getElem?_replicate]; split <;> rfl
  have hu : undone k (Array.replicate ops.size false) = k := by
    unfold undone
    rw [List.filter_eq_self.2 (fun j _ => by rw [hf0 j]; rfl)]; simp
  have := pops_drawI (rd := rd) (Q := Q) (k := k) (I := I) hB (fun t h1 h2 p hp => by
    rcases hA t h2 with h6 | h6
    · omega
    · simpa using h6 p hp) hk hI hK k (Array.replicate ops.size false) fr σ (by rw [show (fun j => (Array.replicate ops.size false).getD j false) = fun _ => false from funext hf0]; exact h0) hu (fun j hj => by
      rw [hf0 j] at hj; cases hj) (by simp) (fun j hj => by
      rw [hf0 j] at hj; cases hj) G W.drew A r m base h1 (qd.hrel h2) (h3.mono (he.ext h2)) (h4.evol h2 he) (Nat.le_trans h5 he.size)
  rw [show k + (ops.size - k) = ops.size by omega] at this
  exact wpAnyIn_post (fun e a w q => q.trans he) _ _ _ _ this
end

/-- .. and the new memory is new. -/
theorem own_appendF {P : Program} {σ : Heap} {k b : Nat} {v y : PV} {rows new : List (List PV)} {t t2 : TypeId} {zs : List PV} {C : PV → Heap → Prop} (h : Own k σ v rows) (he : elemB P t = some (b, zs)) (hb : b ≤ 4096) (hk : zs.length = k) (h0 : 0 < k) (hs : isSliceT P t2 = true)
    (hy : (yv σ k y).D ∧ (yv σ k y).n = new.length ∧ (yv σ k y).cs = new.flatten) (hnew : ∀ r ∈ new, r.length = k ∧ ∀ c ∈ r, isCell1 c = true) (hmax : rows.length + new.length ≤ 4294967296)
    (hC : ∀ V σ', Own k σ' V (rows ++ new) → Keeps v σ σ' → (new ≠ [] → ∃ id, V = .msl id k 0 (rows ++ new).length false ∧ σ' id = some (.cells (rows ++ new).flatten) ∧ σ id = none) → C V σ') : appendP P σ t t2 v y C := by
  have hrows : ∀ r ∈ rows ++ new, r.length = k := fun r hr => (List.mem_append.1 hr).elim (h.1 r) fun x => (hnew r x).1
  have hone : ∀ c ∈ new.flatten, isCell1 c = true := fun c hc => by obtain ⟨r, h1, h2⟩ := List.mem_flatten.1 hc; exact (hnew r h1).2 c h2
  obtain ⟨x1, x2, x3⟩ := own_yv h
  obtain ⟨y1, y2, y3⟩ := hy
  unfold appendP
  rw [he]
  simp only [hk]
  refine ⟨hs, hb, by rw [← List.length_pos_iff, hk]; exact h0, y1, x1, by rw [x2, y2]; exact hmax, ?_⟩
  have fresh : ∀ id, σ id = none → C (.msl id k 0 (rows.length + new.length) false) (σ.set id (.cells (rows.flatten ++ new.flatten))) := fun id hid =>
    hC _ _ ⟨hrows, .inr (.inl ⟨id, false, by simp, by simp [Heap.set]⟩)⟩ (fun j hj _ => by
      have : j ≠ id := fun e => hj (e ▸ hid)
      simp [Heap.set, this]) fun _ => ⟨id, by simp, by simp [Heap.set], hid⟩
  have same : new.length = 0 → C v σ := fun e => by
    have : new = [] := List.length_eq_zero_iff.1 e
    subst this
    exact hC _ _ (by simpa using h) (fun _ _ _ => rfl) fun h => absurd rfl h
  rcases h.2 with ⟨rfl, rfl⟩ | ⟨id0, full, rfl, ho⟩ | rfl
  · simp only
    rw [y2, x2, y3, x3]
    exact ⟨same, fun _ => fresh⟩
  · cases full with
    | true =>
      simp only
      rw [y2, x2, y3, x3]
      exact ⟨same, fun _ => fresh⟩
    | false =>
      have hl := (flatten_getD h.1).1
      simp only [ho]
      rw [y2, y3, x3]
      refine ⟨by rw [hl]; omega, hone, fun id hid => ?_⟩
      refine hC _ _ ⟨hrows, .inr (.inl ⟨id, false, by simp, by simp [Heap.set]⟩)⟩ (fun j hj hv => ?_) fun _ => ⟨id, by simp, by simp [Heap.set], hid⟩
      have h1 : j ≠ id := fun e => hj (e ▸ hid)
      have h2 : j ≠ id0 := fun e => hv _ _ _ _ (by rw [e])
      simp [Heap.set, Heap.del, h1, h2]
  · simp only
    rw [y2, x2, y3, x3]
    exact ⟨same, fun _ => fresh⟩

end Go.Lo

/-
  The program logic 'Lo', part Y: structs of any number of fields, read as plain data. Nothing of the program.
-/
set_option linter.unusedSimpArgs false
set_option linter.unusedVariables false
namespace Go.Lo
open Go

section
variable {P : Program}
def sizeF (P : Program) : List (TypeId × Nat) → Nat
  | [] => 0
  | f :: fs => P.cellsOf f.1 + sizeF P fs
/-- A struct with fields of these types at these places. -/
def structIs (P : Program) (t : TypeId) (l : List (TypeId × Nat)) : Bool := match P.underlying t with
  | some (.struct fs) => (fs.toList.map fun f => (f.type, f.offset)) == l && P.cellsOf t == sizeF P l
  | _ => false
theorem structIs_get {t : TypeId} {l : List (TypeId × Nat)} (h : structIs P t l = true) : ∃ fs, P.underlying t = some (.struct fs) ∧ (fs.toList.map fun f => (f.type, f.offset)) = l ∧ P.cellsOf t = sizeF P l := by
  unfold structIs at h
  split at h
  · rename_i fs hu
    rw [Bool.and_eq_true] at h
    exact ⟨fs, hu, by simpa using h.1, by simpa using h.2⟩
  · cases h
/-- Fields that lie one behind the other, from 'off' on. -/
def ReadsF (P : Program) (fs : List (TypeId × Nat)) (off : Nat) (α : Type) (enc : α → List PV) (wf : α → Prop) : Prop :=
  ∀ {H : Type} (en : TypeId × Value → H) (W : World) (sp : Nat → Bool) (hd : Bool) (n : Nat) (cs : List Value), off + sizeF P fs ≤ cs.length →
    (∀ (i : Nat) (f : TypeId × Nat), fs[i]? = some f → ∃ x : DataW H × List MemPlace, DataW.trod en P W 0 sp hd n f.1 ((cs.drop f.2).take (P.cellsOf f.1)) = some x) → ∃ a, wf a ∧ CRel (G0 W) W (enc a) ((cs.drop off).take (sizeF P fs))
theorem readsF_nil {off : Nat} : ReadsF P [] off Unit (fun _ => []) (fun _ => True) := fun en W sp hd n cs h _ => ⟨(), trivial, by simp [sizeF], fun i hi => by simp [sizeF] at hi⟩
theorem CRel.append {G : Gh} {W : World} {ps qs : List PV} {vs ws : List Value} (h : CRel G W ps vs) (k : CRel G W qs ws) : CRel G W (ps ++ qs) (vs ++ ws) := by
  refine ⟨by rw [List.length_append, List.length_append, h.1, k.1], fun i hi => ?_⟩
  rw [List.length_append] at hi
  rcases Nat.lt_or_ge i vs.length with h1 | h1
  · have := h.2 i h1
    simp only [List.getD] at this ⊢
    rw [List.getElem?_append_left (by rw [h.1]; exact h1), List.getElem?_append_left h1]; exact this
  · have := k.2 (i - vs.length) (by omega)
    simp only [List.getD] at this ⊢
    rw [List.getElem?_append_right (by rw [h.1]; exact h1), List.getElem?_append_right h1, h.1]; exact this
theorem readsF_cons {t : TypeId} {fs : List (TypeId × Nat)} {off k : Nat} {α β : Type} {ea : α → List PV} {wa : α → Prop} {eb : β → List PV} {wb : β → Prop} (hk : P.cellsOf t = k) (ra : Reads P t α ea wa) (rb : ReadsF P fs (off + k) β eb wb) :
    ReadsF P ((t, off) :: fs) off (α × β) (fun x => ea x.1 ++ eb x.2) (fun x => wa x.1 ∧ wb x.2) := fun en W sp hd n cs hl h => by
  simp only [sizeF] at hl
  obtain ⟨x, hx⟩ := h 0 (t, off) rfl
  obtain ⟨a, a1, a2⟩ := ra en W sp hd n _ _ hx
  obtain ⟨b, b1, b2⟩ := rb en W sp hd n cs (by omega) (fun i g hg => h (i + 1) g hg)
  refine ⟨(a, b), ⟨a1, b1⟩, ?_⟩
  have e : (cs.drop off).take (sizeF P ((t, off) :: fs)) = (cs.drop off).take (P.cellsOf t) ++ (cs.drop (off + k)).take (sizeF P fs) := by
    simp only [sizeF]
    rw [List.take_add, List.drop_drop, hk]
  rw [e]
  exact a2.append b2
theorem reads_struct {t : TypeId} {l : List (TypeId × Nat)} {α : Type} {enc : α → List PV} {wf : α → Prop} (ht : structIs P t l = true) (h : ReadsF P l 0 α enc wf) : Reads P t α enc wf := fun en W sp hd fuel cs x hx => by
  obtain ⟨fs, hu, hl, hs⟩ := structIs_get ht
  obtain ⟨xs, n, rfl, rfl, hcl, hxs, hf⟩ := DataW.trod_struct hu hx
  obtain ⟨a, a1, a2⟩ := h en W sp hd n cs (by omega) (fun i f hi => by
    rw [← hl, List.getElem?_map, Option.map_eq_some_iff] at hi
    obtain ⟨g, hg, rfl⟩ := hi
    have := hf i g (by simpa using hg)
    have hix : i < xs.length := by
      rw [hxs]
      rcases Nat.lt_or_ge i fs.toList.length with q | q
      · simpa using q
      · rw [List.getElem?_eq_none q] at hg; cases hg
    rw [List.getElem?_eq_getElem hix] at this
    exact ⟨_, this⟩)
  refine ⟨a, a1, ?_⟩
  rw [List.drop_zero, List.take_of_length_le (by omega)] at a2
  exact a2
theorem readsV_struct {t : TypeId} {l : List (TypeId × Nat)} {α : Type} {enc : α → List PV} {wf : α → Prop} (ht : structIs P t l = true) (h : ReadsF P l 0 α enc wf) : ReadsV P t α (fun a => .agg (enc a)) wf := by
  obtain ⟨fs, hu, _, _⟩ := structIs_get ht
  exact readsV_agg hu (reads_struct ht h)
end
end Go.Lo

/-
  The program logic 'Lo', part Z: maps whose keys are scalars, or structs and arrays of scalars. Nothing of the program.
-/
set_option linter.unusedSimpArgs false
set_option linter.unusedVariables false
namespace Go.Lo
open Go

section
variable {P : Program} {rd : Bool} {n : Nat} {fr : Fr} {σ : Heap} {G : Gh} {W : World}

/-! ### Keys -/
/-- Equality of keys. -/
def kEq (P : Program) (t : TypeId) (a b : PV) : EV :=
  match a, b with
  | .agg cs, .agg ds => evEq P t cs ds
  | .lit a, .lit b => match P.underlying t with
    | some ty => ⟨scalarD ty = true ∧ litFit ty (.lit a) ∧ litFit ty (.lit b), .lit (.bool (litEq (.lit a) (.lit b)))⟩
    | none => .no
  | _, _ => .no
def boolP : PV → Bool
  | .lit (.bool b) => b
  | _ => false
theorem kEq_run {t : TypeId} {a b : PV} {v w : Value} (hv : VRel G W a v) (hw : VRel G W b w) (h : (kEq P t a b).D) : (Op.equal t v w).run P W = .ok (boolP (kEq P t a b).V) W := by
  unfold kEq at h ⊢
  split at h
  · obtain ⟨_, _, b, h1, h2⟩ := evEq_run hv hw h
    rw [h2]; exact h1
  · split at h
    · rename_i ty ht
      exact litEq_run (d := 9999) ht h.2.1 h.2.2 hv hw
    · exact h.elim
  · exact h.elim

/-- The first entry with a key. -/
def mfind (P : Program) (t : TypeId) (k : PV) : List (PV × PV) → Nat → Option (Nat × PV)
  | [], _ => none
  | e :: es, i => if boolP (kEq P t k e.1).V then some (i, e.2) else mfind P t k es (i + 1)
def FRel (G : Gh) (W : World) : Option (Nat × PV) → Option (Nat × Value) → Prop
  | none, none => True
  | some (i, p), some (j, v) => i = j ∧ VRel G W p v
  | _, _ => False
def ERel (G : Gh) (W : World) (es : List (PV × PV)) (ms : List MapEntry) : Prop :=
  ms.length = es.length ∧ ∀ i, i < es.length → VRel G W ((es.getD i (.any, .any)).1) ((ms.getD i default).key) ∧ VRel G W ((es.getD i (.any, .any)).2) ((ms.getD i default).val)
theorem ERel.tail {e : PV × PV} {es : List (PV × PV)} {m : MapEntry} {ms : List MapEntry} (h : ERel G W (e :: es) (m :: ms)) : VRel G W e.1 m.key ∧ VRel G W e.2 m.val ∧ ERel G W es ms := by
  have h0 := h.2 0 (by simp)
  refine ⟨h0.1, h0.2, by simpa using h.1, fun i hi => ?_⟩
  have := h.2 (i + 1) (by simpa using hi)
  simpa using this
theorem findAsking_run {t : TypeId} {k : PV} {v : Value} (hk : VRel G W k v) : ∀ (es : List (PV × PV)) (ms : List MapEntry) (i : Nat), ERel G W es ms → (∀ e ∈ es, (kEq P t k e.1).D) →
    ∃ r, (Instr.findAsking t v ms i).run P W = .ok r W ∧ FRel G W (mfind P t k es i) r := by
  intro es
  induction es with
  | nil =>
    intro ms i h _
    have : ms = [] := List.length_eq_zero_iff.1 (by simpa using h.1)
    subst this
    exact ⟨none, by simp [Instr.findAsking, go_sem], trivial⟩
  | cons e es ih =>
    intro ms i h hD
    obtain ⟨m, ms', rfl⟩ : ∃ m ms', ms = m :: ms' := by
      cases ms with
      | nil => have := h.1; simp at this
      | cons m ms' => exact ⟨m, ms', rfl⟩
    obtain ⟨h1, h2, h3⟩ := h.tail
    have hr := kEq_run hk h1 (hD e (List.mem_cons_self ..))
    unfold Instr.findAsking
    simp only [Sem.run_bind, hr, Result.andThen_ok, mfind]
    cases hb : boolP (kEq P t k e.1).V with
    | true => exact ⟨some (i, m.val), by simp [go_sem], rfl, h2⟩
    | false =>
      obtain ⟨r, r1, r2⟩ := ih ms' (i + 1) h3 (fun x hx => hD x (List.mem_cons_of_mem _ hx))
      exact ⟨r, by simpa using r1, by simpa using r2⟩
theorem sameNow_run {t : TypeId} {td : TypeDesc} {v w : Value} {b : Bool} (ht : P.underlying t = some td) (h : Instr.sameNow td v w = some b) : (Op.equal t v w).run P W = .ok b W := by
  unfold Instr.sameNow at h
  rw [Op.equal, Op.maxDepth, show (10000 : Nat) = 9999 + 1 from rfl]
  generalize (9999 : Nat) = d
  split at h
  · split at h
    · cases h
      rename_i hk
      simp [Op.equalIn, underlying, ht, go_sem, program, Sem.run_bind, Sem.run, hk]
    · cases h
  · cases h; simp [Op.equalIn, underlying, ht, go_sem, program, Sem.run_bind, Sem.run]
  · cases h; simp [Op.equalIn, underlying, ht, go_sem, program, Sem.run_bind, Sem.run]
  · cases h
theorem findNow_ask {t : TypeId} {td : TypeDesc} {v : Value} (ht : P.underlying t = some td) : ∀ (ms : List MapEntry) (i : Nat) (r : Option (Nat × Value)), Instr.findNow td v ms i = some r → (Instr.findAsking t v ms i).run P W = .ok r W := by
  intro ms
  induction ms with
  | nil => intro i r h; simp [Instr.findNow] at h; subst h; simp [Instr.findAsking, go_sem]
  | cons m ms ih =>
    intro i r h
    unfold Instr.findNow at h
    unfold Instr.findAsking
    split at h
    · rename_i hs
      cases h
      simp [Sem.run_bind, sameNow_run ht hs, go_sem]
    · rename_i hs
      simp [Sem.run_bind, sameNow_run ht hs, ih _ _ h]
    · cases h
theorem findKey_run {t : TypeId} {td : TypeDesc} {k : PV} {v : Value} (ht : P.underlying t = some td) (hk : VRel G W k v) {es : List (PV × PV)} {ms : List MapEntry} (h : ERel G W es ms) (hD : ∀ e ∈ es, (kEq P t k e.1).D) :
    ∃ r, (Instr.findKey t v ms).run P W = .ok r W ∧ FRel G W (mfind P t k es 0) r := by
  obtain ⟨r, r1, r2⟩ := findAsking_run hk es ms 0 h hD
  refine ⟨r, ?_, r2⟩
  unfold Instr.findKey
  simp only [Sem.run_bind, run_underlying ht, Result.andThen_ok]
  cases hn : Instr.findNow td v ms 0 with
  | none => exact r1
  | some q =>
    have := findNow_ask (W := W) ht ms 0 q hn
    rw [r1] at this
    cases this
    simp [go_sem]
theorem checkKey_scalar {t : TypeId} {ty : TypeDesc} {b : Bool} {d : Nat} {v : Value} (ht : P.underlying t = some ty) (hs : scalarD ty = true) : (Instr.checkKey b (d + 1) t v).run P W = .ok () W := by
  unfold Instr.checkKey
  simp only [Sem.run_bind, run_underlying ht, Result.andThen_ok]
  cases ty <;> simp [scalarD] at hs <;> simp [go_sem]
theorem checkFields_run {b : Bool} {d : Nat} {cs : List PV} {vs : Array Value} (h1 : vs.size = cs.length) : ∀ (fs : List Field) (l : List (Nat × TypeDesc)), (fs.mapM fun f => if f.name = "_" then none else
      match P.underlying f.type with
      | some ty => if scalarD ty then some (f.offset, ty) else none
      | none => none) = some l → (∀ x ∈ l, litFit x.2 (cs.getD x.1 .any)) →
      (forIn fs PUnit.unit (fun f __s =>
            if f.name ≠ "_" then do
              let __do_lift ← part f.type vs f.offset
              Instr.checkKey b (d + 1) f.type __do_lift
              pure (ForInStep.yield PUnit.unit)
            else pure (ForInStep.yield PUnit.unit)) : Sem PUnit).run P W = .ok PUnit.unit W := by
  intro fs
  induction fs with
  | nil => intro l _ _; simp [go_sem]
  | cons f fs ih =>
    intro l hl hf
    rw [List.mapM_cons] at hl
    split at hl
    · simp at hl
    rename_i hn
    split at hl
    · rename_i ty hty
      split at hl
      · rename_i hs
        simp only [Option.pure_def, Option.bind_eq_bind, Option.bind_some] at hl
        obtain ⟨l', hl', he⟩ := Option.bind_eq_some_iff.1 hl
        simp at he; subst he
        have r1 := part_scalar (P := P) (W := W) hty hs h1 (hf _ (List.mem_cons_self ..))
        have r2 := checkKey_scalar (P := P) (W := W) (b := b) (d := d) (v := vs.getD f.offset undef) hty hs
        have r4 := ih l' hl' (fun x hx => hf x (List.mem_cons_of_mem _ hx))
        rw [List.forIn_cons]
        simp only [ne_eq, hn, not_false_eq_true, if_true, Sem.run_bind, r1, r2, Result.andThen_ok, Sem.run_pure]
        exact r4
      · simp at hl
    · simp at hl
theorem checkKey_struct {t : TypeId} {b : Bool} {d : Nat} {cs : List PV} {v : Value} {fs : Array Field} (ht : P.underlying t = some (.struct fs)) (hv : VRel G W (.agg cs) v) (h : (evEq P t cs cs).D) : (Instr.checkKey b (d + 1 + 1) t v).run P W = .ok () W := by
  cases hv with
  | agg _ vs h1 h2 =>
  unfold evEq at h
  cases hl : eqS P t with
  | none => rw [hl] at h; exact h.elim
  | some l =>
  rw [hl] at h
  simp only at h
  unfold eqS at hl
  split at hl
  · cases hl
  rw [ht] at hl
  simp only at hl
  split at hl
  · cases hl
  unfold Instr.checkKey
  simp only [Sem.run_bind, run_underlying ht, Result.andThen_ok]
  rw [← Array.forIn_toList, checkFields_run h1 fs.toList l hl fun x hx => (h x hx).1]
  simp [go_sem]
def keyT (P : Program) (t : TypeId) : Bool := match P.underlying t with
  | some (.struct _) => true
  | some ty => scalarD ty
  | none => false
theorem checkKey_run {t : TypeId} {b : Bool} {k : PV} {v : Value} (ht : keyT P t = true) (hv : VRel G W k v) (h : (kEq P t k k).D) : (Instr.checkKey b 10000 t v).run P W = .ok () W := by
  rw [show (10000 : Nat) = 9998 + 1 + 1 from rfl]
  generalize (9998 : Nat) = d
  unfold keyT at ht
  cases k with
  | agg cs =>
    split at ht
    · rename_i fs hu; exact checkKey_struct hu hv h
    · rename_i ty hn hu; exact checkKey_scalar hu ht
    · cases ht
  | lit a =>
    unfold kEq at h
    cases hu : P.underlying t with
    | none => simp only [hu] at h; exact h.elim
    | some ty => simp only [hu] at h; exact checkKey_scalar hu h.1
  | _ => exact h.elim

/-! ### Looking up -/
/-- A zero value of one cell. -/
def zeroL (P : Program) (t : TypeId) : Option Value := (P.info? t).bind (·.zero)
theorem zeroL_run {t : TypeId} {v : Value} (h : zeroL P t = some v) : (zeroValue t).run P W = .ok v W := by
  unfold zeroL at h
  cases hi : P.info? t with
  | none => simp [hi] at h
  | some i =>
    simp [hi] at h
    simp [zeroValue, typeInfo, Sem.run_bind, hi, h, program, Sem.run]
def mapT (P : Program) (t : TypeId) : Option (TypeId × TypeId) := match P.underlying t with
  | some (.map k e) => some (k, e)
  | _ => none
theorem mapT_some {t k e : TypeId} (h : mapT P t = some (k, e)) : P.underlying t = some (.map k e) := by
  unfold mapT at h
  split at h
  · rename_i a b hu; cases h; exact hu
  · cases h
/-- What a lookup yields. -/
def evLook (P : Program) (σ : Heap) (t : TypeId) (m k : PV) : EV :=
  match m, mapT P t with
  | .map id, some (kt, et) => match σ id, zeroL P et with
    | some (.map es), some z => ⟨keyT P kt = true ∧ (kEq P kt k k).D ∧ ∀ e ∈ es, (kEq P kt k e.1).D, match mfind P kt k es 0 with | some (_, p) => p | none => .lit z⟩
    | _, _ => .no
  | _, _ => .no
theorem keyT_some {t : TypeId} (h : keyT P t = true) : ∃ td, P.underlying t = some td := by
  unfold keyT at h
  split at h
  · exact ⟨_, by assumption⟩
  · exact ⟨_, by assumption⟩
  · cases h
theorem erel_obj {es : List (PV × PV)} {ms : Array MapEntry} (h1 : ms.size = es.length) (h2 : ∀ i, i < es.length → VRel G W ((es.getD i (.any, .any)).1) ((ms.getD i default).key) ∧ VRel G W ((es.getD i (.any, .any)).2) ((ms.getD i default).val)) : ERel G W es ms.toList :=
  ⟨by simpa using h1, fun i hi => by
    have := h2 i hi
    have e : ms.toList.getD i default = ms.getD i default := by simp [List.getD, Array.getD_eq_getD_getElem?]
    rw [e]; exact this⟩
theorem evLook_run (hr : HRel G W σ) {t : TypeId} {m k : PV} {x v : Value} (hx : VRel G W m x) (hk : VRel G W k v) (h : (evLook P σ t m k).D) : ∃ u, (Instr.lookup t x v false).run P W = .ok u W ∧ VRel G W (evLook P σ t m k).V u := by
  unfold evLook at h ⊢
  split at h
  · rename_i id kt et hmt
    split at h
    · rename_i es z ho hz
      obtain ⟨h1, h2, h3⟩ := h
      have hu := mapT_some hmt
      cases hx with
      | map _ R hb =>
      obtain ⟨loc, l1, l2, _⟩ := hr.obj id _ ho
      rw [hb] at l1; cases l1
      obtain ⟨_, ms, clock, g1, g2, g3⟩ := l2
      obtain ⟨td, htd⟩ := keyT_some h1
      obtain ⟨r, r1, r2⟩ := findKey_run (P := P) htd hk (erel_obj g2 g3) h3
      have hck := checkKey_run (P := P) (W := W) (b := ms.isEmpty) h1 hk h2
      unfold Instr.lookup
      simp only at g1
      simp only [Sem.run_bind, run_underlying hu, Result.andThen_ok, getObj, Sem.run, g1, hck, r1]
      rw [Sem.run_pure, Result.andThen_ok, hck, Result.andThen_ok, r1, Result.andThen_ok]
      cases hm : mfind P kt k es 0 with
      | none =>
        rw [hm] at r2
        cases r with
        | some q => exact r2.elim
        | none => exact ⟨z, by simp [Sem.run_bind, zeroL_run hz, go_sem], .lit z⟩
      | some q =>
        obtain ⟨i, p⟩ := q
        rw [hm] at r2
        cases r with
        | none => exact r2.elim
        | some q => exact ⟨q.2, by simp [Sem.run_bind, go_sem], r2.2⟩
    · exact h.elim
  · exact h.elim

/-! ### Making a map, setting an entry -/
theorem gop_makeMap {o : Oper} {t : TypeId} {K : Out → Heap → Prop} (ho : o.op = .makeMap t none) (h : ∀ id, σ id = none → K (.val (.map id)) (σ.set id (.map []))) : gop P rd n o fr σ K := by
  intro G W A r m _ h2 h3 next Q hn _
  obtain ⟨id, f1, f2⟩ := fresh_id h2
  obtain ⟨k1, k2⟩ := new_obj h2 f1 (.map #[] 0) (.map []) ⟨rfl, #[], 0, heap_alloc_new W _, rfl, fun i hi => by simp at hi⟩
  have e1 : (execOp A.eval o).run P W = .ok (.value (.map (some W.heap.size))) (W.alloc (.map #[] 0)) := by
    simp [execOp, ho, Instr.makeMap, newObj, go_sem, Sem.run_bind, Sem.run]
  exact wpIn_value (fun c hd => by rw [ho] at hd; cases hd) e1 (hn _ _ _ _ _ (h id f2) k2 k1 (.map id _ (bind_same _ _ _)))

/-- Keys that are the same bit by bit when they are equal. -/
def plainL : PV → Bool
  | .lit (.int _ _) | .lit (.bool _) => true
  | _ => false
def plainK : PV → Bool
  | .agg cs => cs.all plainL
  | k => plainL k
theorem plainL_same {k : PV} {v w : Value} {d : Nat} (h : plainL k = true) (hv : VRel G W k v) (hw : VRel G W k w) : Instr.sameBits d v w = true := by
  unfold plainL at h
  split at h
  · cases hv; cases hw; simp [Instr.sameBits]
  · cases hv; cases hw; simp [Instr.sameBits]
  · cases h
theorem plainK_same {k : PV} {v w : Value} {d : Nat} (h : plainK k = true) (hv : VRel G W k v) (hw : VRel G W k w) : Instr.sameBits (d + 1) v w = true := by
  cases k with
  | agg cs =>
    cases hv with
    | agg _ vs h1 h2 =>
    cases hw with
    | agg _ ws h3 h4 =>
    unfold Instr.sameBits
    simp only [h1, h3, beq_self_eq_true, Bool.true_and, List.all_eq_true]
    rintro ⟨x, y⟩ hxy
    obtain ⟨i, hi, he⟩ := List.getElem_of_mem hxy
    rw [List.getElem_zip] at he
    have hiv : i < vs.size := by simp at hi; omega
    have hiw : i < ws.size := by simp at hi; omega
    have hic : i < cs.length := by omega
    cases he
    have e1 : vs.getD i undef = vs[i] := by simp [hiv]
    have e2 : ws.getD i undef = ws[i] := by simp [hiw]
    have r1 := h2 i hic
    have r2 := h4 i hic
    rw [e1] at r1
    rw [e2] at r2
    have hp : plainL (cs.getD i .any) = true := by
      have : cs.getD i .any = cs[i] := by simp [hic]
      rw [this]
      exact List.all_eq_true.1 h _ (List.getElem_mem hic)
    simpa using plainL_same (d := d) hp r1 r2
  | _ => refine plainL_same ?_ hv hw; exact h
def updE (P : Program) (t : TypeId) (k v : PV) (es : List (PV × PV)) : List (PV × PV) :=
  match mfind P t k es 0 with
  | some (i, _) => es.set i (k, v)
  | none => es ++ [(k, v)]
theorem mfind_spec {t : TypeId} {k : PV} : ∀ (es : List (PV × PV)) (i0 i : Nat) (p : PV), mfind P t k es i0 = some (i, p) → ∃ j, i = i0 + j ∧ ∃ h : j < es.length, boolP (kEq P t k es[j].1).V = true := by
  intro es
  induction es with
  | nil => intro i0 i p h; cases h
  | cons e es ih =>
    intro i0 i p h
    unfold mfind at h
    split at h
    · rename_i hb; cases h; exact ⟨0, rfl, by simp, hb⟩
    · obtain ⟨j, e1, h1, h2⟩ := ih _ _ _ h
      exact ⟨j + 1, by omega, by simpa using h1, by simpa using h2⟩
/-- What setting an entry leaves. -/
def updP (P : Program) (σ : Heap) (t : TypeId) (m k v : PV) (C : Heap → Prop) : Prop :=
  match m, mapT P t with
  | .map id, some (kt, _) => match σ id with
    | some (.map es) => keyT P kt = true ∧ plainK k = true ∧ (kEq P kt k k).D ∧ (∀ e ∈ es, (kEq P kt k e.1).D) ∧ (∀ e ∈ es, boolP (kEq P kt k e.1).V = true → e.1 = k) ∧ C (σ.set id (.map (updE P kt k v es)))
    | _ => False
  | _, _ => False
theorem updP_mono {t : TypeId} {m k v : PV} {C C' : Heap → Prop} (hC : ∀ σ', C σ' → C' σ') (h : updP P σ t m k v C) : updP P σ t m k v C' := by
  unfold updP at h ⊢
  split at h
  · rename_i id kt et hmt
    split at h
    · rename_i es hs
      (try simp only [hmt, hs]); exact ⟨h.1, h.2.1, h.2.2.1, h.2.2.2.1, h.2.2.2.2.1, hC _ h.2.2.2.2.2⟩
    · exact h.elim
  · exact h.elim
theorem setMap_run {R : Nat} {ms : Array MapEntry} {c : Nat} {ob : Obj} (h : W.heap[R]? = some (.map ms c)) : (setObj R ob).run P W = .ok () (W.putObj R ob) := by
  simp [setObj, Sem.run, h]
  rfl
theorem keyStays_run {v w : Value} (h : Instr.sameBits 10000 v w = true) : (Instr.keyThatStays v w).run P W = .ok w W := by
  unfold Instr.keyThatStays
  rw [if_pos h]; simp [go_sem]
theorem gop_mapUpdate {o : Oper} {t : TypeId} {m k x : Operand} {K : Out → Heap → Prop} (ho : o.op = .mapUpdate t m k x ∨ o.op = .insert t m k x) (hm : avt (opv fr m)) (hk : avt (opv fr k)) (hx : avt (opv fr x))
    (h : updP P σ t (sv (opv fr m)) (sv (opv fr k)) (sv (opv fr x)) fun σ' => K (.val (.lit undef)) σ') : gop P rd n o fr σ K := by
  intro G W A r mm _ h2 h3 next Q hn _
  have vm := sv_rel (opv_rel h3 m) hm
  have vk := sv_rel (opv_rel h3 k) hk
  have vx := sv_rel (opv_rel h3 x) hx
  generalize hmv : A.eval m = mv at vm
  generalize hkv : A.eval k = kv at vk
  generalize hxv : A.eval x = xv at vx
  generalize sv (opv fr m) = pm at vm h
  generalize sv (opv fr k) = pk at vk h
  generalize sv (opv fr x) = px at vx h
  unfold updP at h
  split at h
  · rename_i id kt et hmt
    split at h
    · rename_i es hs
      obtain ⟨c1, c2, c3, c4, c5, hK⟩ := h
      have hu := mapT_some hmt
      cases vm with
      | map _ R hb =>
      obtain ⟨loc, l1, l2, l3⟩ := h2.obj id _ hs
      rw [hb] at l1; cases l1
      obtain ⟨_, ms, clock, g1, g2, g3⟩ := l2
      simp only at g1
      obtain ⟨td, htd⟩ := keyT_some c1
      obtain ⟨q, r1, r2⟩ := findKey_run (P := P) htd vk (erel_obj g2 g3) c4
      have hck := checkKey_run (P := P) (W := W) (b := false) c1 vk c3
      have key : ∃ ms' clock', (Instr.mapUpdate t (.map (some R)) kv xv).run P W = .ok () (W.putObj R (.map ms' clock')) ∧ ms'.size = (updE P kt pk px es).length ∧
          ∀ i, i < (updE P kt pk px es).length → VRel G W (((updE P kt pk px es).getD i (.any, .any)).1) ((ms'.getD i default).key) ∧ VRel G W (((updE P kt pk px es).getD i (.any, .any)).2) ((ms'.getD i default).val) := by
        unfold Instr.mapUpdate updE
        simp only [Sem.run_bind, run_underlying hu, Result.andThen_ok, getObj, Sem.run, g1]
        simp only [hck, Result.andThen_ok, r1]
        cases hm : mfind P kt pk es 0 with
        | none =>
          rw [hm] at r2
          cases q with
          | some q => exact r2.elim
          | none =>
            refine ⟨ms.push { key := kv, val := xv, born := clock }, clock + 1, setMap_run g1, by simp [g2], fun i hi => ?_⟩
            simp only [List.length_append, List.length_singleton] at hi
            by_cases hil : i < es.length
            · have := g3 i hil
              have hi2 : i < ms.size := by omega
              simp only [List.getD, List.getElem?_append_left hil, Array.getD_eq_getD_getElem?, Array.getElem?_push_lt hi2] at this ⊢
              simpa [hi2] using this
            · have hie : i = es.length := by omega
              subst hie
              rw [← g2]
              simp only [List.getD, g2, List.getElem?_append_right (Nat.le_refl _), Nat.sub_self, List.getElem?_cons_zero, Option.getD_some]
              rw [← g2, Array.getD_eq_getD_getElem?, Array.getElem?_push_size]
              exact ⟨vk, vx⟩
        | some w =>
          obtain ⟨i, p⟩ := w
          rw [hm] at r2
          cases q with
          | none => exact r2.elim
          | some q =>
            obtain ⟨i', u⟩ := q
            obtain ⟨rfl, _⟩ := r2
            obtain ⟨j, e1, hj, hje⟩ := mfind_spec es 0 i p hm
            have e1 : i = j := by omega
            subst e1
            have hjm : i < ms.size := by omega
            have hkk := c5 _ (List.getElem_mem hj) hje
            have h0 := (g3 i hj).1
            have d1 : es.getD i (.any, .any) = es[i] := by simp [hj]
            have d2 : ms.getD i default = ms[i] := by simp [hjm]
            rw [d1, d2, hkk] at h0
            have hst := keyStays_run (P := P) (W := W) (plainK_same (d := 9999) c2 h0 vk)
            have e2 : ((Option.map (fun x => x.key) ms[i]?).getD kv) = ms[i].key := by simp [hjm]
            refine ⟨ms.modify i fun e => { e with key := kv, val := xv }, clock, ?_, by simp [g2], fun a ha => ?_⟩
            · simp only [Sem.run_bind, e2, hst, Result.andThen_ok]
              exact setMap_run g1
            · simp only [List.length_set] at ha
              have := g3 a ha
              have ham : a < ms.size := by omega
              by_cases hai : i = a
              · subst hai
                simp only [List.getD, List.getElem?_set_self ha, Option.getD_some, Array.getD_eq_getD_getElem?, Array.getElem?_modify, if_true, Array.getElem?_eq_getElem ham, Option.map_some]
                exact ⟨vk, vx⟩
              · simp only [List.getD, List.getElem?_set_ne hai, Array.getD_eq_getD_getElem?, Array.getElem?_modify, if_neg hai] at this ⊢
                exact this
      obtain ⟨ms', clock', hrun, hsz, hrel⟩ := key
      have hrun2 : (execOp A.eval o).run P W = .ok .skip (W.putObj R (.map ms' clock')) := by
        rcases ho with ho | ho <;> simp only [execOp, ho, hmv, hkv, hxv, Sem.run_bind, hrun, Result.andThen_ok] <;> simp [go_sem]
      obtain ⟨k1, k2⟩ := upd_obj h2 hs hb (.map ms' clock') (o := .map (updE P kt pk px es)) (fun s hs' => by
        unfold World.shape? at hs'
        rw [g1] at hs'; cases hs') fun hE => ⟨rfl, ms', clock', World.putObj_heap_same (lt_of_heap g1), hsz, fun i hi => ⟨(hrel i hi).1.mono hE, (hrel i hi).2.mono hE⟩⟩
      exact wpIn_skipped (fun c hd => by rcases ho with ho | ho <;> rw [ho] at hd <;> cases hd) hrun2 (hn _ _ _ _ undef hK k2 k1 (.lit undef))
    · exact h.elim
  · exact h.elim
theorem gop_lookup {o : Oper} {t : TypeId} {m k : Operand} {K : Out → Heap → Prop} (ho : o.op = .lookup t m k false) (hm : avt (opv fr m)) (hk : avt (opv fr k))
    (hD : (evLook P σ t (sv (opv fr m)) (sv (opv fr k))).D) (h : K (.val (evLook P σ t (sv (opv fr m)) (sv (opv fr k))).V) σ) : gop P rd n o fr σ K := by
  intro G W A r mm _ h2 h3 next Q hn _
  obtain ⟨u, r1, r2⟩ := evLook_run (P := P) h2 (sv_rel (opv_rel h3 m) hm) (sv_rel (opv_rel h3 k) hk) hD
  have e1 : (execOp A.eval o).run P W = .ok (.value u) W := by
    simp only [execOp, ho, Sem.run_bind, r1, Result.andThen_ok]; simp [go_sem]
  exact wpIn_value (fun c hd => by rw [ho] at hd; cases hd) e1 (hn _ _ _ _ _ h (Evol.refl G W σ) h2 r2)

/-! ### In a walk: applied by hand where simp stops at such an operation -/
variable {T : Tab} {ops : Array Oper} {Q : PX → Fr → Heap → Prop} {l : List Oper} {dst : Option Tmp} {ty : TypeId} {pos : String} {after : Array Edge}
theorem pT_makeMap (hT : T.ok P) {t : TypeId} {tg : TgS ops Q ({ dst, op := .makeMap t none, type := ty, pos, after, guard := none } :: l) fr σ} (hd : dB n dst = true)
    (h : ∀ id, frs σ id → pT P T rd n ops Q l (frSet fr dst (.map id)) (σ.set id (.map [])) {}) : pT P T rd n ops Q ({ dst, op := .makeMap t none, type := ty, pos, after, guard := none } :: l) fr σ tg := by
  show pops P rd n ops _ Q fr σ
  exact pops_gop (by simp [gval]) (by rw [← hd]; cases dst <;> rfl) (gop_makeMap rfl fun id hid => pops_pst hT (h id hid))
theorem pT_lookup (hT : T.ok P) {t : TypeId} {m k : Operand} {tg : TgS ops Q ({ dst, op := .lookup t m k false, type := ty, pos, after, guard := none } :: l) fr σ} (hd : dB n dst = true) (hm : avt (opv fr m)) (hk : avt (opv fr k)) {V : PV}
    (he : (evLook P σ t (sv (opv fr m)) (sv (opv fr k))).D ∧ (evLook P σ t (sv (opv fr m)) (sv (opv fr k))).V = V)
    (h : pT P T rd n ops Q l (frSet fr dst V) σ {}) : pT P T rd n ops Q ({ dst, op := .lookup t m k false, type := ty, pos, after, guard := none } :: l) fr σ tg := by
  show pops P rd n ops _ Q fr σ
  exact pops_gop (by simp [gval]) (by rw [← hd]; cases dst <;> rfl) (gop_lookup rfl hm hk he.1 (by rw [he.2]; exact pops_pst hT h))
theorem pT_mapUpdate (hT : T.ok P) {t : TypeId} {m k x : Operand} {tg : TgS ops Q ({ dst, op := .mapUpdate t m k x, type := ty, pos, after, guard := none } :: l) fr σ} (hd : dB n dst = true) (hm : avt (opv fr m)) (hk : avt (opv fr k)) (hx : avt (opv fr x))
    (h : updP P σ t (sv (opv fr m)) (sv (opv fr k)) (sv (opv fr x)) fun σ' => pT P T rd n ops Q l (frSet fr dst (.lit undef)) σ' {}) : pT P T rd n ops Q ({ dst, op := .mapUpdate t m k x, type := ty, pos, after, guard := none } :: l) fr σ tg := by
  show pops P rd n ops _ Q fr σ
  refine pops_gop (by simp [gval]) (by rw [← hd]; cases dst <;> rfl) (gop_mapUpdate (.inl rfl) hm hk hx ?_)
  exact updP_mono (fun σ' hσ => pops_pst hT hσ) h
theorem qop_lookup {o : Oper} {t : TypeId} {m k : Operand} (ho : o.op = .lookup t m k false) (hm : avt (opv fr m)) (hk : avt (opv fr k))
    (hD : (evLook P σ t (sv (opv fr m)) (sv (opv fr k))).D) : qop P n o fr σ (evLook P σ t (sv (opv fr m)) (sv (opv fr k))).V := by
  intro G W A r mm h2 h3 next Q hn
  obtain ⟨u, r1, r2⟩ := evLook_run (P := P) h2 (sv_rel (opv_rel h3 m) hm) (sv_rel (opv_rel h3 k) hk) hD
  have e1 : (execOp A.eval o).run P W = .ok (.value u) W := by
    simp only [execOp, ho, Sem.run_bind, r1, Result.andThen_ok]; simp [go_sem]
  exact wpIn_value (fun c hd => by rw [ho] at hd; cases hd) e1 (hn G W u (Evol.refl G W σ) h2 r2)
/-- A lookup under a guard. -/
theorem pT_lookupG (hT : T.ok P) {t : TypeId} {m k : Operand} {j : Nat} {w g : Bool} {tg : TgS ops Q ({ dst, op := .lookup t m k false, type := ty, pos, after, guard := some (j, w) } :: l) fr σ} {V : PV}
    (hg : gval ops fr { dst, op := .lookup t m k false, type := ty, pos, after, guard := some (j, w) } = some g) (hd : dB n dst = true)
    (he : g = true → (avt (opv fr m) ∧ avt (opv fr k)) ∧ (evLook P σ t (sv (opv fr m)) (sv (opv fr k))).D ∧ (evLook P σ t (sv (opv fr m)) (sv (opv fr k))).V = V)
    (h : pT P T rd n ops Q l (frSet fr dst (.gd g V)) σ {}) : pT P T rd n ops Q ({ dst, op := .lookup t m k false, type := ty, pos, after, guard := some (j, w) } :: l) fr σ tg := by
  show pops P rd n ops _ Q fr σ
  refine pops_guard hg (by rw [← hd]; cases dst <;> rfl) (V := V) (fun e => ?_) (pops_pst hT h)
  obtain ⟨⟨h1, h2⟩, h3, h4⟩ := he e
  rw [← h4]
  exact qop_lookup rfl h1 h2 h3
/-! ### A slice compared with nil: for an empty one both answers are possible -/
theorem equal_sliceNil {t e : TypeId} {base : Option Addr} {len cap : Nat} (ht : P.underlying t = some (.slice e)) : (Op.equal t (.slice base len cap) (.slice none 0 0)).run P W = .ok base.isNone W := by
  rw [Op.equal, Op.maxDepth, show (10000 : Nat) = 9999 + 1 from rfl]
  generalize (9999 : Nat) = d
  cases base <;> simp [Op.equalIn, underlying, ht, go_sem, program, Sem.run_bind, Sem.run]
theorem gop_sliceNil {o : Oper} {t e r : TypeId} {x y : Operand} {b : Bool} {rows : List (List PV)} {K : Out → Heap → Prop} (ho : o.op = .binOp .eql t x y r) (hx : avt (opv fr x)) (hy : avt (opv fr y)) (ht : P.underlying t = some (.slice e))
    (hxv : sv (opv fr x) = .slice b rows) (hyv : sv (opv fr y) = .lit (.slice none 0 0)) (h : ∀ c : Bool, (rows ≠ [] → c = false) → K (.val (.lit (.bool c))) σ) : gop P rd n o fr σ K := by
  intro G W A rr mm _ h2 h3 next Q hn _
  have vx := sv_rel (opv_rel h3 x) hx
  have vy := sv_rel (opv_rel h3 y) hy
  rw [hxv] at vx
  rw [hyv] at vy
  generalize hxe : A.eval x = xv at vx
  generalize hye : A.eval y = yv at vy
  cases vy with
  | lit =>
  have key : ∃ base len cap, xv = .slice base len cap ∧ (rows ≠ [] → base.isNone = false) := by
    cases vx with
    | nilsl _ base cap hf => exact ⟨base, 0, cap, rfl, fun hne => absurd rfl hne⟩
    | slice _ _ bl off len cap k cv h1 h2 h3 h4 h5 h6 h7 => exact ⟨_, _, _, rfl, fun _ => rfl⟩
  obtain ⟨base, len, cap, rfl, hb⟩ := key
  have e1 : (execOp A.eval o).run P W = .ok (.value (.bool base.isNone)) W := by
    simp only [execOp, ho, hxe, hye, Sem.run_bind]
    rw [eqGuard_plain (by simp) (by simp)]
    simp [binOp, equal_sliceNil ht, go_sem, Sem.run_bind]
  exact wpIn_value (fun c hd => by rw [ho] at hd; cases hd) e1 (hn _ _ _ _ _ (h _ hb) (Evol.refl G W σ) h2 (.lit _))
end
end Go.Lo

/-
  The program logic 'Lo', part Ze: regions that draw their order and whose writes stand in a chain: run in the text's order, and looked at again where an operation may come later. Nothing of the program.
-/
set_option linter.unusedSimpArgs false
set_option linter.unusedVariables false
namespace Go.Lo
open Go

inductive Stp where
  | r (i : Nat)
  | c (i : Nat)
  | e (i : Nat)
  deriving DecidableEq
section
variable {P : Program} {T : Tab} {rd : Bool} {n : Nat} {ops : Array Oper} {σ : Heap} {fr : Fr}

def ancB (ops : Array Oper) (p i : Nat) : Bool := (ancGo ops i [i]).contains p
def early (ops : Array Oper) (es : List Nat) (i : Nat) : Nat := (es.filter fun e => ancB ops e i).length
def late (ops : Array Oper) (es : List Nat) (i : Nat) : Nat := (es.takeWhile fun e => !ancB ops i e).length
def stageI (ops : Array Oper) (k : Nat) (es : List Nat) (j : Nat) : List Nat := (List.range k).filter fun i => !es.contains i && decide (early ops es i ≤ j) && decide (j ≤ late ops es i)
def stageS (ops : Array Oper) (es : List Nat) (j i : Nat) : Stp := if early ops es i = j then .r i else .c i
def planG (ops : Array Oper) (k : Nat) (es : List Nat) : List Nat → Nat → List Stp
  | [], j => (stageI ops k es j).map (stageS ops es j)
  | e :: r, j => (stageI ops k es j).map (stageS ops es j) ++ .e e :: planG ops k es r (j + 1)
/-- Slots that do not meet. -/
def slotsB (ops : Array Oper) (k : Nat) : Bool :=
  (List.range k).all fun i => match ops[i]? with
    | none => false
    | some o => (match o.dst with | some d => !(o.looksAt ops).contains d | none => true) && (List.range k).all fun j => j == i || match ops[j]? with
      | none => false
      | some q => match q.dst with
        | none => true
        | some d => decide (o.dst ≠ some d) && (ancB ops j i || !(o.looksAt ops).contains d)
def chainB (ops : Array Oper) (k : Nat) : List Nat → Bool
  | [] => true
  | [e] => decide (e < k)
  | e :: f :: r => decide (e < k) && decide (e < f) && ancB ops e f && chainB ops k (f :: r)
def drawE (ops : Array Oper) (k : Nat) (es : List Nat) (plan : List Stp) : Bool :=
  decide (plan = planG ops k es es 0) && decide (k ≤ ops.size) && ((List.range ops.size).all fun j => (preds ops j).all fun p => decide (p < j)) &&
    ((List.range ops.size).all fun t => decide (t < k) || ((List.range t).all fun p => (ancGo ops t [t]).contains p)) && slotsB ops k && chainB ops k es

def chkP (P : Program) (T : Tab) (σ : Heap) (ops : Array Oper) (o : Oper) (fr : Fr) : Prop := ∃ U, YF P T σ ops o U fr ∧ ∀ d, o.dst = some d → fr d = U
/-- A write. -/
def effP (P : Program) (ops : Array Oper) (σ : Heap) (fr : Fr) (o : Oper) (C : PV → Heap → Prop) : Prop :=
  (gval ops fr o = some true ∧ (gstep P σ fr o.op C ∨ ∃ c g args K', o.op = .call c ∧ c.callee = .value (.func g) ∧ Enters P g ∧ (∀ x ∈ c.args.toList, avt (opv fr x)) ∧ argsP fr c.args = args ∧ pcalls P g args σ K' ∧ ∀ o' σ', K' o' σ' → ∃ v, o' = .val v ∧ C v σ')) ∨
  (gval ops fr o = some false ∧ C (.lit undef) σ)
def eT (P : Program) (T : Tab) (n : Nat) (ops : Array Oper) (K : Fr → Heap → Prop) : List Stp → Fr → Heap → Prop
  | [], fr, σ => K fr σ
  | .r i :: l, fr, σ => ∃ o, ops[i]? = some o ∧ dstOk n o = true ∧ ∃ U, YF P T σ ops o U fr ∧ eT P T n ops K l (frSet fr o.dst U) σ
  | .c i :: l, fr, σ => ∃ o, ops[i]? = some o ∧ chkP P T σ ops o fr ∧ eT P T n ops K l fr σ
  | .e i :: l, fr, σ => ∃ o, ops[i]? = some o ∧ dstOk n o = true ∧ effP P ops σ fr o fun V σ' => eT P T n ops K l (frSet fr o.dst V) σ'

theorem YF_agree {o : Oper} {U : PV} {fr fr' : Fr} (h : ∀ t ∈ o.looksAt ops, fr' t = fr t) (hy : YF P T σ ops o U fr) : YF P T σ ops o U fr' := by
  have ha : agree o fr fr' := fun x hx => by
    cases x with
    | tmp t => exact h t (List.mem_append_left _ (List.mem_filterMap.2 ⟨.tmp t, by simpa using hx, rfl⟩))
    | _ => rfl
  have hg : gval ops fr' o = gval ops fr o := by
    unfold gval
    cases hg : o.guard with
    | none => rfl
    | some gw =>
      obtain ⟨g, want⟩ := gw
      simp only
      cases ht : (ops[g]?).bind (·.dst) with
      | none => rfl
      | some t =>
        simp only
        rw [h t (by simp [Oper.looksAt, hg, ht])]
  unfold YF at hy ⊢
  rw [evc_congr ha, hg]
  exact hy
theorem effP_agree {o : Oper} {C : PV → Heap → Prop} {fr fr' : Fr} (h : ∀ t ∈ o.looksAt ops, fr' t = fr t) (he : effP P ops σ fr o C) : effP P ops σ fr' o C := by
  have ha : ∀ x ∈ o.op.operands, opv fr' x = opv fr x := fun x hx => by
    cases x with
    | tmp t => exact h t (List.mem_append_left _ (List.mem_filterMap.2 ⟨.tmp t, by simpa using hx, rfl⟩))
    | _ => rfl
  have hg : gval ops fr' o = gval ops fr o := by
    unfold gval
    cases hg : o.guard with
    | none => rfl
    | some gw =>
      obtain ⟨g, want⟩ := gw
      simp only
      cases ht : (ops[g]?).bind (·.dst) with
      | none => rfl
      | some t =>
        simp only
        rw [h t (by simp [Oper.looksAt, hg, ht])]
  rcases he with ⟨h0, h1 | ⟨c, g, args, K', h1, h2, h3, h4, h5, h6, h7⟩⟩ | ⟨h0, h1⟩
  · exact .inl ⟨hg.trans h0, .inl (by rw [gstep_congr ha]; exact h1)⟩
  · have hx : ∀ x ∈ c.args.toList, opv fr' x = opv fr x := fun x hx => ha x (by rw [h1]; simp [Op.operands, Call.operands]; right; simpa using hx)
    refine .inl ⟨hg.trans h0, .inr ⟨c, g, args, K', h1, h2, h3, fun x hx' => by rw [hx x hx']; exact h4 x hx', ?_, h6, h7⟩⟩
    rw [← h5]
    exact List.map_congr_left fun x hx' => by rw [hx x hx']
  · exact .inr ⟨hg.trans h0, h1⟩
theorem effP_mono {o : Oper} {C C' : PV → Heap → Prop} (hC : ∀ V σ', C V σ' → C' V σ') (he : effP P ops σ fr o C) : effP P ops σ fr o C' := by
  rcases he with ⟨h0, h1 | ⟨c, g, args, K', h1, h2, h3, h4, h5, h6, h7⟩⟩ | ⟨h0, h1⟩
  · exact .inl ⟨h0, .inl (gstep_mono hC h1)⟩
  · exact .inl ⟨h0, .inr ⟨c, g, args, K', h1, h2, h3, h4, h5, h6, fun o' σ' k => let ⟨v, e, k'⟩ := h7 o' σ' k; ⟨v, e, hC _ _ k'⟩⟩⟩
  · exact .inr ⟨h0, hC _ _ h1⟩
theorem pops_effP {o : Oper} {Q : PX → Fr → Heap → Prop} (hd : dstOk n o = true) (he : effP P ops σ fr o fun V σ' => Q .normal (frSet fr o.dst V) σ') : pops P rd n ops [o] Q fr σ := by
  rcases he with ⟨hg, h | ⟨c, g, args, K', h1, h2, h3, h4, h5, h6, h7⟩⟩ | ⟨hg, h⟩
  · exact pops_gop hg hd (gop_gstep (gstep_mono (fun V σ' k => pops_nil k) h))
  · refine pops_gop hg hd (gop_call (first := []) (captured := []) h1 h2 rfl trivial h3 h4 ?_)
    simp only [List.nil_append, List.append_nil]
    rw [h5]
    refine h6.mono fun o' σ' k => ?_
    obtain ⟨v, rfl, k'⟩ := h7 o' σ' k
    exact pops_nil k'
  · exact pops_skip hg hd (pops_nil h)
theorem pops_YF (hT : T.ok P) {o : Oper} {U : PV} {Q : PX → Fr → Heap → Prop} (hd : dstOk n o = true) (hy : YF P T σ ops o U fr) (hQ : Q .normal (frSet fr o.dst U) σ) : pops P rd n ops [o] Q fr σ := by
  unfold YF at hy
  split at hy
  · rename_i hg
    obtain ⟨h1, rfl⟩ := hy
    exact pops_quiet hg hd (qop_of_evc hT h1) (pops_nil hQ)
  · rename_i gw hg
    obtain ⟨g, h1, h2, rfl⟩ := hy
    exact pops_guard h1 hd (fun e => qop_of_evc hT (h2 e)) (pops_nil hQ)

/-! ### What the checks say -/
structure Sl (ops : Array Oper) (k : Nat) : Prop where
  ex : ∀ i, i < k → ∃ o, ops[i]? = some o
  own : ∀ i o d, i < k → ops[i]? = some o → o.dst = some d → d ∉ o.looksAt ops
  ne : ∀ i j o q d, i < k → j < k → i ≠ j → ops[i]? = some o → ops[j]? = some q → q.dst = some d → o.dst ≠ some d
  look : ∀ i j o q d, i < k → j < k → i ≠ j → ops[i]? = some o → ops[j]? = some q → q.dst = some d → ancB ops j i = false → d ∉ o.looksAt ops
theorem slotsB_spec {k : Nat} (h : slotsB ops k = true) : Sl ops k := by
  unfold slotsB at h
  simp only [List.all_eq_true, List.mem_range] at h
  have ex : ∀ i, i < k → ∃ o, ops[i]? = some o := fun i hi => by
    have := h i hi
    cases ho : ops[i]? with
    | none => rw [ho] at this; cases this
    | some o => exact ⟨o, rfl⟩
  have two : ∀ i j o q d, i < k → j < k → i ≠ j → ops[i]? = some o → ops[j]? = some q → q.dst = some d → o.dst ≠ some d ∧ (ancB ops j i = true ∨ d ∉ o.looksAt ops) := fun i j o q d hi hj hne ho hq hd => by
    have := h i hi
    rw [ho] at this
    simp only [Bool.and_eq_true, List.all_eq_true, List.mem_range] at this
    have := this.2 j hj
    rw [hq] at this
    simp only [hd, Bool.or_eq_true, Bool.and_eq_true, beq_iff_eq, decide_eq_true_eq] at this
    rcases this with e | ⟨h1, h2⟩
    · exact absurd e.symm hne
    · exact ⟨h1, h2.imp id fun h => by simpa using h⟩
  refine ⟨ex, fun i o d hi ho hd => ?_, fun i j o q d hi hj hne ho hq hd => (two i j o q d hi hj hne ho hq hd).1, fun i j o q d hi hj hne ho hq hd ha => ?_⟩
  · have := h i hi
    rw [ho] at this
    simp only [Bool.and_eq_true, hd] at this
    simpa using this.1
  · rcases (two i j o q d hi hj hne ho hq hd).2 with h1 | h1
    · rw [ha] at h1; cases h1
    · exact h1
theorem ancGo_le (hlt : ∀ j, j < ops.size → ∀ p ∈ preds ops j, p < j) : ∀ (i : Nat) (acc : List Nat) (p : Nat), p ∈ ancGo ops i acc → p ∈ acc ∨ p < i := by
  intro i
  induction i with
  | zero => intro acc p h; exact .inl h
  | succ i ih =>
    intro acc p h
    unfold ancGo at h
    split at h
    · rcases ih _ _ h with h1 | h1
      · rcases List.mem_cons.1 h1 with h2 | h2
        · exact .inr (by omega)
        · exact .inl h2
      · exact .inr (by omega)
    · rcases ih _ _ h with h1 | h1
      · exact .inl h1
      · exact .inr (by omega)
theorem ancB_le (hlt : ∀ j, j < ops.size → ∀ p ∈ preds ops j, p < j) {p i : Nat} (h : ancB ops p i = true) : p ≤ i := by
  unfold ancB at h
  rcases ancGo_le hlt i [i] p (by simpa using h) with h1 | h1
  · simp at h1; omega
  · omega
/-- What is done is closed. -/
def clL (ops : Array Oper) (L : Nat → Bool) : Prop := ∀ i, L i = true → ∀ p ∈ preds ops i, L p = true
theorem anc_done {L : Nat → Bool} (hc : clL ops L) : ∀ (i : Nat) (acc : List Nat), (∀ j ∈ acc, ∀ p ∈ preds ops j, L p = true) → ∀ p ∈ ancGo ops i acc, p ∈ acc ∨ L p = true := by
  intro i
  induction i with
  | zero => intro acc _ p hp; exact .inl hp
  | succ i ih =>
    intro acc hacc p hp
    simp only [ancGo] at hp
    split at hp
    · rename_i ha
      obtain ⟨j, hj, hji⟩ := List.any_eq_true.1 ha
      have hi : L i = true := hacc j hj i (by simpa using hji)
      rcases ih (i :: acc) (fun j' hj' p' hp' => by
        rcases List.mem_cons.1 hj' with rfl | hj'
        · exact hc _ hi _ hp'
        · exact hacc j' hj' p' hp') p hp with h | h
      · rcases List.mem_cons.1 h with rfl | h
        · exact .inr hi
        · exact .inl h
      · exact .inr h
    · exact ih acc hacc p hp
theorem ancB_done {L : Nat → Bool} (hc : clL ops L) {p i : Nat} (hp : ∀ p ∈ preds ops i, L p = true) (h : ancB ops p i = true) : p = i ∨ L p = true := by
  unfold ancB at h
  rcases anc_done hc i [i] (fun j hj p' hp' => by simp at hj; subst hj; exact hp p' hp') p (by simpa using h) with h1 | h1
  · exact .inl (by simpa using h1)
  · exact .inr h1

/-! ### A stage -/
theorem stage_run {k : Nat} (S : Sl ops k) (hlt : ∀ j, j < ops.size → ∀ p ∈ preds ops j, p < j) {K : Fr → Heap → Prop} {es : List Nat} {j : Nat} {rest : List Stp} : ∀ (l : List Nat) (fr : Fr), l.Pairwise (· < ·) → (∀ i ∈ l, i < k) → eT P T n ops K (l.map (stageS ops es j) ++ rest) fr σ →
    ∃ F, eT P T n ops K rest F σ ∧ (∀ t, (∀ i ∈ l, early ops es i = j → ∀ o, ops[i]? = some o → o.dst ≠ some t) → F t = fr t) ∧ ∀ i ∈ l, ∃ o, ops[i]? = some o ∧ (early ops es i = j → dstOk n o = true) ∧ chkP P T σ ops o F := by
  intro l
  induction l with
  | nil => intro fr _ _ h; exact ⟨fr, h, fun _ _ => rfl, fun i hi => by cases hi⟩
  | cons i l ih =>
    intro fr hp hk h
    obtain ⟨hp1, hp2⟩ := List.pairwise_cons.1 hp
    have hik := hk i (List.mem_cons_self ..)
    have far : ∀ o, ops[i]? = some o → ∀ t ∈ o.looksAt ops, ∀ i' ∈ l, early ops es i' = j → ∀ q, ops[i']? = some q → q.dst ≠ some t := fun o ho t ht i' hi' _ q hq hd => by
      have hlt' := hp1 i' hi'
      refine S.look i i' o q t hik (hk i' (List.mem_cons_of_mem _ hi')) (by omega) ho hq hd ?_ ht
      cases ha : ancB ops i' i with
      | false => rfl
      | true => have := ancB_le hlt ha; omega
    have dfar : ∀ o d, ops[i]? = some o → o.dst = some d → ∀ i' ∈ l, early ops es i' = j → ∀ q, ops[i']? = some q → q.dst ≠ some d := fun o d ho hd i' hi' _ q hq => by
      have hlt' := hp1 i' hi'
      exact S.ne i' i q o d (hk i' (List.mem_cons_of_mem _ hi')) hik (by omega) hq ho hd
    simp only [List.map_cons, List.cons_append] at h
    by_cases he : early ops es i = j
    · rw [show stageS ops es j i = .r i by unfold stageS; rw [if_pos he]] at h
      obtain ⟨o, ho, hd, U, hy, h⟩ := h
      obtain ⟨F, f1, f2, f3⟩ := ih (frSet fr o.dst U) hp2 (fun x hx => hk x (List.mem_cons_of_mem _ hx)) h
      refine ⟨F, f1, fun t ht => ?_, fun x hx => ?_⟩
      · rw [f2 t (fun x hx => ht x (List.mem_cons_of_mem _ hx))]
        have := ht i (List.mem_cons_self ..) he o ho
        cases hdd : o.dst with
        | none => rfl
        | some d =>
          have : t ≠ d := fun e => this (by rw [hdd, e])
          simp [frSet, Fr.set, this]
      · rcases List.mem_cons.1 hx with rfl | hx
        · refine ⟨o, ho, fun _ => hd, U, YF_agree (fun t ht => ?_) hy, fun d hdd => ?_⟩
          · rw [f2 t (far o ho t ht)]
            cases hdd : o.dst with
            | none => rfl
            | some d =>
              have : t ≠ d := fun e => S.own x o d hik ho hdd (e ▸ ht)
              simp [frSet, Fr.set, this]
          · rw [f2 d (dfar o d ho hdd), hdd]
            simp [frSet, Fr.set]
        · exact f3 x hx
    · rw [show stageS ops es j i = .c i by unfold stageS; rw [if_neg he]] at h
      obtain ⟨o, ho, ⟨U, hy, hu⟩, h⟩ := h
      obtain ⟨F, f1, f2, f3⟩ := ih fr hp2 (fun x hx => hk x (List.mem_cons_of_mem _ hx)) h
      refine ⟨F, f1, fun t ht => f2 t (fun x hx => ht x (List.mem_cons_of_mem _ hx)), fun x hx => ?_⟩
      rcases List.mem_cons.1 hx with rfl | hx
      · exact ⟨o, ho, fun e => absurd e he, U, YF_agree (fun t ht => f2 t (far o ho t ht)) hy, fun d hdd => by rw [f2 d (dfar o d ho hdd)]; exact hu d hdd⟩
      · exact f3 x hx

/-! ### The invariant -/
def tailG (ops : Array Oper) (k : Nat) (es : List Nat) : List Nat → Nat → List Stp
  | [], _ => []
  | e :: r, j => .e e :: planG ops k es r (j + 1)
theorem planG_eq {k : Nat} {es : List Nat} (l : List Nat) (j : Nat) : planG ops k es l j = (stageI ops k es j).map (stageS ops es j) ++ tailG ops k es l j := by
  cases l <;> simp [planG, tailG]
theorem stageI_sorted (k : Nat) (es : List Nat) (j : Nat) : (stageI ops k es j).Pairwise (· < ·) := List.Pairwise.filter _ List.pairwise_lt_range
theorem stageI_mem {k : Nat} {es : List Nat} {j i : Nat} : i ∈ stageI ops k es j ↔ i < k ∧ i ∉ es ∧ early ops es i ≤ j ∧ j ≤ late ops es i := by
  unfold stageI
  simp only [List.mem_filter, List.mem_range, Bool.and_eq_true, Bool.not_eq_true', List.contains_eq_mem, decide_eq_false_iff_not, decide_eq_true_eq, and_assoc]
theorem chainB_spec {k : Nat} : ∀ {es : List Nat}, chainB ops k es = true → (∀ x (h : x < es.length), es[x] < k) ∧ ∀ x (h : x + 1 < es.length), es[x] < es[x + 1] ∧ ancB ops es[x] es[x + 1] = true := by
  intro es
  induction es with
  | nil => intro _; exact ⟨fun x h => absurd h (by simp), fun x h => absurd h (by simp)⟩
  | cons e r ih =>
    intro h
    cases r with
    | nil =>
      simp only [chainB, decide_eq_true_eq] at h
      exact ⟨fun x hx => by simp at hx; subst hx; exact h, fun x hx => absurd hx (by simp)⟩
    | cons f r =>
      simp only [chainB, Bool.and_eq_true, decide_eq_true_eq] at h
      obtain ⟨⟨⟨h1, h2⟩, h3⟩, h4⟩ := h
      obtain ⟨k1, k2⟩ := ih h4
      refine ⟨fun x hx => ?_, fun x hx => ?_⟩
      · cases x with
        | zero => exact h1
        | succ x => exact k1 x (by simpa using hx)
      · cases x with
        | zero => exact ⟨h2, h3⟩
        | succ x => exact k2 x (by simpa using hx)
theorem takeWhile_ge {p : Nat → Bool} : ∀ (l : List Nat) (j : Nat), j ≤ l.length → (∀ x (h : x < l.length), x < j → p l[x] = true) → j ≤ (l.takeWhile p).length := by
  intro l
  induction l with
  | nil => intro j h _; simpa using h
  | cons a l ih =>
    intro j h hp
    cases j with
    | zero => omega
    | succ j =>
      have h0 := hp 0 (by simp) (by omega)
      simp only [List.getElem_cons_zero] at h0
      rw [List.takeWhile_cons, if_pos h0]
      have := ih j (by simpa using h) fun x hx hxj => by
        have := hp (x + 1) (by simpa using hx) (by omega)
        simpa using this
      simp; exact this
theorem filter_le {p : Nat → Bool} {es : List Nat} {j : Nat} (h : ∀ x (h : x < es.length), p es[x] = true → x < j) : (es.filter p).length ≤ j := by
  have e : es = es.take j ++ es.drop j := (List.take_append_drop j es).symm
  have hd : (es.drop j).filter p = [] := by
    rw [List.filter_eq_nil_iff]
    intro a ha
    obtain ⟨x, hx, rfl⟩ := List.getElem_of_mem ha
    rw [List.getElem_drop]
    intro hp
    have := h (j + x) (by simp at hx; omega) hp
    omega
  rw [e, List.filter_append, hd, List.append_nil]
  exact Nat.le_trans (List.length_filter_le _ _) (by simp; omega)
/-- The first j writes are done, and these alone. -/
def effD (es : List Nat) (L : Nat → Bool) (j : Nat) : Prop := j ≤ es.length ∧ ∀ x (h : x < es.length), L es[x] = true ↔ x < j
theorem early_le {es : List Nat} {L : Nat → Bool} {j i : Nat} (hc : clL ops L) (he : effD es L j) (hp : ∀ p ∈ preds ops i, L p = true) (hi : i ∉ es) : early ops es i ≤ j := by
  refine filter_le fun x hx ha => (he.2 x hx).1 ?_
  rcases ancB_done hc hp ha with h | h
  · exact absurd (h ▸ List.getElem_mem hx) hi
  · exact h
theorem late_ge {es : List Nat} {L : Nat → Bool} {j i : Nat} (hc : clL ops L) (he : effD es L j) (hu : L i = false) (hi : i ∉ es) : j ≤ late ops es i := by
  refine takeWhile_ge es j he.1 fun x hx hxj => ?_
  have hd := (he.2 x hx).2 hxj
  cases ha : ancB ops i es[x] with
  | false => rfl
  | true =>
    rcases ancB_done hc (hc _ hd) ha with h | h
    · exact absurd (h ▸ List.getElem_mem hx) hi
    · rw [hu] at h; cases h
def agF (ops : Array Oper) (k : Nat) (es : List Nat) (L : Nat → Bool) (j : Nat) (fr F : Fr) : Prop := ∀ t, (∀ i o, i < k → L i = false → i ∉ es → early ops es i ≤ j → ops[i]? = some o → o.dst ≠ some t) → fr t = F t
def pdF (P : Program) (T : Tab) (n : Nat) (ops : Array Oper) (k : Nat) (es : List Nat) (L : Nat → Bool) (j : Nat) (F : Fr) (σ : Heap) : Prop := ∀ i, i < k → L i = false → i ∉ es → early ops es i ≤ j → ∃ o, ops[i]? = some o ∧ dstOk n o = true ∧ chkP P T σ ops o F
def JE (P : Program) (T : Tab) (n : Nat) (ops : Array Oper) (k : Nat) (es : List Nat) (K : Fr → Heap → Prop) (L : Nat → Bool) (fr : Fr) (σ : Heap) : Prop :=
  ∃ j F, clL ops L ∧ effD es L j ∧ agF ops k es L j fr F ∧ pdF P T n ops k es L j F σ ∧ eT P T n ops K (tailG ops k es (es.drop j) j) F σ
theorem agF_looks {k : Nat} (S : Sl ops k) {es : List Nat} {L : Nat → Bool} {j i : Nat} {fr F : Fr} {o : Oper} (hc : clL ops L) (hp : ∀ p ∈ preds ops i, L p = true) (hik : i < k) (ho : ops[i]? = some o) (h : agF ops k es L j fr F) : ∀ t ∈ o.looksAt ops, fr t = F t := fun t ht => by
  refine h t fun i' q hi' hu hne he hq hd => ?_
  by_cases e : i = i'
  · subst e
    rw [ho] at hq; cases hq
    exact S.own i o t hik ho hd ht
  · refine S.look i i' o q t hik hi' e ho hq hd ?_ ht
    cases ha : ancB ops i' i with
    | false => rfl
    | true =>
      rcases ancB_done hc hp ha with h1 | h1
      · exact absurd h1.symm e
      · rw [hu] at h1; cases h1
theorem clL_upd {L : Nat → Bool} {i : Nat} (hc : clL ops L) (hp : ∀ p ∈ preds ops i, L p = true) : clL ops (upd L i) := fun x hx p hpx => by
  unfold upd at hx ⊢
  simp only [Bool.or_eq_true, beq_iff_eq] at hx ⊢
  rcases hx with rfl | hx
  · exact .inr (hp p hpx)
  · exact .inr (hc x hx p hpx)
theorem upd_false {L : Nat → Bool} {i x : Nat} (h : upd L i x = false) : L x = false ∧ x ≠ i := by
  unfold upd at h
  simp only [Bool.or_eq_false_iff, beq_eq_false_iff_ne] at h
  exact ⟨h.2, h.1⟩

/-- **A region that draws its order and writes in a chain.** -/
theorem pwp_drawE (hT : T.ok P) (k : Nat) (es : List Nat) (plan : List Stp) {id : Nat} {Q : PX → Fr → Heap → Prop} (hm : P.follows .mixedOrders = true) (hB : drawE ops k es plan = true)
    (h : eT P T n ops (fun fr σ => pst P T rd n ops Q (ops.toList.drop k) fr σ) plan fr σ) : pwp P rd n (.region id ops true) Q fr σ := by
  unfold drawE at hB
  simp only [Bool.and_eq_true, decide_eq_true_eq] at hB
  obtain ⟨⟨⟨⟨⟨rfl, b1⟩, b2⟩, b3⟩, b4⟩, b5⟩ := hB
  have hlt : ∀ j, j < ops.size → ∀ p ∈ preds ops j, p < j := by
    simp only [List.all_eq_true, List.mem_range, decide_eq_true_eq] at b2; exact b2
  have S := slotsB_spec b4
  obtain ⟨c1, c2⟩ := chainB_spec b5
  refine pwp_drawI (I := JE P T n ops k es (fun fr σ => pst P T rd n ops Q (ops.toList.drop k) fr σ)) hm b2 b3 b1 ?_ ?_ ?_
  · rw [planG_eq] at h
    obtain ⟨F, f1, f2, f3⟩ := stage_run S hlt _ fr (stageI_sorted k es 0) (fun i hi => (stageI_mem.1 hi).1) h
    refine ⟨0, F, fun i hi => (by cases hi), ⟨Nat.zero_le _, fun x _ => ⟨fun h => (by cases h), fun h => absurd h (by omega)⟩⟩, fun t ht => ?_, fun i hi _ hne he => ?_, ?_⟩
    · refine (f2 t fun i hi he o ho => ?_).symm
      obtain ⟨m1, m2, m3, _⟩ := stageI_mem.1 hi
      exact ht i o m1 rfl m2 m3 ho
    · obtain ⟨o, ho, h1, h2⟩ := f3 i (stageI_mem.2 ⟨hi, hne, he, Nat.zero_le _⟩)
      exact ⟨o, ho, h1 (by omega), h2⟩
    · simpa using f1
  · rintro L fr σ i o hik ho hu hp ⟨j, F, hc, hd, ha, hpd, hr⟩
    have hlook := agF_looks S hc hp hik ho ha
    by_cases hi : i ∈ es
    · obtain ⟨x, hx, rfl⟩ := List.getElem_of_mem hi
      have hxj : x = j := by
        have h1 : ¬ x < j := fun h => by rw [(hd.2 x hx).2 h] at hu; cases hu
        rcases Nat.lt_or_ge j x with h2 | h2
        · exfalso
          obtain ⟨y, rfl⟩ : ∃ y, x = y + 1 := ⟨x - 1, by omega⟩
          obtain ⟨q1, q2⟩ := c2 y hx
          rcases ancB_done hc hp q2 with h3 | h3
          · omega
          · have := (hd.2 y (by omega)).1 h3; omega
        · omega
      subst hxj
      rw [List.drop_eq_getElem_cons hx] at hr
      obtain ⟨o', ho', hdo, he⟩ := hr
      rw [ho] at ho'; cases ho'
      refine pops_effP hdo (effP_mono (fun V σ' h => ?_) (effP_agree hlook he))
      rw [planG_eq] at h
      obtain ⟨F2, f1, f2, f3⟩ := stage_run S hlt _ _ (stageI_sorted k es (x + 1)) (fun i hi => (stageI_mem.1 hi).1) h
      have hc' := clL_upd hc hp
      have hnd : ∀ a b (ha : a < es.length) (hb : b < es.length), a < b → es[a] < es[b] := by
        intro a b ha hb hab
        obtain ⟨d, rfl⟩ : ∃ d, b = a + 1 + d := ⟨b - a - 1, by omega⟩
        clear hab
        induction d with
        | zero => exact (c2 a hb).1
        | succ d ih2 => exact Nat.lt_trans (ih2 (by omega)) (c2 (a + 1 + d) (by omega)).1
      have hd' : effD es (upd L es[x]) (x + 1) := ⟨by omega, fun y hy => by
        unfold upd
        simp only [Bool.or_eq_true, beq_iff_eq]
        constructor
        · rintro (h1 | h1)
          · rcases Nat.lt_trichotomy y x with h2 | h2 | h2
            · omega
            · omega
            · have := hnd x y hx hy h2; omega
          · have := (hd.2 y hy).1 h1; omega
        · intro h1
          by_cases h2 : y = x
          · subst h2; exact .inl rfl
          · exact .inr ((hd.2 y hy).2 (by omega))⟩
      refine ⟨x + 1, F2, hc', hd', fun t ht => ?_, fun i hik' hu' hne hea => ?_, f1⟩
      · have e2 : F2 t = frSet F o.dst V t := f2 t fun i hi he q hq => by
          obtain ⟨m1, m2, m3, _⟩ := stageI_mem.1 hi
          refine ht i q m1 ?_ m2 m3 hq
          cases hL : upd L es[x] i with
          | false => rfl
          | true =>
            unfold upd at hL
            simp only [Bool.or_eq_true, beq_iff_eq] at hL
            rcases hL with rfl | hL
            · exact absurd (List.getElem_mem hx) m2
            · have := early_le hc hd (hc i hL) m2
              omega
        rw [e2]
        have e1 : (∀ d, o.dst = some d → t ≠ d) → fr t = F t := fun hne => ha t fun i q hik' hu' hne' hea hq => by
          refine ht i q hik' ?_ hne' (by omega) hq
          unfold upd
          simp only [Bool.or_eq_false_iff, beq_eq_false_iff_ne]
          exact ⟨fun e => hne' (e ▸ List.getElem_mem hx), hu'⟩
        cases hdd : o.dst with
        | none => exact e1 fun d h => by rw [hdd] at h; cases h
        | some d =>
          by_cases htd : t = d
          · subst htd; simp [frSet, Fr.set]
          · have := e1 fun d' h => by rw [hdd] at h; cases h; exact htd
            simp [frSet, Fr.set, htd, this]
      · obtain ⟨q, hq, h1, h2⟩ := f3 i (stageI_mem.2 ⟨hik', hne, hea, late_ge hc' hd' hu' hne⟩)
        refine ⟨q, hq, ?_, h2⟩
        by_cases he : early ops es i = x + 1
        · exact h1 he
        · obtain ⟨q', hq', h3, _⟩ := hpd i hik' (upd_false hu').1 hne (by omega)
          rw [hq] at hq'; cases hq'
          exact h3
    · have hea := early_le hc hd hp hi
      obtain ⟨o', ho', hdo, U, hy, hU⟩ := hpd i hik hu hi hea
      rw [ho] at ho'; cases ho'
      refine pops_YF hT hdo (YF_agree hlook hy) ?_
      have hd' : effD es (upd L i) j := ⟨hd.1, fun y hy => by
        unfold upd
        simp only [Bool.or_eq_true, beq_iff_eq]
        rw [← hd.2 y hy]
        exact ⟨fun h => h.resolve_left fun e => hi (e ▸ List.getElem_mem hy), .inr⟩⟩
      refine ⟨j, F, clL_upd hc hp, hd', fun t ht => ?_, fun i' hik' hu' hne' hea' => hpd i' hik' (upd_false hu').1 hne' hea', hr⟩
      have e1 : (∀ d, o.dst = some d → t ≠ d) → fr t = F t := fun hne => ha t fun i' q hik' hu' hne' hea' hq => by
        by_cases e : i' = i
        · subst e
          rw [ho] at hq; cases hq
          intro h; exact hne t h rfl
        · refine ht i' q hik' ?_ hne' hea' hq
          unfold upd
          simp only [Bool.or_eq_false_iff, beq_eq_false_iff_ne]
          exact ⟨e, hu'⟩
      cases hdd : o.dst with
      | none => exact e1 fun d h => by rw [hdd] at h; cases h
      | some d =>
        by_cases htd : t = d
        · subst htd; simp [frSet, Fr.set, hU t hdd]
        · have := e1 fun d' h => by rw [hdd] at h; cases h; exact htd
          simp [frSet, Fr.set, htd, this]
  · rintro L fr σ hall ⟨j, F, hc, hd, ha, hpd, hr⟩
    have hj : j = es.length := by
      rcases Nat.lt_or_ge j es.length with h1 | h1
      · have := (hd.2 j h1).1 (hall _ (c1 j h1)); omega
      · have := hd.1; omega
    subst hj
    rw [List.drop_length] at hr
    have e : fr = F := funext fun t => ha t fun i o hik hu _ _ _ => by rw [hall i hik] at hu; cases hu
    subst e
    exact pops_pst hT hr
end
end Go.Lo

/-
  The program logic 'Lo', part Zf: how simp runs regions that draw their order and write in a chain. Nothing of the program.
-/
set_option linter.unusedSimpArgs false
set_option linter.unusedVariables false
namespace Go.Lo
open Go

def EQ (K : Fr → Heap → Prop) : PX → Fr → Heap → Prop
  | .normal, fr, σ => K fr σ
  | _, _, _ => False
@[simp ↓] theorem EQ_normal (K : Fr → Heap → Prop) (fr : Fr) (σ : Heap) : EQ K .normal fr σ = K fr σ := (rfl)
structure TgY (ops : Array Oper) (Q : PX → Fr → Heap → Prop) (tl : List Oper) where
  x : Nat := 0
structure TgZ (K : Fr → Prop) where
  x : Nat := 0
structure TgZ2 (K : Fr → Heap → Prop) where
  x : Nat := 0
structure TgZ3 (X : Prop) where
  x : Nat := 0
section
variable {P : Program} {T : Tab} {rd : Bool} {n : Nat} {ops : Array Oper} {σ : Heap} {fr : Fr} {Q : PX → Fr → Heap → Prop} {tl : List Oper}
def xT (P : Program) (T : Tab) (rd : Bool) (n : Nat) (ops : Array Oper) (Q : PX → Fr → Heap → Prop) (tl : List Oper) (l : List Stp) (fr : Fr) (σ : Heap) (_ : TgY ops Q tl) : Prop := eT P T n ops (fun fr σ => pst P T rd n ops Q tl fr σ) l fr σ
def lkA (ops : Array Oper) (i : Nat) : Option Oper := ops[i]?
def lkL (l : List Oper) (i : Nat) : Option Oper := l[i]?
@[simp ↓] theorem lkA_arr (l : List Oper) (i : Nat) : lkA l.toArray i = lkL l i := by simp [lkA, lkL]
@[simp ↓] theorem lkL_zero (o : Oper) (l : List Oper) : lkL (o :: l) 0 = some o := (rfl)
@[simp ↓] theorem lkL_succ (o : Oper) (l : List Oper) (i : Nat) : lkL (o :: l) (i + 1) = lkL l i := (rfl)
/-- One operation is run. -/
def eR (P : Program) (T : Tab) (n : Nat) (ops : Array Oper) (o : Oper) (fr : Fr) (σ : Heap) (K : Fr → Prop) (_ : TgZ K) : Prop := dstOk n o = true ∧ ∃ U, YF P T σ ops o U fr ∧ K (frSet fr o.dst U)
def eC (P : Program) (T : Tab) (ops : Array Oper) (o : Oper) (fr : Fr) (σ : Heap) (X : Prop) (_ : TgZ3 X) : Prop := chkP P T σ ops o fr ∧ X
def eE (P : Program) (T : Tab) (n : Nat) (ops : Array Oper) (o : Oper) (fr : Fr) (σ : Heap) (K : Fr → Heap → Prop) (_ : TgZ2 K) : Prop := dstOk n o = true ∧ effP P ops σ fr o fun V σ' => K (frSet fr o.dst V) σ'
@[simp ↓] theorem xT_nil (t : TgY ops Q tl) : xT P T rd n ops Q tl [] fr σ t = pT P T rd n ops Q tl fr σ {} := (rfl)
@[simp ↓] theorem xT_r (i : Nat) (l : List Stp) (t : TgY ops Q tl) : xT P T rd n ops Q tl (.r i :: l) fr σ t = OS (lkA ops i) (fun o => eR P T n ops o fr σ (fun fr' => xT P T rd n ops Q tl l fr' σ {}) {}) {} := by
  simp only [xT, eT, lkA, OS, eR]
  cases ops[i]? with
  | none => simp
  | some o => simp
@[simp ↓] theorem xT_c (i : Nat) (l : List Stp) (t : TgY ops Q tl) : xT P T rd n ops Q tl (.c i :: l) fr σ t = OS (lkA ops i) (fun o => eC P T ops o fr σ (xT P T rd n ops Q tl l fr σ {}) {}) {} := by
  simp only [xT, eT, lkA, OS, eC]
  cases ops[i]? with
  | none => simp
  | some o => simp
@[simp ↓] theorem xT_e (i : Nat) (l : List Stp) (t : TgY ops Q tl) : xT P T rd n ops Q tl (.e i :: l) fr σ t = OS (lkA ops i) (fun o => eE P T n ops o fr σ (fun fr' σ' => xT P T rd n ops Q tl l fr' σ' {}) {}) {} := by
  simp only [xT, eT, lkA, OS, eE]
  cases ops[i]? with
  | none => simp
  | some o => simp
section
variable (dst : Option Tmp) (op : Op) (ty : TypeId) (pos : String) (after : Array Edge)
@[simp ↓] theorem eR_plain (K : Fr → Prop) (t : TgZ K) : eR P T n ops { dst, op, type := ty, pos, after, guard := none } fr σ K t = (dB n dst = true ∧ ER (evo P T σ fr op) (fun V => K (frSet fr dst V)) {}) := by
  simp only [eR, YF, evc_evo, ER]
  rw [show dstOk n { dst, op, type := ty, pos, after, guard := none } = dB n dst by cases dst <;> rfl]
  refine propext ⟨fun ⟨a, U, ⟨h1, h2⟩, h3⟩ => ⟨a, h1, h2 ▸ h3⟩, fun ⟨a, h1, h3⟩ => ⟨a, _, ⟨h1, rfl⟩, h3⟩⟩
@[simp ↓] theorem eR_guard (j : Nat) (w : Bool) (K : Fr → Prop) (t : TgZ K) : eR P T n ops { dst, op, type := ty, pos, after, guard := some (j, w) } fr σ K t =
    (dB n dst = true ∧ OS (gsl ops.toList j) (fun d => VK (gvp (fr d) w) (fun g => GB g (evo P T σ fr op) (fun V => K (frSet fr dst V)) {}) {}) {}) := by
  simp only [eR, YF, evc_evo, OS, VK, GB, gval_gvp]
  rw [show dstOk n { dst, op, type := ty, pos, after, guard := some (j, w) } = dB n dst by cases dst <;> rfl]
  cases gsl ops.toList j with
  | none => simp
  | some d =>
    simp only
    cases gvp (fr d) w with
    | none => simp
    | some g =>
      simp only
      refine propext ⟨fun ⟨a, U, ⟨g', h1, h2, h3⟩, h4⟩ => ?_, fun ⟨a, h1, h3⟩ => ⟨a, _, ⟨g, rfl, h1, rfl⟩, h3⟩⟩
      cases h1
      subst h3
      exact ⟨a, h2, h4⟩
@[simp ↓] theorem eC_plain (d : Tmp) (X : Prop) (t : TgZ3 X) : eC P T ops { dst := some d, op, type := ty, pos, after, guard := none } fr σ X t = ER (evo P T σ fr op) (fun V => fr d = V ∧ X) {} := by
  simp only [eC, chkP, YF, evc_evo, ER]
  refine propext ⟨fun ⟨⟨U, ⟨h1, h2⟩, h3⟩, h4⟩ => ⟨h1, by rw [← h2]; exact h3 d rfl, h4⟩, fun ⟨h1, h2, h3⟩ => ⟨⟨_, ⟨h1, rfl⟩, fun d' e => by cases e; exact h2⟩, h3⟩⟩
@[simp ↓] theorem eC_none (X : Prop) (t : TgZ3 X) : eC P T ops { dst := none, op, type := ty, pos, after, guard := none } fr σ X t = ER (evo P T σ fr op) (fun _ => X) {} := by
  simp only [eC, chkP, YF, evc_evo, ER]
  refine propext ⟨fun ⟨⟨U, ⟨h1, h2⟩, h3⟩, h4⟩ => ⟨h1, h4⟩, fun ⟨h1, h3⟩ => ⟨⟨_, ⟨h1, rfl⟩, fun d' e => by cases e⟩, h3⟩⟩
@[simp ↓] theorem eC_guard (d : Tmp) (j : Nat) (w : Bool) (X : Prop) (t : TgZ3 X) : eC P T ops { dst := some d, op, type := ty, pos, after, guard := some (j, w) } fr σ X t =
    OS (gsl ops.toList j) (fun d' => VK (gvp (fr d') w) (fun g => GB g (evo P T σ fr op) (fun V => fr d = V ∧ X) {}) {}) {} := by
  simp only [eC, chkP, YF, evc_evo, OS, VK, GB, gval_gvp]
  cases gsl ops.toList j with
  | none => simp
  | some d' =>
    simp only
    cases gvp (fr d') w with
    | none => simp
    | some g =>
      simp only
      refine propext ⟨fun ⟨⟨U, ⟨g', h1, h2, h3⟩, h5⟩, h4⟩ => ?_, fun ⟨h1, h2, h3⟩ => ⟨⟨_, ⟨g, rfl, h1, rfl⟩, fun d' e => by cases e; exact h2⟩, h3⟩⟩
      cases h1
      subst h3
      exact ⟨h2, h5 d rfl, h4⟩
theorem eE_heap {op : Op} (hq : quietC T fr op = false) (hk : heapK op = true) (K : Fr → Heap → Prop) (t : TgZ2 K) (h : ∀ C, effP P ops σ fr { dst, op, type := ty, pos, after, guard := none } C = gstep P σ fr op C) :
    eE P T n ops { dst, op, type := ty, pos, after, guard := none } fr σ K t = pT P T rd n ops (EQ K) [{ dst, op, type := ty, pos, after, guard := none }] fr σ {} := by
  rw [pT_heap dst ty pos after hq hk]
  simp only [eE, h]
  rw [show dstOk n { dst, op, type := ty, pos, after, guard := none } = dB n dst by cases dst <;> rfl]
  rfl
theorem effP_heap {op : Op} (h : ∀ c fo, op = .call c → c.callee ≠ .value fo) (C : PV → Heap → Prop) : effP P ops σ fr { dst, op, type := ty, pos, after, guard := none } C = gstep P σ fr op C := by
  refine propext ⟨fun h0 => ?_, fun h1 => .inl ⟨by simp [gval], .inl h1⟩⟩
  rcases h0 with ⟨_, h1⟩ | ⟨h0, _⟩
  · exact h1.resolve_right fun ⟨c, g, args, K', e1, e2, _⟩ => h c _ e1 e2
  · simp [gval] at h0
@[simp ↓] theorem eE_store (b : TypeId) (a x : Operand) (K : Fr → Heap → Prop) (t : TgZ2 K) : eE P T n ops { dst, op := .store b a x, type := ty, pos, after, guard := none } fr σ K t = pT P T false n ops (EQ K) [{ dst, op := .store b a x, type := ty, pos, after, guard := none }] fr σ {} :=
  eE_heap dst ty pos after rfl rfl K t (effP_heap dst ty pos after fun c fo e => by cases e)
@[simp ↓] theorem eE_box (b : TypeId) (x : Operand) (K : Fr → Heap → Prop) (t : TgZ2 K) : eE P T n ops { dst, op := .box b x, type := ty, pos, after, guard := none } fr σ K t = pT P T false n ops (EQ K) [{ dst, op := .box b x, type := ty, pos, after, guard := none }] fr σ {} :=
  eE_heap dst ty pos after rfl rfl K t (effP_heap dst ty pos after fun c fo e => by cases e)
@[simp ↓] theorem eE_alloc (b : TypeId) (K : Fr → Heap → Prop) (t : TgZ2 K) : eE P T n ops { dst, op := .alloc b, type := ty, pos, after, guard := none } fr σ K t = pT P T false n ops (EQ K) [{ dst, op := .alloc b, type := ty, pos, after, guard := none }] fr σ {} :=
  eE_heap dst ty pos after rfl rfl K t (effP_heap dst ty pos after fun c fo e => by cases e)
@[simp ↓] theorem eE_make (b : TypeId) (x y : Operand) (K : Fr → Heap → Prop) (t : TgZ2 K) : eE P T n ops { dst, op := .makeSlice b x y, type := ty, pos, after, guard := none } fr σ K t = pT P T false n ops (EQ K) [{ dst, op := .makeSlice b x y, type := ty, pos, after, guard := none }] fr σ {} :=
  eE_heap dst ty pos after rfl rfl K t (effP_heap dst ty pos after fun c fo e => by cases e)
@[simp ↓] theorem eE_append (as) (ts) (K : Fr → Heap → Prop) (t : TgZ2 K) : eE P T n ops { dst, op := .call { callee := .builtin .append, args := as, argTypes := ts }, type := ty, pos, after, guard := none } fr σ K t =
    pT P T false n ops (EQ K) [{ dst, op := .call { callee := .builtin .append, args := as, argTypes := ts }, type := ty, pos, after, guard := none }] fr σ {} :=
  eE_heap dst ty pos after rfl rfl K t (effP_heap dst ty pos after fun c fo e => by cases e; simp)
end
/-- A call that is taken on by hand. -/
theorem eE_call {dst ty pos after as ts} {g : FuncId} {K' : Out → Heap → Prop} {args : List PV} {K : Fr → Heap → Prop} {t : TgZ2 K} (he : Enters P g) (h : pcalls P g args σ K') (hd : dB n dst = true) (ha : avL fr as) (hargs : svL fr as = args)
    (hK : ∀ o' σ', K' o' σ' → ∃ v, o' = .val v ∧ K (frSet fr dst v) σ') : eE P T n ops { dst, op := .call { callee := .value (.func g), args := as.toArray, argTypes := ts }, type := ty, pos, after, guard := none } fr σ K t := by
  rw [avL_iff] at ha
  refine ⟨by rw [← hd]; cases dst <;> rfl, .inl ⟨by simp [gval], .inr ⟨_, g, args, K', rfl, rfl, he, by simpa using ha, by rw [← hargs, svL_map]; rfl, h, hK⟩⟩⟩
/-- .. under a guard that holds. -/
theorem eE_callG {dst ty pos after as ts} {g : FuncId} {j : Nat} {w : Bool} {K' : Out → Heap → Prop} {args : List PV} {K : Fr → Heap → Prop} {t : TgZ2 K} (he : Enters P g) (hgv : (match gsl ops.toList j with | some d => gvp (fr d) w | none => none) = some true) (h : pcalls P g args σ K') (hd : dB n dst = true) (ha : avL fr as) (hargs : svL fr as = args)
    (hK : ∀ o' σ', K' o' σ' → ∃ v, o' = .val v ∧ K (frSet fr dst v) σ') : eE P T n ops { dst, op := .call { callee := .value (.func g), args := as.toArray, argTypes := ts }, type := ty, pos, after, guard := some (j, w) } fr σ K t := by
  rw [avL_iff] at ha
  refine ⟨by rw [← hd]; cases dst <;> rfl, .inl ⟨by rw [gval_gvp]; exact hgv, .inr ⟨_, g, args, K', rfl, rfl, he, by simpa using ha, by rw [← hargs, svL_map]; rfl, h, hK⟩⟩⟩
/-- .. that does not. -/
theorem eE_skip {dst op ty pos after} {j : Nat} {w : Bool} {K : Fr → Heap → Prop} {t : TgZ2 K} (hgv : (match gsl ops.toList j with | some d => gvp (fr d) w | none => none) = some false) (hd : dB n dst = true)
    (hK : K (frSet fr dst (.lit undef)) σ) : eE P T n ops { dst, op, type := ty, pos, after, guard := some (j, w) } fr σ K t :=
  ⟨by rw [← hd]; cases dst <;> rfl, .inr ⟨by rw [gval_gvp]; exact hgv, hK⟩⟩

/-- **A region that draws its order and writes in a chain**: k operations of it, the writes es among them, in the order of the plan. -/
theorem pwp_drawX (hT : T.ok P) (k : Nat) (es : List Nat) (plan : List Stp) {id : Nat} (hm : P.follows .mixedOrders = true) (hB : drawE ops k es plan = true)
    (h : VK (ops.toList.drop k) (fun tl => xT P T rd n ops Q tl plan fr σ {}) {}) : pwp P rd n (.region id ops true) Q fr σ :=
  pwp_drawE hT k es plan hm hB h
end
end Go.Lo

/-
  The program logic 'Lo', part Zg: sets kept as maps to bool; closures called by hand; calls under a guard by hand. Nothing of the program.
-/
set_option linter.unusedSimpArgs false
set_option linter.unusedVariables false
namespace Go.Lo
open Go

/-! ### Maps to bool whose values are all true: sets -/
structure KeyOk {α : Type} [DecidableEq α] (P : Program) (kt : TypeId) (enc : α → PV) : Prop where
  t : keyT P kt = true
  eq : ∀ a b, kEq P kt (enc a) (enc b) = ⟨True, .lit (.bool (decide (a = b)))⟩
  plain : ∀ a, plainK (enc a) = true
section
variable {α : Type} [DecidableEq α] {P : Program} {t kt et : TypeId} {enc : α → PV} {σ : Heap}
def setM (enc : α → PV) (ks : List α) : List (PV × PV) := ks.map fun a => (enc a, .lit (.bool true))
def addK (ks : List α) (a : α) : List α := if a ∈ ks then ks else ks ++ [a]
theorem mem_addK {ks : List α} {a b : α} : b ∈ addK ks a ↔ b = a ∨ b ∈ ks := by
  unfold addK
  split
  · rename_i h
    exact ⟨.inr, fun h' => h'.elim (fun e => e ▸ h) id⟩
  · simp [or_comm]
theorem mfind_set (hk : KeyOk P kt enc) (a : α) : ∀ (ks : List α) (i : Nat), (a ∈ ks → ∃ j, mfind P kt (enc a) (setM enc ks) i = some (i + j, .lit (.bool true)) ∧ ks[j]? = some a) ∧ (a ∉ ks → mfind P kt (enc a) (setM enc ks) i = none) := by
  intro ks
  induction ks with
  | nil => intro i; exact ⟨fun h => absurd h (by simp), fun _ => rfl⟩
  | cons b ks ih =>
    intro i
    have e : mfind P kt (enc a) (setM enc (b :: ks)) i = if boolP (.lit (.bool (decide (a = b)))) then some (i, .lit (.bool true)) else mfind P kt (enc a) (setM enc ks) (i + 1) := by
      simp only [setM, List.map_cons, mfind, hk.eq]
    rw [e]
    by_cases h : a = b
    · subst h
      exact ⟨fun _ => ⟨0, by simp [boolP], rfl⟩, fun h => absurd (List.mem_cons_self ..) h⟩
    · have hb : boolP (.lit (.bool (decide (a = b)))) = false := by simp [boolP, h]
      rw [hb]
      simp only [Bool.false_eq_true, if_false]
      obtain ⟨h1, h2⟩ := ih (i + 1)
      refine ⟨fun hm => ?_, fun hm => h2 fun h' => hm (List.mem_cons_of_mem _ h')⟩
      obtain ⟨j, q1, q2⟩ := h1 ((List.mem_cons.1 hm).resolve_left h)
      exact ⟨j + 1, by rw [q1]; congr 2; omega, by simpa using q2⟩
theorem evLook_set (hk : KeyOk P kt enc) (hm : mapT P t = some (kt, et)) (hz : zeroL P et = some (.bool false)) {id : Nat} {ks : List α} (hs : σ id = some (.map (setM enc ks))) (a : α) :
    (evLook P σ t (.map id) (enc a)).D ∧ (evLook P σ t (.map id) (enc a)).V = .lit (.bool (decide (a ∈ ks))) := by
  unfold evLook
  simp only [hm, hs, hz]
  refine ⟨⟨hk.t, by rw [hk.eq]; trivial, fun e he => ?_⟩, ?_⟩
  · obtain ⟨b, _, rfl⟩ := List.mem_map.1 he
    rw [hk.eq]; trivial
  · by_cases h : a ∈ ks
    · obtain ⟨j, q1, _⟩ := (mfind_set hk a ks 0).1 h
      rw [q1]; simp [h]
    · rw [(mfind_set hk a ks 0).2 h]; simp [h]
theorem updP_set (hk : KeyOk P kt enc) (hm : mapT P t = some (kt, et)) {id : Nat} {ks : List α} (hs : σ id = some (.map (setM enc ks))) (a : α) {C : Heap → Prop} (hC : C (σ.set id (.map (setM enc (addK ks a))))) :
    updP P σ t (.map id) (enc a) (.lit (.bool true)) C := by
  unfold updP
  simp only [hm, hs]
  have e : updE P kt (enc a) (.lit (.bool true)) (setM enc ks) = setM enc (addK ks a) := by
    unfold updE addK
    by_cases h : a ∈ ks
    · obtain ⟨j, q1, q2⟩ := (mfind_set hk a ks 0).1 h
      rw [q1, if_pos h]
      simp only [Nat.zero_add]
      apply List.ext_getElem?
      intro i
      rw [List.getElem?_set]
      split
      · rename_i hij
        subst hij
        have hj : j < ks.length := by
          rcases Nat.lt_or_ge j ks.length with h1 | h1
          · exact h1
          · rw [List.getElem?_eq_none h1] at q2; cases q2
        have : j < (setM enc ks).length := by simpa [setM] using hj
        rw [if_pos this]
        simp [setM, q2]
      · rfl
    · rw [(mfind_set hk a ks 0).2 h, if_neg h]
      simp [setM]
  refine ⟨hk.t, hk.plain a, by rw [hk.eq]; trivial, fun x hx => ?_, fun x hx hb => ?_, by rw [e]; exact hC⟩
  · obtain ⟨b, _, rfl⟩ := List.mem_map.1 hx
    rw [hk.eq]; trivial
  · obtain ⟨b, _, rfl⟩ := List.mem_map.1 hx
    rw [hk.eq] at hb
    simp [boolP] at hb
    rw [hb]
end
theorem keyOk_int {P : Program} {t : TypeId} (ht : P.underlying t = some (.int .i64)) : KeyOk P t (fun x : Int => .lit (.int .i64 x)) where
  t := by unfold keyT; rw [ht]; rfl
  eq a b := by
    unfold kEq
    simp only [ht]
    congr 1
    · simp [scalarD, litFit]
  plain a := rfl

/-! ### In a walk, by hand -/
@[simp] theorem isQ_lookup (t a b c) : isQ (.lookup t a b c) = false := rfl
@[simp] theorem isQ_mapUpdate (t a b c) : isQ (.mapUpdate t a b c) = false := rfl
@[simp] theorem isQ_makeMap (t a) : isQ (.makeMap t a) = false := rfl
section
variable {P : Program} {T : Tab} {rd : Bool} {n : Nat} {ops : Array Oper} {σ : Heap} {fr : Fr} {Q : PX → Fr → Heap → Prop} {l : List Oper} {dst : Option Tmp} {ty : TypeId} {pos : String} {after : Array Edge}
theorem popsT_makeMap (hT : T.ok P) {t : TypeId} {tg : TgX ops Q ({ dst, op := .makeMap t none, type := ty, pos, after, guard := none } :: l)} (hd : dB n dst = true)
    (h : ∀ id, frs σ id → pT P T rd n ops Q l (frSet fr dst (.map id)) (σ.set id (.map [])) {}) : popsT P T rd n ops Q ({ dst, op := .makeMap t none, type := ty, pos, after, guard := none } :: l) tg fr σ :=
  pT_makeMap (tg := {}) hT hd h
theorem popsT_lookup (hT : T.ok P) {t : TypeId} {m k : Operand} {tg : TgX ops Q ({ dst, op := .lookup t m k false, type := ty, pos, after, guard := none } :: l)} (hd : dB n dst = true) {V p q : PV} (hm : avt (opv fr m)) (hk : avt (opv fr k)) (hmv : sv (opv fr m) = p) (hkv : sv (opv fr k) = q)
    (he : (evLook P σ t p q).D ∧ (evLook P σ t p q).V = V)
    (h : pT P T rd n ops Q l (frSet fr dst V) σ {}) : popsT P T rd n ops Q ({ dst, op := .lookup t m k false, type := ty, pos, after, guard := none } :: l) tg fr σ :=
  pT_lookup (tg := {}) hT hd hm hk (by rw [hmv, hkv]; exact he) h
theorem popsT_lookupG (hT : T.ok P) {t : TypeId} {m k : Operand} {j : Nat} {w g : Bool} {tg : TgX ops Q ({ dst, op := .lookup t m k false, type := ty, pos, after, guard := some (j, w) } :: l)} {V p q : PV} (hd : dB n dst = true)
    (hg : (match gsl ops.toList j with | some d => gvp (fr d) w | none => none) = some g)
    (he : g = true → (avt (opv fr m) ∧ avt (opv fr k)) ∧ sv (opv fr m) = p ∧ sv (opv fr k) = q ∧ (evLook P σ t p q).D ∧ (evLook P σ t p q).V = V)
    (h : pT P T rd n ops Q l (frSet fr dst (.gd g V)) σ {}) : popsT P T rd n ops Q ({ dst, op := .lookup t m k false, type := ty, pos, after, guard := some (j, w) } :: l) tg fr σ :=
  pT_lookupG (tg := {}) hT (by rw [gval_gvp]; exact hg) hd (fun e => let ⟨h1, h2, h3, h4⟩ := he e; ⟨h1, by rw [h2, h3]; exact h4⟩) h
theorem popsT_mapUpdate (hT : T.ok P) {t : TypeId} {m k x : Operand} {tg : TgX ops Q ({ dst, op := .mapUpdate t m k x, type := ty, pos, after, guard := none } :: l)} {p q r : PV} (hd : dB n dst = true) (hm : avt (opv fr m)) (hk : avt (opv fr k)) (hx : avt (opv fr x))
    (hmv : sv (opv fr m) = p) (hkv : sv (opv fr k) = q) (hxv : sv (opv fr x) = r)
    (h : updP P σ t p q r fun σ' => pT P T rd n ops Q l (frSet fr dst (.lit undef)) σ' {}) : popsT P T rd n ops Q ({ dst, op := .mapUpdate t m k x, type := ty, pos, after, guard := none } :: l) tg fr σ :=
  pT_mapUpdate (tg := {}) hT hd hm hk hx (by rw [hmv, hkv, hxv]; exact h)
/-- A closure's call. -/
theorem popsT_callv (hT : T.ok P) {as ts} {x : Tmp} {g : FuncId} {first cap : List PV} {K : Out → Heap → Prop} {args : List PV} {t : TgX ops Q ({ dst, op := .call { callee := .value (.tmp x), args := as.toArray, argTypes := ts }, type := ty, pos, after, guard := none } :: l)} (he : Enters P g)
    (hx : sv (fr x) = .fn (.func g) first cap) (hxa : avt (fr x)) (h : pcalls P g (first ++ args ++ cap) σ K) (hg : T.dom g = false) (hd : dB n dst = true) (ha : avL fr as) (hargs : svL fr as = args)
    (hK : ∀ o' σ', K o' σ' → match o' with | .val v => pT P T rd n ops Q l (frSet fr dst v) σ' {} | .pan v => Q (.pan v) fr σ') :
    popsT P T rd n ops Q ({ dst, op := .call { callee := .value (.tmp x), args := as.toArray, argTypes := ts }, type := ty, pos, after, guard := none } :: l) t fr σ := by
  rw [avL_iff] at ha
  refine popsT_of_pops (show (match sv (fr x) with | .fn (.func g) _ _ => T.dom g | _ => false) = false by rw [hx]; exact hg) ?_
  refine pops_gop (by simp [gval]) (by rw [← hd]; cases dst <;> rfl) (gop_call (first := first) (captured := cap) rfl rfl hx hxa he (by simpa using ha) ?_)
  rw [show argsP fr as.toArray = args by rw [← hargs, svL_map]; rfl]
  refine h.mono fun o' σ' k => ?_
  have := hK o' σ' k
  cases o' with
  | val v => exact pops_pst hT this
  | pan v => exact this
/-- A call under a guard that holds. -/
theorem popsT_callG (hT : T.ok P) {as ts} {g : FuncId} {j : Nat} {w : Bool} {K : Out → Heap → Prop} {args : List PV} {t : TgX ops Q ({ dst, op := .call { callee := .value (.func g), args := as.toArray, argTypes := ts }, type := ty, pos, after, guard := some (j, w) } :: l)} (he : Enters P g)
    (hgv : (match gsl ops.toList j with | some d => gvp (fr d) w | none => none) = some true) (h : pcalls P g args σ K) (hg : T.dom g = false) (hd : dB n dst = true) (ha : avL fr as) (hargs : svL fr as = args)
    (hK : ∀ o' σ', K o' σ' → match o' with | .val v => pT P T rd n ops Q l (frSet fr dst v) σ' {} | .pan v => Q (.pan v) fr σ') :
    popsT P T rd n ops Q ({ dst, op := .call { callee := .value (.func g), args := as.toArray, argTypes := ts }, type := ty, pos, after, guard := some (j, w) } :: l) t fr σ := by
  rw [avL_iff] at ha
  have hq : quietC T fr (.call { callee := .value (.func g), args := as.toArray, argTypes := ts }) = false := hg
  have e : heapK (.call { callee := .value (.func g), args := as.toArray, argTypes := ts }) = false := rfl
  simp only [popsT, pst, hq, e]
  refine pops_gop (by rw [gval_gvp]; exact hgv) (by rw [← hd]; cases dst <;> rfl) (gop_call (first := []) (captured := []) rfl rfl rfl trivial he (by simpa using ha) ?_)
  simp only [List.nil_append, List.append_nil]
  rw [show argsP fr as.toArray = args by rw [← hargs, svL_map]; rfl]
  refine h.mono fun o' σ' k => ?_
  have := hK o' σ' k
  cases o' with
  | val v => exact pops_pst hT this
  | pan v => exact this
/-- .. that does not. -/
theorem popsT_skip (hT : T.ok P) {c : Call} {j : Nat} {w : Bool} {t : TgX ops Q ({ dst, op := .call c, type := ty, pos, after, guard := some (j, w) } :: l)} (hq : quietC T fr (.call c) = false)
    (hgv : (match gsl ops.toList j with | some d => gvp (fr d) w | none => none) = some false) (hd : dB n dst = true)
    (h : pT P T rd n ops Q l (frSet fr dst (.lit undef)) σ {}) : popsT P T rd n ops Q ({ dst, op := .call c, type := ty, pos, after, guard := some (j, w) } :: l) t fr σ := by
  simp only [popsT, pst, hq, Option.isNone_some, Bool.and_false, Bool.false_eq_true, if_false]
  exact pops_skip (by rw [gval_gvp]; exact hgv) (by rw [← hd]; cases dst <;> rfl) (pops_pst hT h)
end
end Go.Lo
