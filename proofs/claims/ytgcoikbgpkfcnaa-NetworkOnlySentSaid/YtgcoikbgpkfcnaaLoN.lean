/-
  The program logic 'Lo', part N: ranges over functions. Nothing of the program.
-/
import Derived.Test.YtgcoikbgpkfcnaaLoM
set_option linter.unusedSimpArgs false
set_option linter.unusedVariables false
namespace Go.Lo
open Go

section
variable {P : Program} {rd : Bool} {n : Nat} {fr : Fr} {σ : Heap} {G : Gh} {W : World}

theorem evol_junk (hr : HRel G W σ) (ob : Obj) : HRel G (W.alloc ob) σ ∧ Evol G W σ G (W.alloc ob) σ := by
  have hE : Ext G W G (W.alloc ob) := ⟨fun _ _ h => h, fun b o hs => by obtain ⟨v, hv⟩ := hr.stab b o hs; exact World.cell_block (heap_alloc_old W ob (lt_of_cell hv)), fun _ _ h => h,
    fun b s hs => (shape_block (heap_alloc_old W ob (lt_of_shape hs))).trans hs⟩
  refine ⟨⟨fun id o ho => ?_, hr.inj, fun b o hs => ?_, hr.bnd⟩, ?_⟩
  · obtain ⟨loc, l1, l2, l3⟩ := hr.obj id o ho
    exact ⟨loc, l1, l2.mono hE (heap_alloc_old W ob (img_lt hr ⟨id, loc, by rw [ho]; simp, l1, rfl⟩)), l3⟩
  · obtain ⟨v, hv⟩ := hr.stab b o hs
    exact ⟨v, (hE.cell b o hs).trans hv⟩
  · exact
    { os := rfl, tape := rfl, output := rfl, size := by rw [size_alloc]; omega
      keep := fun b hb _ => heap_alloc_old W ob hb
      shape := hE.shape, S := fun _ _ h => h, snew := fun _ _ h => .inl h, β := fun _ _ h => h
      own := fun b hb => .inr hb, fresh := fun id h => .inl h }

/-- A round of the loop 'L', as yield asks for it. -/
def yruns (P : Program) (L : Nat) (args : List PV) (σ : Heap) (K : Out → Heap → Prop) : Prop :=
  ∀ (G : Gh) (W : World) (r : Option Nat) (m : Nat) (xs : Array Value) (l : Nat), HRel G W σ → RelL G W args xs → G.β L = some (l, 0) →
    ∃ f tmps as bd, (Instr.yield l xs).run P W = .ok (.round l f tmps as bd) W ∧
      RoundIn (FW r) m P l f tmps as bd W fun e W' => ∃ o σ' G', K o σ' ∧ OutRel G' W' o e ∧ Evol G W σ G' W' σ' ∧ HRel G' W' σ'

theorem yruns.mono {L : Nat} {args : List PV} {K K' : Out → Heap → Prop} (h : yruns P L args σ K) (hK : ∀ o σ', K o σ' → K' o σ') : yruns P L args σ K' :=
  fun G W r m xs l h1 h2 h3 =>
    let ⟨f, tmps, as, bd, k1, k2⟩ := h G W r m xs l h1 h2 h3
    ⟨f, tmps, as, bd, k1, k2.mono fun _ _ ⟨o, σ', G', q1, q2⟩ => ⟨o, σ', G', hK _ _ q1, q2⟩⟩

theorem yruns.frame {L : Nat} {args : List PV} {σ1 : Heap} {K : Out → Heap → Prop} (h : yruns P L args σ1 K) (hs : ∀ id x, σ1 id = some x → σ id = some x) :
    yruns P L args σ fun o σ' => ∃ σ1', K o σ1' ∧ σ' = σ.patch σ1 σ1' ∧ ∀ id, σ1 id = none → σ id ≠ none → σ1' id = none :=
  fun G W r m xs l h1 h2 h3 =>
    let ⟨f, tmps, as, bd, k1, k2⟩ := h G W r m xs l (h1.less hs) h2 h3
    ⟨f, tmps, as, bd, k1, k2.mono fun _ _ ⟨o, σ1', G', q1, q2, q3, q4⟩ => by
      obtain ⟨p1, p2⟩ := frame_patch hs h1 q3 q4
      refine ⟨o, _, G', ⟨σ1', q1, rfl, fun id hid hn => ?_⟩, q2, p2, p1⟩
      cases hx : σ1' id with
      | none => rfl
      | some x =>
        rcases q3.fresh id (by rw [hx]; simp) with q | q
        · exact absurd hid q
        · obtain ⟨y, hy⟩ := some_of_ne hn
          obtain ⟨loc, l1, _⟩ := h1.obj id y hy
          rw [q] at l1; cases l1⟩

/-- One more object beside. -/
theorem yruns.beside {L id : Nat} {x : PObj} {args : List PV} {K : Out → Heap → Prop} (h : yruns P L args σ K) (hid : σ id = none) :
    yruns P L args (σ.set id x) fun o σ' => ∃ σ1, σ1 id = none ∧ σ' = σ1.set id x ∧ K o σ1 := by
  refine (h.frame (σ := σ.set id x) fun j y hy => ?_).mono ?_
  · rw [Heap.set_apply, if_neg (fun e => by subst e; rw [hid] at hy; cases hy)]; exact hy
  · rintro o σ' ⟨σ1, k1, rfl, k2⟩
    have hn : σ1 id = none := k2 id hid (by rw [Heap.set_apply, if_pos rfl]; simp)
    refine ⟨σ1, hn, funext fun j => ?_, k1⟩
    unfold Heap.patch Heap.set
    by_cases e : j = id
    · subst e; simp [hn, hid]
    · simp only [if_neg e]
      cases h1 : σ1 j with
      | some y => simp
      | none =>
        simp only [Option.isSome_none, Bool.false_eq_true, if_false]
        cases h2 : σ j with
        | some y => simp
        | none => simp

theorem wpIn_round {o : Oper} {A : Act} {W W' : World} {r : Option Nat} {m : Nat} {next : Act → World → Prop} {Q : Exit → Act → World → Prop} {l : Nat} {f : FuncId} {tmps : Array Value} {as bd : Code} {R : Ending → World → Prop} (hd : ∀ c, o.op ≠ .defer c)
    (hr : (execOp A.eval o).run P W = .ok (.round l f tmps as bd) W') (hc : RoundIn (FW r) (m - 1) P l f tmps as bd W' R)
    (hR : ∀ e w, R e w → match e with
      | .returned v => next (A.put o.dst v) w
      | .panicked ch => Q (.panic ch) A w
      | .outgrown => False) : o.wpIn (FW r) m P A W next Q := by
  refine ⟨fun _ _ => trivial, ?_⟩
  rw [show (FW r).round = r from rfl, semAt_exec hd, hr]
  refine And.intro (fun h => by cases h) ?_
  refine hc.mono fun e w k => ?_
  have := hR e w k
  cases e with
  | returned v => exact this
  | panicked ch => exact this
  | outgrown => exact this.elim

theorem gop_yield {o : Oper} {c : Call} {fo : Operand} {L : Nat} {K : Out → Heap → Prop} (ho : o.op = .call c) (hcl : c.callee = .value fo) (hg : sv (opv fr fo) = .yld L) (hga : avt (opv fr fo))
    (ha : ∀ x ∈ c.args.toList, avt (opv fr x)) (h : yruns P L (argsP fr c.args) σ K) : gop P rd n o fr σ K := by
  intro G W A r m _ h2 h3 next Q hn hp
  have hf := sv_rel (opv_rel h3 fo) hga
  rw [hg] at hf
  generalize hv : A.eval fo = v at hf
  cases hf with
  | yld _ l g1 =>
  have hargs : RelL G W (argsP fr c.args) (c.args.map A.eval) := list_rel h3 ha
  obtain ⟨f, tmps, as, bd, k1, k2⟩ := h G W r (m - 1) _ l h2 hargs g1
  have hrun : (execOp A.eval o).run P W = .ok (.round l f tmps as bd) W := by
    simp only [execOp, ho, resolve, hcl, hv, Deferred.ofValue, Sem.run_bind, Sem.run_pure, Result.andThen_ok, invoke]
    simpa using k1
  refine wpIn_round (fun c' hc => by rw [ho] at hc; cases hc) hrun k2 ?_
  rintro e W' ⟨out, σ', G', q1, q2, q3, q4⟩
  cases e with
  | returned x => cases out <;> simp only [OutRel] at q2; exact hn _ _ _ _ _ q1 q3 q4 q2
  | panicked ch =>
    cases out <;> simp only [OutRel] at q2
    obtain ⟨x, rfl, hx⟩ := q2
    exact hp _ _ _ _ _ q1 q3 q4 hx
  | outgrown => cases out <;> simp only [OutRel] at q2

def setPs (fr : Fr) : List Tmp → List PV → Fr
  | t :: ts, a :: as => setPs (fr.set t a) ts as
  | _, _ => fr

theorem setPs_rel : ∀ {ts : List Tmp} {as : List PV} {xs : List Value} {fr : Fr} {tmps : Array Value}, TRel G W n fr tmps → (∀ t ∈ ts, t < n) → ts.length = as.length → xs.length = as.length → (∀ i, i < as.length → VRel G W (as.getD i .any) (xs.getD i undef)) →
    TRel G W n (setPs fr ts as) ((ts.zip xs).foldl (fun tmps (x : Tmp × Value) => tmps.setIfInBounds x.1 x.2) tmps) := by
  intro ts
  induction ts with
  | nil => intro as xs fr tmps h _ _ _ _; simpa [setPs] using h
  | cons t ts ih =>
    intro as xs fr tmps h hlt h1 h2 h3
    match as, xs, h1, h2 with
    | a :: as, x :: xs, h1, h2 =>
      simp only [setPs, List.zip_cons_cons, List.foldl_cons]
      refine ih ?_ (fun t ht => hlt t (List.mem_cons_of_mem _ ht)) (by simpa using h1) (by simpa using h2) (fun i hi => by have := h3 (i + 1) (by simpa using hi); simpa using this)
      have := h.put (A := { tmps := tmps, defers := [] }) (V := a) (v := x) (by have := h3 0 (by simp); simpa using this) (dst := some t) (fun d hd => by cases hd; exact hlt t (List.mem_cons_self ..))
      exact this

def rndQ (L : Nat) (frL : Fr) (nL : Nat) (ps : Array Tmp) (as bd : Code) (K : Out → Heap → Prop) : PX → Fr → Heap → Prop
  | .normal, _, σ => (∃ st pe, σ L = some (.loop frL nL ps as bd st pe)) ∧ K (.val (.lit (.bool true))) (σ.set L (.loop frL nL ps as bd .ready none))
  | .ret, _, σ => (∃ st pe, σ L = some (.loop frL nL ps as bd st pe)) ∧ K (.val (.lit (.bool false))) (σ.set L (.loop frL nL ps as bd .done (some .ret)))
  | .exit id, _, σ => (∃ st pe, σ L = some (.loop frL nL ps as bd st pe)) ∧ K (.val (.lit (.bool false))) (σ.set L (.loop frL nL ps as bd .done (some (.exit id))))
  | .goto t, _, σ => (∃ st pe, σ L = some (.loop frL nL ps as bd st pe)) ∧ K (.val (.lit (.bool false))) (σ.set L (.loop frL nL ps as bd .done (some (.goto t))))
  | .pan _, _, _ => False

theorem loop_upd (hr : HRel G W σ) {L : Nat} {frL : Fr} {nL : Nat} {ps : Array Tmp} {as bd : Code} {st st' : LoopState} {pe pe' : Option Code} {l : Nat} {r : Loop} (ho : σ L = some (.loop frL nL ps as bd st pe)) (hb : G.β L = some (l, 0)) (hW : W.heap[l]? = some (.loop r)) :
    r.state = st ∧ r.pending = pe ∧ r.params = ps ∧ r.assign = as ∧ r.body = bd ∧ TRel G W nL frL r.tmps ∧
    HRel G (W.putObj l (.loop { r with state := st', pending := pe' })) (σ.set L (.loop frL nL ps as bd st' pe')) ∧ Evol G W σ G (W.putObj l (.loop { r with state := st', pending := pe' })) (σ.set L (.loop frL nL ps as bd st' pe')) := by
  obtain ⟨loc, l1, ⟨_, fn, tmps, D, l2, l3⟩, _⟩ := hr.obj L _ ho
  rw [hb] at l1; cases l1
  simp only at l2
  rw [hW] at l2
  cases l2
  refine ⟨rfl, rfl, rfl, rfl, rfl, l3, ?_⟩
  exact upd_obj hr ho hb _ (fun s hs => by unfold World.shape? at hs; rw [hW] at hs; simp at hs) fun hE => ⟨rfl, fn, tmps, D, World.putObj_heap_same (lt_of_heap hW), l3.mono hE⟩

theorem loop_at (hr : HRel G W σ) {L : Nat} {frL : Fr} {nL : Nat} {ps : Array Tmp} {as bd : Code} {st : LoopState} {pe : Option Code} {l : Nat} (ho : σ L = some (.loop frL nL ps as bd st pe)) (hb : G.β L = some (l, 0)) : ∃ r, W.heap[l]? = some (.loop r) := by
  obtain ⟨loc, l1, ⟨_, fn, tmps, D, l2, l3⟩, _⟩ := hr.obj L _ ho
  rw [hb] at l1; cases l1
  exact ⟨_, l2⟩

/-- **A round, from the loop's body.** -/
theorem yruns_body {L : Nat} {args : List PV} {K : Out → Heap → Prop} {frL : Fr} {nL : Nat} {ps : Array Tmp} {as bd : Code} {pe : Option Code} (hL : σ L = some (.loop frL nL ps as bd .ready pe)) (hps : ps.size = args.length) (hlt : ∀ t ∈ ps.toList, t < nL)
    (h : pwp P true nL as (PX.thn (fun fr σ1 => ∃ pe', σ1 L = some (.loop frL nL ps as bd .ready pe') ∧ pwp P true nL bd (rndQ L frL nL ps as bd K) fr (σ1.set L (.loop frL nL ps as bd .busy pe'))) (fun _ _ _ => False)) (setPs frL ps.toList args) σ) :
    yruns P L args σ K := by
  intro G W r m xs l h1 h2 h3
  obtain ⟨rec, hW⟩ := loop_at h1 hL h3
  obtain ⟨e1, e2, e3, e4, e5, e6, _, _⟩ := loop_upd (st' := .busy) (pe' := none) h1 hL h3 hW
  refine ⟨_, _, _, _, run_yield hW (by rw [e3, hps]; exact h2.1), ?_⟩
  refine roundIn_of_wpIn trivial ?_
  show rec.assign.wpIn (FW (some l)) m P _ _ W
  have hT : TRel G W nL (setPs frL ps.toList args) ((rec.params.zip xs).foldl (fun tmps (x : Tmp × Value) => tmps.setIfInBounds x.1 x.2) rec.tmps) := by
    rw [← Array.foldl_toList, Array.toList_zip, e3]
    exact setPs_rel e6 hlt (by simpa using hps) (by simpa using h2.1) (fun i hi => by have := h2.2 i hi; simpa [Array.getD_eq_getD_getElem?, List.getD] using this)
  rw [e4]
  refine wpIn_mono (h G W { tmps := _, defers := [] } (some l) m 0 rfl h1 hT (.nil _ _) (Nat.zero_le _)) fun e A1 W1 k => ?_
  obtain ⟨pe1, fr1, σ1, G1, k1, k2, k3, k4, k5, k6⟩ := k
  cases e with
  | normal =>
    cases pe1 <;> simp only [XRel] at k2
    obtain ⟨pe', k7, k8⟩ := k1
    have hb1 := k3.β _ _ h3
    obtain ⟨rec1, hW1⟩ := loop_at k4 k7 hb1
    obtain ⟨f1, f2, f3, f4, f5, f6, f7, f8⟩ := loop_upd (st' := .busy) (pe' := pe') k4 k7 hb1 hW1
    refine ⟨_, run_beginRound hW1 f1, ?_⟩
    have hrec : ({ rec1 with state := .busy } : Loop) = { rec1 with state := .busy, pending := pe' } := by rw [← f2]
    rw [hrec]
    show rec.body.wpIn (FW (some l)) m P _ _ _
    rw [e5]
    refine wpIn_mono (k8 G1 _ A1 (some l) m 0 rfl f7 (k5.mono (f8.ext k4)) (k6.evol k4 f8) (Nat.zero_le _)) fun e A2 W2 q => ?_
    obtain ⟨pe2, fr2, σ2, G2, q1, q2, q3, q4, q5, q6⟩ := q
    have hb2 := q3.β _ _ hb1
    have fin : ∀ (b : Bool) (jump : Option Code) (st : LoopState), b = jump.isNone → st = (if jump.isNone then .ready else .done) → ((∃ st pe, σ2 L = some (.loop frL nL ps as bd st pe)) ∧ K (.val (.lit (.bool b))) (σ2.set L (.loop frL nL ps as bd st jump))) →
        ∃ v w', (Instr.endRound l jump).run P W2 = .ok v w' ∧ ∃ o σ' G', K o σ' ∧ OutRel G' w' o (.returned v) ∧ Evol G W σ G' w' σ' ∧ HRel G' w' σ' := fun b jump st hb hst ⟨⟨st0, pe0, hq⟩, hK⟩ => by
      obtain ⟨rec2, hW2⟩ := loop_at q4 hq hb2
      obtain ⟨_, _, _, _, _, _, g7, g8⟩ := loop_upd (st' := st) (pe' := jump) q4 hq hb2 hW2
      subst hb
      subst hst
      exact ⟨_, _, run_endRound jump hW2, _, _, G2, hK, .lit _, ((k3.trans f8).trans q3).trans g8, g7⟩
    cases e with
    | normal => cases pe2 <;> simp only [XRel] at q2; exact fin true none .ready rfl rfl q1
    | ret => cases pe2 <;> simp only [XRel] at q2; exact fin false (some .ret) .done rfl rfl q1
    | exit i => cases pe2 <;> simp only [XRel] at q2; subst q2; exact fin false (some (.exit _)) .done rfl rfl q1
    | goto i => cases pe2 <;> simp only [XRel] at q2; subst q2; exact fin false (some (.goto _)) .done rfl rfl q1
    | panic ch => cases pe2 <;> simp only [XRel] at q2; exact q1
    | outgrown => cases pe2 <;> simp only [XRel] at q2
  | exit i => cases pe1 <;> simp only [XRel] at k2; exact k1
  | goto i => cases pe1 <;> simp only [XRel] at k2; exact k1
  | ret => cases pe1 <;> simp only [XRel] at k2; exact k1
  | panic ch => cases pe1 <;> simp only [XRel] at k2; exact k1
  | outgrown => cases pe1 <;> simp only [XRel] at k2

/-- **An outermost range over a function.** -/
theorem pwp_rangeFunc {g : Operand} {ps : Array Tmp} {as bd : Code} {Q : PX → Fr → Heap → Prop} {f : FuncId} {first cap : List PV} (hg : sv (opv fr g) = .fn (.func f) first cap) (hga : avt (opv fr g)) (he : Enters P f)
    (h : ∀ L, σ L = none → pcalls P f (first ++ [.yld L] ++ cap) (σ.set L (.loop fr n ps as bd .ready none)) fun o σ' => match o with
      | .val _ => ∃ st pe, σ' L = some (.loop fr n ps as bd st pe) ∧ st ≠ .busy ∧ (match pe with
        | none => Q .normal fr (σ'.del L)
        | some c => pwp P false n c Q fr (σ'.del L))
      | .pan v => Q (.pan v) fr (σ'.del L)) : pwp P false n (.rangeFunc g ps as bd) Q fr σ := by
  intro G W A r m base h1 h2 h3 h4 h5
  have hrn : r = none := by cases r with
    | none => rfl
    | some x => cases h1
  subst hrn
  refine wpIn_rangeFunc fun fn _ => ?_
  have hf := sv_rel (opv_rel h3 g) hga
  rw [hg] at hf
  generalize hv : A.eval g = v at hf
  cases hf with
  | fn _ _ _ vf vc g1 g2 g3 g4 =>
  obtain ⟨j1, j2⟩ := evol_junk h2 (.deferred (some []))
  obtain ⟨L, f1, f2⟩ := fresh_id j1
  obtain ⟨r0, hr0⟩ : ∃ r0 : Loop, r0 = { state := .ready, pending := none, fn := fn, tmps := A.tmps, params := ps, assign := as, body := bd, defers := W.heap.size } := ⟨_, rfl⟩
  have hE0 := j2.ext h2
  have hEn := ext_alloc j1 f1 ((W.alloc (.deferred (some []))).heap.size, 0) (.loop r0)
  obtain ⟨n1, n2⟩ := new_obj j1 f1 (.loop r0) (.loop fr n ps as bd .ready none) ⟨rfl, fn, A.tmps, W.heap.size, by rw [hr0]; exact heap_alloc_new _ _, (h3.mono hE0).mono hEn⟩
  have hsz : (W.alloc (.deferred (some []))).heap.size = W.heap.size + 1 := size_alloc ..
  have heL : (G.bind L ((W.alloc (.deferred (some []))).heap.size, 0)).β L = some (W.heap.size + 1, 0) := by rw [bind_same, hsz]
  have eAll := j2.trans n2
  have hargs : RelL (G.bind L ((W.alloc (.deferred (some []))).heap.size, 0)) ((W.alloc (.deferred (some []))).alloc (.loop r0)) (first ++ [.yld L] ++ cap) (vf ++ #[.func (.yield (W.heap.size + 1)) #[] #[]] ++ vc) := by
    have hE := eAll.ext h2
    refine RelL.append (RelL.append ⟨g1, fun i hi => (g2 i hi).mono hE⟩ ⟨rfl, fun i hi => ?_⟩) ⟨g3, fun i hi => (g4 i hi).mono hE⟩
    have : i = 0 := by simpa using hi
    subst this
    exact .yld L _ heL
  refine ⟨W.heap.size + 1, _, _, { target := .fn (.func f) vc, args := vf ++ #[.func (.yield (W.heap.size + 1)) #[] #[]] }, ((W.alloc (.deferred (some []))).alloc (.loop { state := .ready, pending := none, fn := fn, tmps := A.tmps, params := ps, assign := as, body := bd, defers := W.heap.size })), f, vf ++ #[.func (.yield (W.heap.size + 1)) #[] #[]] ++ vc, ((W.alloc (.deferred (some []))).alloc (.loop { state := .ready, pending := none, fn := fn, tmps := A.tmps, params := ps, assign := as, body := bd, defers := W.heap.size })), run_enterLoop_outer fn A.tmps ps as bd, ?_, fun _ _ => trivial, ?_, (fun hx => by cases hx), ?_⟩
  · simp only [resolve, rangeCall, hv, Deferred.ofValue, Sem.run_bind, Sem.run_pure, Result.andThen_ok]
    rw [show Array.map A.eval #[Operand.const (Value.func (Fn.yield (W.heap.size + 1)) #[] #[])] = #[Value.func (Fn.yield (W.heap.size + 1)) #[] #[]] by simp [Act.eval]]
  · simp only [invoke]
    exact he _ _
  · rw [← hr0]
    refine (h L f2 _ _ _ (m - 1) n1 hargs).mono ?_
    rintro e W3 ⟨o, σ', G', k1, k2, k3, k4⟩
    have hb3 := k3.β _ _ heL
    have hdef : DRel base ((W.alloc (.deferred (some []))).alloc (.loop r0)) ({ target := .collected W.heap.size, args := #[] } :: A.defers) := by
      obtain ⟨Ds, d1, d2, d3⟩ := h4.evol h2 eAll
      refine ⟨W.heap.size :: Ds, by rw [d1]; rfl, List.nodup_cons.2 ⟨fun hin => ?_, d2⟩, fun D hD => ?_⟩
      · obtain ⟨Ds0, c1, c2, c3⟩ := h4
        have hDs : Ds = Ds0 := by
          have : Ds.map (fun D => ({ target := .collected D, args := #[] } : Deferred)) = Ds0.map (fun D => ({ target := .collected D, args := #[] } : Deferred)) := by rw [← d1, c1]
          exact (List.map_inj_right (fun a b hab => by cases hab; rfl)).1 this
        subst hDs
        have := lt_of_heap (c3 _ hin).2
        omega
      · rcases List.mem_cons.1 hD with rfl | hD
        · refine ⟨h5, ?_⟩
          rw [heap_alloc_old _ _ (by rw [hsz]; omega)]
          exact heap_alloc_new _ _
        · exact d3 D hD
    cases e with
    | outgrown => cases o <;> simp only [OutRel] at k2
    | panicked ch =>
      cases o <;> simp only [OutRel] at k2
      have hdel : ∀ j x, (σ'.del L) j = some x → σ' j = some x := fun j x hx => by
        unfold Heap.del at hx; split at hx
        · cases hx
        · exact hx
      refine ⟨.pan _, fr, σ'.del L, G', k1, k2, (eAll.trans k3).less (fun j hj => ?_), k4.less hdel, (h3.mono (eAll.ext h2)).mono (k3.ext n1), hdef.evol n1 k3⟩
      obtain ⟨x, hx⟩ := some_of_ne hj; rw [hdel j x hx]; simp
    | returned x =>
      cases o <;> simp only [OutRel] at k2
      obtain ⟨st, pe, hL3, hst, hQ⟩ := k1
      obtain ⟨rec3, hW3⟩ := loop_at k4 hL3 hb3
      obtain ⟨s1, s2, _, _, _, _, u1, u2⟩ := loop_upd (st' := .exhausted) (pe' := pe) k4 hL3 hb3 hW3
      refine ⟨pe, _, by rw [run_endLoop hW3 (by rw [s1]; exact hst), s2], ?_⟩
      have hdel : ∀ j x, (σ'.del L) j = some x → (σ'.set L (.loop fr n ps as bd .exhausted pe)) j = some x := fun j x hx => by
        unfold Heap.del at hx; unfold Heap.set
        split at hx
        · cases hx
        · rename_i e; rw [if_neg e]; exact hx
      have eN := ((eAll.trans k3).trans u2).less (σ'' := σ'.del L) (fun j hj => by obtain ⟨x, hx⟩ := some_of_ne hj; rw [hdel j x hx]; simp)
      have hN := u1.less hdel
      have tN := ((h3.mono (eAll.ext h2)).mono (k3.ext n1)).mono (u2.ext k4)
      have dN := (hdef.evol n1 k3).evol k4 u2
      cases pe with
      | none => exact ⟨.normal, fr, σ'.del L, G', hQ, trivial, eN, hN, tN, dN⟩
      | some c =>
        refine wpIn_mono (hQ G' _ _ none m base rfl hN tN dN (Nat.le_trans h5 eN.size)) fun _ _ _ k => k.trans eN
end
end Go.Lo
