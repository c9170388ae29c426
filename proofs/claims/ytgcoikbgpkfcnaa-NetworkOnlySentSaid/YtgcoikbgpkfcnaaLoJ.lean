/-
  The program logic 'Lo', part J: tables of contracts, straight code with memory, regions that draw their order. Nothing of the program.
-/
import Derived.Test.YtgcoikbgpkfcnaaLoI
import Derived.OrdersIn
import Derived.Still
set_option linter.unusedSimpArgs false
set_option linter.unusedVariables false
namespace Go.Lo
open Go

/-- What calls that leave the memory as it is yield. -/
structure Tab where
  dom : FuncId → Bool
  ev : FuncId → List PV → Heap → EV
def Tab.ok (P : Program) (T : Tab) : Prop := ∀ f args σ, (T.ev f args σ).D → Enters P f ∧ pcalls P f args σ fun o σ' => o = .val (T.ev f args σ).V ∧ σ' = σ
def Tab.nil : Tab := ⟨fun _ => false, fun _ _ _ => .no⟩
def Tab.add (T : Tab) (f : FuncId) (e : List PV → Heap → EV) : Tab := ⟨fun g => g == f || T.dom g, fun g args σ => if g = f then e args σ else T.ev g args σ⟩
theorem Tab.nil_ok (P : Program) : Tab.nil.ok P := fun _ _ _ h => h.elim
theorem Tab.add_ok {P : Program} {T : Tab} {f : FuncId} {e : List PV → Heap → EV} (hT : T.ok P) (he : Enters P f) (h : ∀ args σ, (e args σ).D → pcalls P f args σ fun o σ' => o = .val (e args σ).V ∧ σ' = σ) : (T.add f e).ok P := by
  intro g args σ hd
  unfold Tab.add at hd ⊢
  simp only at hd ⊢
  split
  · rename_i hg
    subst hg
    rw [if_pos rfl] at hd
    exact ⟨he, h args σ hd⟩
  · rename_i hg
    rw [if_neg hg] at hd
    exact hT g args σ hd
/-- From a contract that knows nothing of the memory. -/
theorem Tab.add_fun {P : Program} {T : Tab} {f : FuncId} {e : List PV → EV} (hT : T.ok P) (he : Enters P f) (h : ∀ args, (e args).D → PFun P f args (e args).V) : (T.add f fun args _ => e args).ok P :=
  Tab.add_ok hT he fun args _ hd => (h args hd).calls

def callT (T : Tab) (σ : Heap) (fr : Fr) (c : Call) : EV :=
  match c.callee with
  | .value fo => match sv (opv fr fo) with
    | .fn (.func g) first cap => ⟨avt (opv fr fo) ∧ (∀ x ∈ c.args.toList, avt (opv fr x)) ∧ (T.ev g (first ++ argsP fr c.args ++ cap) σ).D, (T.ev g (first ++ argsP fr c.args ++ cap) σ).V⟩
    | _ => .no
  | _ => .no
def evc (P : Program) (T : Tab) (σ : Heap) (fr : Fr) (o : Oper) : EV :=
  match o.op with
  | .call c => match c.callee with
    | .value _ => callT T σ fr c
    | _ => ev P σ fr o
  | _ => ev P σ fr o

/-- .. and the table. -/
def quietC (T : Tab) (fr : Fr) : Op → Bool
  | .call { callee := .value fo, .. } => match sv (opv fr fo) with
    | .fn (.func g) _ _ => T.dom g
    | _ => false
  | op => quietK op

section
variable {P : Program} {T : Tab} {rd : Bool} {n : Nat} {fr : Fr} {σ : Heap}

theorem qop_of_evc (hT : T.ok P) {o : Oper} (h : (evc P T σ fr o).D) : qop P n o fr σ (evc P T σ fr o).V := by
  unfold evc at h ⊢
  split
  · rename_i c hc
    rw [hc] at h
    simp only at h
    split
    · rename_i fo hfo
      rw [hfo] at h
      simp only [callT, hfo] at h ⊢
      split
      · rename_i g first cap hg
        rw [hg] at h
        obtain ⟨h1, h2, h3⟩ := h
        obtain ⟨k1, k2⟩ := hT _ _ _ h3
        exact qop_call hc hfo hg h1 k1 h2 k2
      · rename_i hg
        exact absurd h (by simp [EV.no])
    · rename_i hfo
      refine qop_of_ev ?_
      split at h
      · rename_i fo e; exact absurd e (hfo fo)
      · exact h
  · rename_i hc
    refine qop_of_ev ?_
    split at h
    · rename_i c e; exact absurd e (hc c)
    · exact h

/-! ### Straight code with memory -/
/-- Operations that make or write memory. -/
def heapK : Op → Bool
  | .box _ _ | .alloc _ | .store _ _ _ | .makeSlice _ _ _ => true
  | .call { callee := .builtin .append, .. } => true
  | _ => false

def gstep (P : Program) (σ : Heap) (fr : Fr) (o : Op) (C : PV → Heap → Prop) : Prop :=
  match o with
  | .box _ x => avt (opv fr x) ∧ isCell (sv (opv fr x)) = true ∧ ∀ id, σ id = none → C (.ptr id 0) (σ.set id (.cells (cellsP (sv (opv fr x)))))
  | .alloc t => match zeroP P t with
    | some zs => ∀ id, σ id = none → C (.ptr id 0) (σ.set id (.cells zs))
    | none => False
  | .store t a x => avt (opv fr a) ∧ avt (opv fr x) ∧ storeP P σ t (sv (opv fr a)) (sv (opv fr x)) (C (.lit undef))
  | .makeSlice t l c => avt (opv fr l) ∧ avt (opv fr c) ∧ makeP P σ t (sv (opv fr l)) (sv (opv fr c)) C
  | .call { callee := .builtin .append, args, argTypes } => match args.toList, argTypes.toList with
    | [x, y], t :: t2 :: _ => avt (opv fr x) ∧ avt (opv fr y) ∧ appendP P σ t t2 (sv (opv fr x)) (sv (opv fr y)) C
    | _, _ => False
  | _ => False

theorem gop_gstep {o : Oper} {K : Out → Heap → Prop} (h : gstep P σ fr o.op fun V σ' => K (.val V) σ') : gop P rd n o fr σ K := by
  unfold gstep at h
  split at h
  · rename_i t x e; exact gop_box e h.1 h.2.1 h.2.2
  · rename_i t e
    split at h
    · rename_i zs hz; exact gop_alloc e hz h
    · exact h.elim
  · rename_i t a x e; exact gop_store e h.1 h.2.1 h.2.2
  · rename_i t l c e; exact gop_make e h.1 h.2.1 h.2.2
  · rename_i args argTypes e
    split at h
    · rename_i x y t t2 tl e1 e2
      exact gop_append ⟨_, e, rfl, e1, e2⟩ h.1 h.2.1 h.2.2
    · exact h.elim
  · exact h.elim

theorem storeP_mono {t : TypeId} {a x : PV} {C C' : Heap → Prop} (hC : ∀ σ', C σ' → C' σ') (h : storeP P σ t a x C) : storeP P σ t a x C' := by
  unfold storeP at h ⊢
  split at h
  · rename_i id off sz ag e2
    split at h
    · rename_i cs e3; (try simp only [e3]); exact ⟨h.1, h.2.1, h.2.2.1, h.2.2.2.1, hC _ h.2.2.2.2⟩
    · exact h.elim
  · exact h.elim
theorem makeP_mono {t : TypeId} {a x : PV} {C C' : PV → Heap → Prop} (hC : ∀ V σ', C V σ' → C' V σ') (h : makeP P σ t a x C) : makeP P σ t a x C' := by
  unfold makeP at h ⊢
  split at h
  · exact ⟨h.1, h.2.1, h.2.2.1, h.2.2.2.1, h.2.2.2.2.1, fun id hid => hC _ _ (h.2.2.2.2.2 id hid)⟩
  · exact h.elim
theorem appendP_mono {t t2 : TypeId} {x y : PV} {C C' : PV → Heap → Prop} (hC : ∀ V σ', C V σ' → C' V σ') (h : appendP P σ t t2 x y C) : appendP P σ t t2 x y C' := by
  unfold appendP at h ⊢
  split at h
  · refine ⟨h.1, h.2.1, h.2.2.1, h.2.2.2.1, h.2.2.2.2.1, h.2.2.2.2.2.1, ?_⟩
    have := h.2.2.2.2.2.2
    split at this
    · exact ⟨this.1, this.2.1, fun id hid => hC _ _ (this.2.2 id hid)⟩
    · exact ⟨fun e => hC _ _ (this.1 e), fun e id hid => hC _ _ (this.2 e id hid)⟩
    · exact ⟨fun e => hC _ _ (this.1 e), fun e id hid => hC _ _ (this.2 e id hid)⟩
    · exact ⟨fun e => hC _ _ (this.1 e), fun e id hid => hC _ _ (this.2 e id hid)⟩
    · exact this.elim
  · exact h.elim
theorem gstep_mono {o : Op} {C C' : PV → Heap → Prop} (hC : ∀ V σ', C V σ' → C' V σ') (h : gstep P σ fr o C) : gstep P σ fr o C' := by
  unfold gstep at h ⊢
  split at h
  · exact ⟨h.1, h.2.1, fun id hid => hC _ _ (h.2.2 id hid)⟩
  · split at h
    · rename_i zs hz; (try simp only [hz]); exact fun id hid => hC _ _ (h id hid)
    · exact h.elim
  · exact ⟨h.1, h.2.1, storeP_mono (hC _) h.2.2⟩
  · exact ⟨h.1, h.2.1, makeP_mono hC h.2.2⟩
  · split at h
    · rename_i e1 e2; (try simp only [e1, e2]); exact ⟨h.1, h.2.1, appendP_mono hC h.2.2⟩
    · exact h.elim
  · exact h.elim

/-- What simp does not look into. -/
structure Tg (Q : PX → Fr → Heap → Prop) where
  x : Nat := 0
def popsS (P : Program) (rd : Bool) (n : Nat) (ops : Array Oper) (l : List Oper) (Q : PX → Fr → Heap → Prop) (_ : Tg Q) (fr : Fr) (σ : Heap) : Prop := pops P rd n ops l Q fr σ

/-- The text's order, as far as 'evc' and 'gstep' go. -/
def pst (P : Program) (T : Tab) (rd : Bool) (n : Nat) (ops : Array Oper) (Q : PX → Fr → Heap → Prop) : List Oper → Fr → Heap → Prop
  | [], fr, σ => Q .normal fr σ
  | o :: l, fr, σ =>
    if quietC T fr o.op then
      match o.guard with
      | none => (evc P T σ fr o).D ∧ dstOk n o = true ∧ pst P T rd n ops Q l (frSet fr o.dst (evc P T σ fr o).V) σ
      | some _ => match gval ops fr o with
        | some g => (g = true → (evc P T σ fr o).D) ∧ dstOk n o = true ∧ pst P T rd n ops Q l (frSet fr o.dst (.gd g (evc P T σ fr o).V)) σ
        | none => False
    else if heapK o.op && o.guard.isNone then dstOk n o = true ∧ gstep P σ fr o.op fun V σ' => pst P T rd n ops Q l (frSet fr o.dst V) σ'
    else popsS P rd n ops (o :: l) Q {} fr σ

theorem pops_pst (hT : T.ok P) {ops : Array Oper} {Q : PX → Fr → Heap → Prop} : ∀ {l : List Oper} {fr : Fr} {σ : Heap}, pst P T rd n ops Q l fr σ → pops P rd n ops l Q fr σ := by
  intro l
  induction l with
  | nil => intro fr σ h; exact pops_nil h
  | cons o l ih =>
    intro fr σ h
    simp only [pst] at h
    split at h
    · split at h
      · rename_i hg
        exact pops_quiet hg h.2.1 (qop_of_evc hT h.1) (ih h.2.2)
      · split at h
        · rename_i g hg
          exact pops_guard hg h.2.1 (fun e => qop_of_evc hT (h.1 e)) (ih h.2.2)
        · exact h.elim
    · split at h
      · rename_i hk
        simp only [Bool.and_eq_true, Option.isNone_iff_eq_none] at hk
        refine pops_gop (by simp [gval, hk.2]) h.1 (gop_gstep ?_)
        have h2 := h.2
        exact gstep_mono (fun V σ' k => ih k) h2
      · exact h

/-! ### Regions that draw their order -/
def agree (o : Oper) (fr fr' : Fr) : Prop := ∀ x ∈ o.op.operands, opv fr' x = opv fr x

theorem parts_congr {fr fr' : Fr} {ps : Array (Nat × Operand)} (h : ∀ x ∈ ps.toList.map (·.2), opv fr' x = opv fr x) : partsP fr' ps = partsP fr ps := by
  unfold partsP
  exact List.map_congr_left fun p hp => by rw [h p.2 (List.mem_map.2 ⟨p, hp, rfl⟩)]

theorem gate_congr {fr fr' : Fr} {xs : List Operand} {e e' : EV} (h : ∀ x ∈ xs, opv fr' x = opv fr x) (he : e' = e) : gate fr' xs e' = gate fr xs e := by
  subst he
  unfold gate
  congr 1
  refine propext (and_congr_left fun _ => forall_congr' fun x => ?_)
  exact imp_congr_right fun hx => by rw [h x hx]

theorem ev_congr {o : Oper} {fr fr' : Fr} (h : agree o fr fr') : ev P σ fr' o = ev P σ fr o := by
  unfold agree at h
  unfold ev
  cases ho : o.op <;> rw [ho] at h <;> simp only [Op.operands] at h <;> simp only
  case pick c a b =>
    have h1 := h c (by simp); have h2 := h a (by simp); have h3 := h b (by simp)
    unfold evPick; simp only [h1, h2, h3]
  case build t ps =>
    have h' : ∀ x ∈ ps.toList.map (·.2), opv fr' x = opv fr x := fun x hx => h x (by simpa using hx)
    exact gate_congr h' (by rw [parts_congr h'])
  case buildSlice t l ps =>
    have h' : ∀ x ∈ ps.toList.map (·.2), opv fr' x = opv fr x := fun x hx => h x (by simpa using hx)
    exact gate_congr h' (by rw [parts_congr h'])
  case makeFunc f first cap =>
    refine gate_congr (fun x hx => h x (by simpa using hx)) ?_
    congr 2
    · exact List.map_congr_left fun x hx => by rw [h x (by simp at hx; simp [hx])]
    · exact List.map_congr_left fun x hx => by rw [h x (by simp at hx; simp [hx])]
  case slice t x lo hi mx =>
    have hx := h x (by simp)
    refine gate_congr (fun y hy => h y (by simp at hy ⊢; rcases hy with hy | hy | hy | hy <;> simp [hy])) ?_
    have e : ∀ z : Option Operand, (∀ y ∈ z, opv fr' y = opv fr y) → (z.map fun x => sv (opv fr' x)) = z.map fun x => sv (opv fr x) := fun z hz => by
      cases z with
      | none => rfl
      | some y => simp [hz y rfl]
    rw [hx, e lo (fun y hy => h y (by simp; simp at hy; simp [hy])), e hi (fun y hy => h y (by simp; simp at hy; simp [hy])), e mx (fun y hy => h y (by simp; simp at hy; simp [hy]))]
  case call c =>
    have ha : ∀ x ∈ c.args.toList, opv fr' x = opv fr x := fun x hx => h x (by simp [Call.operands]; right; simpa using hx)
    unfold evCall
    split
    · split
      · rename_i e1 e2
        exact gate_congr (fun y hy => ha y (by rw [e1]; exact hy)) (by rw [ha _ (by rw [e1]; simp)])
      · rfl
    · split
      · rename_i e1
        exact gate_congr (fun y hy => ha y (by rw [e1]; exact hy)) (by rw [ha _ (by rw [e1]; simp), ha _ (by rw [e1]; simp)])
      · rfl
    · split
      · rename_i e1
        exact gate_congr (fun y hy => ha y (by rw [e1]; exact hy)) (by rw [ha _ (by rw [e1]; simp), ha _ (by rw [e1]; simp)])
      · rfl
    · rfl
  case indexAddr t x y => exact gate_congr (fun z hz => h z (by simpa using hz)) (by rw [h x (by simp), h y (by simp)])
  case index t x y => exact gate_congr (fun z hz => h z (by simpa using hz)) (by rw [h x (by simp), h y (by simp)])
  case binOp op t x y u => exact gate_congr (fun z hz => h z (by simpa using hz)) (by rw [h x (by simp), h y (by simp)])
  case move x => exact gate_congr (fun z hz => h z (by simpa using hz)) (by rw [h x (by simp)])
  case assign x => exact gate_congr (fun z hz => h z (by simpa using hz)) (by rw [h x (by simp)])
  case load t x => exact gate_congr (fun z hz => h z (by simpa using hz)) (by rw [h x (by simp)])
  case nilCheck x => exact gate_congr (fun z hz => h z (by simpa using hz)) (by rw [h x (by simp)])
  case unOp op t x => exact gate_congr (fun z hz => h z (by simpa using hz)) (by rw [h x (by simp)])
  case convert s d x => exact gate_congr (fun z hz => h z (by simpa using hz)) (by rw [h x (by simp)])
  case makeInterface t x => exact gate_congr (fun z hz => h z (by simpa using hz)) (by rw [h x (by simp)])
  case fieldAddr t x f => exact gate_congr (fun z hz => h z (by simpa using hz)) (by rw [h x (by simp)])
  case field t x f => exact gate_congr (fun z hz => h z (by simpa using hz)) (by rw [h x (by simp)])
  case extract x i => exact gate_congr (fun z hz => h z (by simpa using hz)) (by rw [h x (by simp)])

theorem evc_congr {o : Oper} {fr fr' : Fr} (h : agree o fr fr') : evc P T σ fr' o = evc P T σ fr o := by
  unfold evc
  split
  · rename_i c hc
    split
    · rename_i fo hfo
      unfold agree at h
      rw [hc] at h
      have h1 : opv fr' fo = opv fr fo := h fo (by simp [Op.operands, Call.operands, hfo])
      have ha : ∀ x ∈ c.args.toList, opv fr' x = opv fr x := fun x hx => h x (by simp [Op.operands, Call.operands]; right; simpa using hx)
      have e : argsP fr' c.args = argsP fr c.args := List.map_congr_left fun x hx => by rw [ha x hx]
      unfold callT
      rw [hfo]
      simp only [h1, e]
      split
      · congr 1
        refine propext (and_congr_right fun _ => and_congr_left fun _ => forall_congr' fun x => imp_congr_right fun hx => by rw [ha x hx])
      · rfl
    · exact ev_congr h
  · exact ev_congr h

/-- Operation o yields U in frame fr. -/
def YF (P : Program) (T : Tab) (σ : Heap) (ops : Array Oper) (o : Oper) (U : PV) (fr : Fr) : Prop :=
  match o.guard with
  | none => (evc P T σ fr o).D ∧ U = (evc P T σ fr o).V
  | some _ => ∃ g, gval ops fr o = some g ∧ (g = true → (evc P T σ fr o).D) ∧ U = .gd g (evc P T σ fr o).V

theorem opv_set {fr : Fr} {dst : Option Tmp} {U : PV} {x : Operand} (h : ∀ d, dst = some d → x ≠ .tmp d) : opv (frSet fr dst U) x = opv fr x := by
  cases dst with
  | none => rfl
  | some d =>
    cases x with
    | tmp t =>
      have : t ≠ d := fun e => h d rfl (by rw [e])
      simp [opv, frSet, Fr.set, this]
    | _ => rfl

theorem agree_set {ops : Array Oper} {o : Oper} {fr : Fr} {dst : Option Tmp} {U : PV} (h : ∀ d, dst = some d → d ∉ o.looksAt ops) : agree o fr (frSet fr dst U) := fun x hx =>
  opv_set fun d hd hxd => h d hd (by
    subst hxd
    exact List.mem_append_left _ (List.mem_filterMap.2 ⟨.tmp d, by simpa using hx, rfl⟩))

theorem gval_set {ops : Array Oper} {o : Oper} {fr : Fr} {dst : Option Tmp} {U : PV} (h : ∀ d, dst = some d → d ∉ o.looksAt ops) : gval ops (frSet fr dst U) o = gval ops fr o := by
  unfold gval
  cases hg : o.guard with
  | none => rfl
  | some gw =>
    obtain ⟨g, want⟩ := gw
    simp only
    cases ht : (ops[g]?).bind (·.dst) with
    | none => rfl
    | some t =>
      simp only
      have : frSet fr dst U t = fr t := by
        cases dst with
        | none => rfl
        | some d =>
          have : t ≠ d := fun e => h d rfl (by subst e; simp [Oper.looksAt, hg, ht])
          simp [frSet, Fr.set, this]
      rw [this]

theorem YF.set {ops : Array Oper} {o : Oper} {U V : PV} {fr : Fr} {dst : Option Tmp} (h : ∀ d, dst = some d → d ∉ o.looksAt ops) : YF P T σ ops o U (frSet fr dst V) ↔ YF P T σ ops o U fr := by
  unfold YF
  rw [evc_congr (agree_set h), gval_set h]

theorem frSet_comm (fr : Fr) {x y : Option Tmp} (v u : PV) (h : ∀ d, x = some d → y ≠ some d) : frSet (frSet fr x v) y u = frSet (frSet fr y u) x v := by
  cases x with
  | none => rfl
  | some d =>
    cases y with
    | none => rfl
    | some e =>
      have hne : d ≠ e := fun he => h d rfl (he ▸ rfl)
      funext t
      simp only [frSet, Fr.set]
      by_cases h1 : t = e
      · subst h1; rw [if_pos rfl, if_neg (Ne.symm hne), if_pos rfl]
      · rw [if_neg h1, if_neg h1]

/-- One operation out of a drawn region. -/
def aOp (P : Program) (T : Tab) (σ : Heap) (n : Nat) (ops : Array Oper) (i : Nat) (K : Fr → Prop) (fr : Fr) : Prop := ∃ o, ops[i]? = some o ∧ dstOk n o = true ∧ ∃ U, YF P T σ ops o U fr ∧ K (frSet fr o.dst U)
def aAny (P : Program) (T : Tab) (σ : Heap) (n : Nat) (ops : Array Oper) (k : Nat) (K : Fr → Prop) : Nat → Array Bool → Fr → Prop
  | 0, listed, fr => (∀ j, j < k → j ∉ Region.ready .any ops listed) ∧ K fr
  | m + 1, listed, fr => (∃ i, i < k ∧ i ∈ Region.ready .any ops listed) ∧ ∀ i, i < k → i ∈ Region.ready .any ops listed → aOp P T σ n ops i (aAny P T σ n ops k K m (listed.setIfInBounds i true)) fr

theorem aOp_mono {ops : Array Oper} {i : Nat} {K K' : Fr → Prop} {fr : Fr} (h : ∀ fr, K fr → K' fr) (hh : aOp P T σ n ops i K fr) : aOp P T σ n ops i K' fr :=
  let ⟨o, h1, h2, U, h3, h4⟩ := hh
  ⟨o, h1, h2, U, h3, h _ h4⟩

theorem aAny_first {ops : Array Oper} {k : Nat} {K : Fr → Prop} {i : Nat} {oi : Oper} {U : PV} (hi : ops[i]? = some oi) (hik : i < k) (hdi : dstOk n oi = true) :
    ∀ (m : Nat) (listed : Array Bool) (fr : Fr),
      (∀ j oj, j < k → ops[j]? = some oj → j ≠ i → listed.getD j true = false → (∀ e ∈ oj.after, Region.binds .any e = true → e.on ≠ i) → oi.apart ops oj = true) →
      i ∈ Region.ready .any ops listed → YF P T σ ops oi U fr →
      aAny P T σ n ops k K m (listed.setIfInBounds i true) (frSet fr oi.dst U) → aAny P T σ n ops k K (m + 1) listed fr := by
  intro m
  induction m with
  | zero =>
    intro listed fr _ hr hy H
    refine ⟨⟨i, hik, hr⟩, fun j hjk hj => ?_⟩
    by_cases hji : j = i
    · subst hji; exact ⟨oi, hi, hdi, U, hy, H⟩
    · exact absurd (ready_mono hj hji) (H.1 j hjk)
  | succ m ih =>
    intro listed fr hfree hr hy H
    refine ⟨⟨i, hik, hr⟩, fun j hjk hj => ?_⟩
    by_cases hji : j = i
    · subst hji; exact ⟨oi, hi, hdi, U, hy, H⟩
    · obtain ⟨oj, hoj, hdj, V, hyj, H1⟩ := H.2 j hjk (ready_mono hj hji)
      obtain ⟨hjun, oj', hoj', hall⟩ := mem_ready.1 hj
      rw [hoj] at hoj'; cases hoj'
      have hnot : ∀ e ∈ oj.after, Region.binds .any e = true → e.on ≠ i := fun e he hb heq => by
        have h1 := hall e he hb
        have h0 := (mem_ready.1 hr).1
        rw [heq] at h1
        rcases Nat.lt_or_ge i listed.size with h' | h'
        · simp [h'] at h0 h1; rw [h0] at h1; cases h1
        · simp [Array.getElem?_eq_none h'] at h1
      have hap := hfree j oj hjk hoj hji hjun hnot
      obtain ⟨a1, a2, a3⟩ := Oper.apart_spec hap
      have hfree' : ∀ l ol, l < k → ops[l]? = some ol → l ≠ i → (listed.setIfInBounds j true).getD l true = false →
          (∀ e ∈ ol.after, Region.binds .any e = true → e.on ≠ i) → oi.apart ops ol = true := fun l ol hl hol hli hun hno => by
        refine hfree l ol hl hol hli ?_ hno
        by_cases hjl : j = l
        · subst hjl; exact hjun
        · rw [getD_set_ne true hjl] at hun; exact hun
      refine ⟨oj, hoj, hdj, V, (YF.set a1).1 hyj, ?_⟩
      refine ih (listed.setIfInBounds j true) _ hfree' (ready_mono hr (Ne.symm hji)) ((YF.set a3).2 hy) ?_
      rw [Array.setIfInBounds_comm _ _ hji, ← frSet_comm fr U V a2]
      exact H1

/-- Is 'i' free to come first among the operations below 'k'? -/
def freeK (ops : Array Oper) (k : Nat) (listed : Array Bool) (i : Nat) : Bool :=
  match ops[i]? with
  | none => false
  | some oi => (List.range k).all fun j => j == i || listed.getD j true || match ops[j]? with
      | some oj => oj.after.any (fun e => Region.binds .any e && e.on == i) || oi.apart ops oj
      | none => true
def lexK (ops : Array Oper) (k : Nat) : Nat → Nat → Array Bool → Bool
  | 0, _, listed => (List.range k).all fun j => listed.getD j false
  | m + 1, i, listed => decide (i < k) && (Region.ready .any ops listed).contains i && freeK ops k listed i && lexK ops k m (i + 1) (listed.setIfInBounds i true)

/-- The text's order. -/
def aLex (P : Program) (T : Tab) (σ : Heap) (n : Nat) (ops : Array Oper) (K : Fr → Prop) : List Oper → Fr → Prop
  | [], fr => K fr
  | o :: l, fr =>
    match o.guard with
    | none => (evc P T σ fr o).D ∧ dstOk n o = true ∧ aLex P T σ n ops K l (frSet fr o.dst (evc P T σ fr o).V)
    | some _ => match gval ops fr o with
      | some g => (g = true → (evc P T σ fr o).D) ∧ dstOk n o = true ∧ aLex P T σ n ops K l (frSet fr o.dst (.gd g (evc P T σ fr o).V))
      | none => False

theorem aAny_lex {ops : Array Oper} {k : Nat} {K : Fr → Prop} : ∀ (l : List Oper) (i : Nat) (listed : Array Bool) (fr : Fr), (∀ j, j < l.length → ops[i + j]? = l[j]?) → lexK ops k l.length i listed = true → aLex P T σ n ops K l fr → aAny P T σ n ops k K l.length listed fr := by
  intro l
  induction l with
  | nil =>
    intro i listed fr _ hB h
    simp only [List.length_nil, lexK, List.all_eq_true, List.mem_range] at hB
    refine ⟨fun j hj hr => ?_, h⟩
    have h1 := hB j hj
    have h2 := (mem_ready.1 hr).1
    rcases Nat.lt_or_ge j listed.size with h' | h'
    · simp [h'] at h1 h2; rw [h1] at h2; cases h2
    · simp [Array.getElem?_eq_none h'] at h1
  | cons o l ih =>
    intro i listed fr hl hB h
    simp only [List.length_cons, lexK, Bool.and_eq_true, decide_eq_true_eq] at hB
    obtain ⟨⟨⟨hik, hr⟩, hf⟩, hB'⟩ := hB
    have h0 : ops[i]? = some o := by have := hl 0 (by simp); simpa using this
    have hfree : ∀ j oj, j < k → ops[j]? = some oj → j ≠ i → listed.getD j true = false → (∀ e ∈ oj.after, Region.binds .any e = true → e.on ≠ i) → o.apart ops oj = true := fun j oj hj hoj hne hun hno => by
      simp only [freeK, h0, List.all_eq_true, List.mem_range] at hf
      have h1 := hf j hj
      simp only [hoj, Bool.or_eq_true, beq_iff_eq, hne, false_or, hun, Bool.false_eq_true] at h1
      rcases h1 with h1 | h1
      · obtain ⟨e, he, hb⟩ := Array.any_eq_true'.1 h1
        simp only [Bool.and_eq_true, beq_iff_eq] at hb
        exact absurd hb.2 (hno e he hb.1)
      · exact h1
    have hl' : ∀ j, j < l.length → ops[i + 1 + j]? = l[j]? := fun j hj => by have := hl (j + 1) (by simpa using hj); rw [show i + 1 + j = i + (j + 1) by omega]; simpa using this
    simp only [aLex] at h
    split at h
    · rename_i hg
      exact aAny_first h0 hik h.2.1 l.length listed fr hfree (by simpa using hr) (by unfold YF; rw [hg]; exact ⟨h.1, rfl⟩) (ih (i + 1) _ _ hl' hB' h.2.2)
    · rename_i gw hg
      split at h
      · rename_i g hgv
        exact aAny_first h0 hik h.2.1 l.length listed fr hfree (by simpa using hr) (by unfold YF; rw [hg]; exact ⟨g, hgv, h.1, rfl⟩) (ih (i + 1) _ _ hl' hB' h.2.2)
      · exact h.elim
end
end Go.Lo
