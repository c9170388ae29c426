/-
  The program logic 'Lo', part B: what an operation that turns nothing old yields ('ev'), and that the model's operation yields just that. Nothing of the program.
-/
import Derived.Test.YtgcoikbgpkfcnaaLoA
set_option linter.unusedSimpArgs false
set_option linter.unusedVariables false
namespace Go.Lo
open Go

def opv (fr : Fr) : Operand → PV
  | .tmp t => fr t
  | .const v => .lit v
  | .global _ => .any
  | .func f => .fn (.func f) [] []
/-- The value behind a guard. -/
def sv : PV → PV
  | .gd _ v => v
  | v => v
def avt : PV → Prop
  | .gd g _ => g = true
  | _ => True

/-- What the types say, as far as it is asked. -/
def isAggD : TypeDesc → Bool
  | .struct _ | .array _ _ => true
  | _ => false
def inf (P : Program) (t : TypeId) : Option (Nat × Bool) :=
  match P.info? t, P.underlying t with
  | some i, some d => some (i.size, isAggD d)
  | _, _ => none
/-- A struct's field: offset, size, is it a struct or an array. -/
def fldT (P : Program) (t : TypeId) (f : Nat) : Option (Nat × Nat × Bool) :=
  match P.underlying t with
  | some (.struct fs) => match fs[f]? with
    | some x => (inf P x.type).map fun i => (x.offset, i.1, i.2)
    | none => none
  | _ => none
/-- A slice's element's size; an array's length and element's size (and whether the element is a struct or an array). -/
def ixi (P : Program) (t : TypeId) : Option (Option Nat × Nat × Bool) :=
  match P.underlying t with
  | some (.slice e) => (inf P e).map fun i => (none, i.1, i.2)
  | some (.array n e) => (inf P e).map fun i => (some n, i.1, i.2)
  | _ => none

structure EV where
  D : Prop
  V : PV
def EV.no : EV := ⟨False, .any⟩

def RunQ (P : Program) (G : Gh) (W : World) (s : Sem Next) (V : PV) : Prop :=
  ∃ v' G' W', s.run P W = .ok (.value v') W' ∧ QEv G W G' W' ∧ VRel G' W' V v'

theorem RunQ.same {P : Program} {G : Gh} {W : World} {s : Sem Next} {V : PV} {σ : Heap} (h : HRel G W σ) {v : Value} (hr : s.run P W = .ok (.value v) W) (hv : VRel G W V v) : RunQ P G W s V :=
  ⟨v, G, W, hr, .refl h, hv⟩

section
variable {P : Program} {G : Gh} {W : World} {σ : Heap} {fr : Fr} {n : Nat} {A : Act}

theorem opv_rel (h : TRel G W n fr A.tmps) (x : Operand) : VRel G W (opv fr x) (A.eval x) := by
  cases x with
  | tmp t => exact h.2 t
  | const v => exact .lit v
  | global g => exact .any _
  | func f => exact .fn _ _ _ _ _ rfl (by simp) rfl (by simp)

theorem sv_rel {p : PV} {v : Value} (h : VRel G W p v) (ha : avt p) : VRel G W (sv p) v := by
  cases p with
  | gd g q => cases h with
    | gd _ _ _ h1 _ => exact h1 ha
  | _ => exact h

theorem lit_inv {v v' : Value} (h : VRel G W (.lit v) v') : v' = v := by cases h; rfl

/-! ### Numbers -/
def evInt (op : BinOp) (k : IntKind) (x y : Int) : EV :=
  match op with
  | .add => ⟨True, .lit (.int k (k.wrap (x + y)))⟩
  | .sub => ⟨True, .lit (.int k (k.wrap (x - y)))⟩
  | .mul => ⟨True, .lit (.int k (k.wrap (x * y)))⟩
  | .quo => ⟨y ≠ 0, .lit (.int k (k.wrap (x.tdiv y)))⟩
  | .rem => ⟨y ≠ 0, .lit (.int k (x.tmod y))⟩
  | .and => ⟨True, .lit (.int k (k.wrap (BitVec.ofInt k.bits x &&& BitVec.ofInt k.bits y).toNat))⟩
  | .or => ⟨True, .lit (.int k (k.wrap (BitVec.ofInt k.bits x ||| BitVec.ofInt k.bits y).toNat))⟩
  | .xor => ⟨True, .lit (.int k (k.wrap (BitVec.ofInt k.bits x ^^^ BitVec.ofInt k.bits y).toNat))⟩
  | .andNot => ⟨True, .lit (.int k (k.wrap (BitVec.ofInt k.bits x &&& ~~~ BitVec.ofInt k.bits y).toNat))⟩
  | .shl => ⟨0 ≤ y, .lit (.int k (k.wrap (x * 2 ^ (min y.toNat k.bits))))⟩
  | .shr => ⟨0 ≤ y, .lit (.int k (x.fdiv (2 ^ (min y.toNat k.bits))))⟩
  | .eql => ⟨True, .lit (.bool (x == y))⟩
  | .neq => ⟨True, .lit (.bool (x != y))⟩
  | .lss => ⟨True, .lit (.bool (x < y))⟩
  | .leq => ⟨True, .lit (.bool (x ≤ y))⟩
  | .gtr => ⟨True, .lit (.bool (x > y))⟩
  | .geq => ⟨True, .lit (.bool (x ≥ y))⟩

def shifts : BinOp → Bool
  | .shl | .shr => true
  | _ => false

theorem evInt_run {op : BinOp} {k k' : IntKind} {x y : Int} {t : TypeId} (hk : shifts op = false → k = k') (h : (evInt op k x y).D) :
    ∃ v, (binOp op t (.int k x) (.int k' y)).run P W = .ok v W ∧ (evInt op k x y).V = .lit v := by
  cases op <;> simp only [shifts] at hk <;>
    first
    | (have e := hk trivial; subst e
       simp only [evInt, ne_eq] at h ⊢
       refine ⟨_, ?_, rfl⟩
       first
       | (simp [binOp, Op.intArith, Op.intCmp, Op.intBits, go_sem]; done)
       | (simp [binOp, Op.intDiv, go_sem]; exact h))
    | (simp only [evInt] at h ⊢
       refine ⟨_, ?_, rfl⟩
       have : ¬ y < 0 := by omega
       simp [binOp, Op.shift, this, go_sem])

/-! ### Scalars; equality of structs and arrays of scalars -/
def scalarD : TypeDesc → Bool
  | .bool | .int _ | .string => true
  | _ => false
def litFit : TypeDesc → PV → Prop
  | .bool, .lit (.bool _) => True
  | .int k, .lit (.int k' _) => k' = k
  | .string, .lit (.string _) => True
  | _, _ => False
def litEq : PV → PV → Bool
  | .lit (.bool a), .lit (.bool b) => a == b
  | .lit (.int _ a), .lit (.int _ b) => a == b
  | .lit (.string a), .lit (.string b) => a == b
  | _, _ => false

theorem litFit_inv {ty : TypeDesc} {p : PV} (h : litFit ty p) : (∃ b, ty = .bool ∧ p = .lit (.bool b)) ∨ (∃ k n, ty = .int k ∧ p = .lit (.int k n)) ∨ (∃ s, ty = .string ∧ p = .lit (.string s)) := by
  unfold litFit at h
  split at h
  · exact .inl ⟨_, rfl, rfl⟩
  · subst h; exact .inr (.inl ⟨_, _, rfl, rfl⟩)
  · exact .inr (.inr ⟨_, rfl, rfl⟩)
  · exact h.elim

theorem litEq_run {d : Nat} {t : TypeId} {ty : TypeDesc} {p q : PV} {v w : Value} (ht : P.underlying t = some ty) (hp : litFit ty p) (hq : litFit ty q) (hv : VRel G W p v) (hw : VRel G W q w) :
    (Op.equalIn (d + 1) t v w).run P W = .ok (litEq p q) W := by
  rcases litFit_inv hp with ⟨b, rfl, rfl⟩ | ⟨k, n, rfl, rfl⟩ | ⟨s, rfl, rfl⟩ <;> rcases litFit_inv hq with ⟨b', e, rfl⟩ | ⟨k', n', e, rfl⟩ | ⟨s', e, rfl⟩ <;> cases e <;> cases hv <;> cases hw <;>
    simp [Op.equalIn, litEq, underlying, ht, go_sem, program, Sem.run_bind, Sem.run]

/-- The places and kinds that '==' at a struct or an array of scalars looks at. -/
def eqS (P : Program) (t : TypeId) : Option (List (Nat × TypeDesc)) :=
  if P.eqGuardType P.depth t then none else
  match P.underlying t with
  | some (.struct fs) =>
    if P.stoodInHeld t then none else
    fs.toList.mapM fun f =>
      if f.name = "_" then none else
      match P.underlying f.type with
      | some ty => if scalarD ty then some (f.offset, ty) else none
      | none => none
  | some (.array n e) =>
    match P.underlying e, inf P e with
    | some ty, some (1, _) => if scalarD ty then some ((List.range n).map fun i => (i, ty)) else none
    | _, _ => none
  | _ => none

def evEq (P : Program) (t : TypeId) (cs ds : List PV) : EV :=
  match eqS P t with
  | some l => ⟨∀ x ∈ l, litFit x.2 (cs.getD x.1 .any) ∧ litFit x.2 (ds.getD x.1 .any), .lit (.bool (l.all fun x => litEq (cs.getD x.1 .any) (ds.getD x.1 .any)))⟩
  | none => .no

theorem run_isAgg_scalar {t : TypeId} {ty : TypeDesc} (ht : P.underlying t = some ty) (hs : scalarD ty = true) : (isAgg t).run P W = .ok false W := by
  cases ty <;> simp [scalarD] at hs <;> simp [isAgg, Sem.run_bind, run_underlying ht]

theorem part_scalar {t : TypeId} {ty : TypeDesc} {cs : List PV} {vs : Array Value} {off : Nat} (ht : P.underlying t = some ty) (hs : scalarD ty = true) (hv : vs.size = cs.length)
    (hf : litFit ty (cs.getD off .any)) : (part t vs off).run P W = .ok (vs.getD off undef) W := by
  have hlt : off < cs.length := by
    rcases Nat.lt_or_ge off cs.length with h | h
    · exact h
    · simp [List.getD, List.getElem?_eq_none h, litFit] at hf
  have hlt' : off < vs.size := by omega
  simp [part, Sem.run_bind, run_isAgg_scalar ht hs, hlt', go_sem]

theorem eqFields_run {d : Nat} {cs ds : List PV} {vs ws : Array Value} (h1 : vs.size = cs.length) (h2 : ∀ i, i < cs.length → VRel G W (cs.getD i .any) (vs.getD i undef))
    (h3 : ws.size = ds.length) (h4 : ∀ i, i < ds.length → VRel G W (ds.getD i .any) (ws.getD i undef)) :
    ∀ (fs : List Field) (l : List (Nat × TypeDesc)), (fs.mapM fun f => if f.name = "_" then none else
      match P.underlying f.type with
      | some ty => if scalarD ty then some (f.offset, ty) else none
      | none => none) = some l → (∀ x ∈ l, litFit x.2 (cs.getD x.1 .any) ∧ litFit x.2 (ds.getD x.1 .any)) →
      (Op.eqFields (d + 1) vs ws fs).run P W = .ok (l.all fun x => litEq (cs.getD x.1 .any) (ds.getD x.1 .any)) W := by
  have lt : ∀ {cs : List PV} {ty : TypeDesc} {off : Nat}, litFit ty (cs.getD off .any) → off < cs.length := fun {cs ty off} hf => by
    rcases Nat.lt_or_ge off cs.length with h | h
    · exact h
    · simp [List.getD, List.getElem?_eq_none h, litFit] at hf
  intro fs
  induction fs with
  | nil => intro l hl _; simp at hl; subst hl; simp [Op.eqFields, go_sem]
  | cons f fs ih =>
    intro l hl hf
    rw [List.mapM_cons] at hl
    split at hl
    · simp at hl
    rename_i hn
    split at hl
    · rename_i ty hty
      split at hl
      · rename_i hs
        simp only [Option.pure_def, Option.bind_eq_bind, Option.bind_some] at hl
        obtain ⟨l', hl', he⟩ := Option.bind_eq_some_iff.1 hl
        simp at he; subst he
        obtain ⟨f1, f2⟩ := hf _ (List.mem_cons_self ..)
        have r1 := part_scalar (P := P) (W := W) hty hs h1 f1
        have r2 := part_scalar (P := P) (W := W) hty hs h3 f2
        have r3 := litEq_run (P := P) (W := W) (G := G) (d := d) hty f1 f2 (h2 _ (lt f1)) (h4 _ (lt f2))
        have r4 := ih l' hl' (fun x hx => hf x (List.mem_cons_of_mem _ hx))
        simp only [Op.eqFields, ne_eq, hn, not_false_eq_true, if_true, Sem.run_bind, r1, r2, r3, Result.andThen_ok, List.all_cons]
        cases hq : litEq (cs.getD f.offset .any) (ds.getD f.offset .any) <;> simp [r4, go_sem]
      · simp at hl
    · simp at hl

theorem inf_some {t : TypeId} {k : Nat} {a : Bool} (h : inf P t = some (k, a)) : ∃ i d, P.info? t = some i ∧ P.underlying t = some d ∧ i.size = k ∧ isAggD d = a := by
  unfold inf at h
  split at h
  · rename_i i d hi hd
    simp at h
    exact ⟨i, d, hi, hd, h.1, h.2⟩
  · cases h
theorem inf_size {t : TypeId} {k : Nat} {a : Bool} (h : inf P t = some (k, a)) : (sizeOf t).run P W = .ok k W := by
  obtain ⟨i, d, h1, _, h3, _⟩ := inf_some h
  simp [sizeOf, typeInfo, Sem.run_bind, h1, h3, program, Sem.run]
theorem inf_agg {t : TypeId} {k : Nat} {a : Bool} (h : inf P t = some (k, a)) : (isAgg t).run P W = .ok a W := by
  obtain ⟨i, d, _, h2, _, h4⟩ := inf_some h
  subst h4
  cases d <;> simp [isAgg, Sem.run_bind, run_underlying h2, isAggD]

theorem eqArr_run {t e : TypeId} {ty : TypeDesc} {m : Nat} {ag : Bool} {cs ds : List PV} {vs ws : Array Value} (ht : P.underlying t = some (.array m e)) (hty : P.underlying e = some ty) (hs : scalarD ty = true)
    (hin : inf P e = some (1, ag)) (h1 : vs.size = cs.length) (h2 : ∀ i, i < cs.length → VRel G W (cs.getD i .any) (vs.getD i undef))
    (h3 : ws.size = ds.length) (h4 : ∀ i, i < ds.length → VRel G W (ds.getD i .any) (ws.getD i undef))
    (hf : ∀ i, i < m → litFit ty (cs.getD i .any) ∧ litFit ty (ds.getD i .any)) :
    (Op.equal t (.agg vs) (.agg ws)).run P W = .ok (((List.range m).map fun i => (i, ty)).all fun x => litEq (cs.getD x.1 .any) (ds.getD x.1 .any)) W := by
  have lt : ∀ {cs : List PV} {ty : TypeDesc} {off : Nat}, litFit ty (cs.getD off .any) → off < cs.length := fun {cs ty off} hf => by
    rcases Nat.lt_or_ge off cs.length with h | h
    · exact h
    · simp [List.getD, List.getElem?_eq_none h, litFit] at hf
  have one : ∀ i, i < m → ((part e vs (i * 1)).run P W = .ok (vs.getD i undef) W ∧ (part e ws (i * 1)).run P W = .ok (ws.getD i undef) W ∧
      (Op.equalIn 9999 e (vs.getD i undef) (ws.getD i undef)).run P W = .ok (litEq (cs.getD i .any) (ds.getD i .any)) W) := fun i hi => by
    obtain ⟨f1, f2⟩ := hf i hi
    rw [Nat.mul_one]
    exact ⟨part_scalar hty hs h1 f1, part_scalar hty hs h3 f2, litEq_run (d := 9998) hty f1 f2 (h2 _ (lt f1)) (h4 _ (lt f2))⟩
  rw [Op.equal, Op.maxDepth, show (10000 : Nat) = 9999 + 1 from rfl]
  generalize hd : (9999 : Nat) = dd at one ⊢
  rw [Op.equalIn]
  simp only [Sem.run_bind, run_underlying ht, Result.andThen_ok, inf_size hin, Std.Legacy.Range.forIn_eq_forIn_range', Std.Legacy.Range.size]
  rw [show (m - 0 + 1 - 1) / 1 = m by simp, ← List.range_eq_range']
  have key : ∀ l : List Nat, (∀ i ∈ l, i < m) → (forIn l ((none : Option Bool), ()) fun i (__s : Option Bool × Unit) => do
      let a ← part e vs (i * 1)
      let b ← part e ws (i * 1)
      let r ← Op.equalIn dd e a b
      if (!r) = true then pure (ForInStep.done (some false, ())) else pure (ForInStep.yield (none, ())) : Sem (Option Bool × Unit)).run P W =
      .ok (if (l.all fun i => litEq (cs.getD i .any) (ds.getD i .any)) then none else some false, ()) W := by
    intro l
    induction l with
    | nil => intro _; simp [go_sem]
    | cons i l ih =>
      intro hl
      obtain ⟨r1, r2, r3⟩ := one i (hl i (List.mem_cons_self ..))
      have r4 := ih (fun j hj => hl j (List.mem_cons_of_mem _ hj))
      simp only [List.forIn_cons, Sem.run_bind, r1, r2, r3, Result.andThen_ok, List.all_cons]
      by_cases hq : litEq (cs.getD i .any) (ds.getD i .any) = true
      · rw [if_neg (by simp only [hq]; decide)]
        simp only [Sem.run_pure, Result.andThen_ok, hq, Bool.true_and]
        exact r4
      · simp only [Bool.not_eq_true] at hq
        rw [if_pos (by simp only [hq]; decide)]
        simp only [Sem.run_pure, Result.andThen_ok, hq, Bool.false_and, Bool.false_eq_true, if_false]
  rw [key (List.range m) (fun i hi => List.mem_range.1 hi)]
  rw [List.all_map]
  simp only [Function.comp_def, Result.andThen_ok]
  generalize (List.range m).all (fun i => litEq (cs.getD i .any) (ds.getD i .any)) = bb
  cases bb <;> simp [go_sem]

theorem evEq_run {t : TypeId} {cs ds : List PV} {v w : Value} (hv : VRel G W (.agg cs) v) (hw : VRel G W (.agg ds) w) (h : (evEq P t cs ds).D) :
    (∃ vs ws, v = .agg vs ∧ w = .agg ws) ∧ P.eqGuardType P.depth t = false ∧ ∃ b, (Op.equal t v w).run P W = .ok b W ∧ (evEq P t cs ds).V = .lit (.bool b) := by
  cases hv with
  | agg _ vs h1 h2 =>
  cases hw with
  | agg _ ws h3 h4 =>
  refine ⟨⟨_, _, rfl, rfl⟩, ?_⟩
  unfold evEq at h ⊢
  cases hl : eqS P t with
  | none => rw [hl] at h; exact h.elim
  | some l =>
    rw [hl] at h
    simp only at h ⊢
    unfold eqS at hl
    split at hl
    · cases hl
    rename_i hg
    refine ⟨by simpa using hg, _, ?_, rfl⟩
    split at hl
    · rename_i fs ht
      split at hl
      · cases hl
      rename_i hsto
      have hfs : P.fieldsOf t = fs := by simp [Program.fieldsOf, ht]
      obtain ⟨dd, hd⟩ : ∃ dd, Op.maxDepth = dd + 1 + 1 := ⟨9998, rfl⟩
      rw [Op.equal, hd, run_equalIn_struct W (dd + 1) t vs ws (by rw [hfs]; exact ht) (by simpa using hsto), hfs]
      exact eqFields_run (d := dd) h1 h2 h3 h4 _ _ hl h
    · rename_i m e ht
      split at hl
      · rename_i ty ag hty hin
        split at hl
        · rename_i hs
          simp at hl; subst hl
          exact eqArr_run ht hty hs (by rw [hin]) h1 h2 h3 h4 (fun i hi => h (i, ty) (by simpa using hi))
        · cases hl
      · cases hl
    · cases hl

/-! ### Binary and unary operators -/
def notV : PV → PV
  | .lit (.bool b) => .lit (.bool (!b))
  | v => v
def evBin (P : Program) (op : BinOp) (t : TypeId) (a b : PV) : EV :=
  match a, b with
  | .lit (.int k x), .lit (.int k' y) => ⟨(shifts op = false → k = k') ∧ (evInt op k x y).D, (evInt op k x y).V⟩
  | .lit (.bool x), .lit (.bool y) =>
    match op with
    | .eql => ⟨P.underlying t = some .bool, .lit (.bool (x == y))⟩
    | .neq => ⟨P.underlying t = some .bool, .lit (.bool (!(x == y)))⟩
    | _ => .no
  | .lit (.string x), .lit (.string y) =>
    match op with
    | .eql => ⟨True, .lit (.bool (x.toList == y.toList))⟩
    | .neq => ⟨True, .lit (.bool (!(x.toList == y.toList)))⟩
    | .lss => ⟨True, .lit (.bool (Op.bytesLess x.toList y.toList))⟩
    | _ => .no
  | .agg cs, .agg ds =>
    match op with
    | .eql => evEq P t cs ds
    | .neq => ⟨(evEq P t cs ds).D, notV (evEq P t cs ds).V⟩
    | _ => .no
  | _, _ => .no

theorem eqGuard_plain {op : BinOp} {t : TypeId} {x y : Operand} {v w : Value} (h1 : ∀ a, v ≠ .agg a) (h2 : v ≠ .nilIface) : (eqGuard op t x y v w).run P W = .ok () W := by
  have key : (match v, w with
      | .nilIface, .nilIface => (do
        if (x matches .const _) || (y matches .const _) then return
        if ← Op.eqGuardIn Op.maxDepth t v w then unsupported (.noEntry "binop/eql: two nil values of an interface type with methods, neither of them the literal nil") : Sem Unit)
      | .agg _, .agg _ => do
        if !(← program).eqGuardType (← program).depth t then return
        if ← Op.eqGuardIn Op.maxDepth t v w then unsupported (.noEntry "binop/eql: two nil values of an interface type with methods, in a part of a struct or an array")
      | _, _ => pure ()).run P W = .ok () W := by
    split
    · exact absurd rfl h2
    · exact absurd rfl (h1 _)
    · rfl
  cases op <;> first | rfl | exact key

theorem evBin_run {op : BinOp} {t : TypeId} {x y : Operand} {a b : PV} {v w : Value} (hv : VRel G W a v) (hw : VRel G W b w) (h : (evBin P op t a b).D) :
    ∃ u, (do eqGuard op t x y v w; binOp op t v w : Sem Value).run P W = .ok u W ∧ VRel G W (evBin P op t a b).V u := by
  unfold evBin at h ⊢
  split at h
  · rename_i k x' k' y'
    cases hv; cases hw
    obtain ⟨u, h1, h2⟩ := evInt_run (P := P) (W := W) (t := t) h.1 h.2
    exact ⟨u, by rw [Sem.run_bind, eqGuard_plain (by simp) (by simp)]; exact h1, by rw [h2]; exact .lit u⟩
  · cases hv; cases hw
    split at h
    · refine ⟨_, by rw [Sem.run_bind, eqGuard_plain (by simp) (by simp)]; simp [binOp, Op.equal, Op.maxDepth, run_equalIn_bool' W _ t _ _ h, go_sem], .lit _⟩
    · refine ⟨_, by rw [Sem.run_bind, eqGuard_plain (by simp) (by simp)]; simp [binOp, Op.equal, Op.maxDepth, run_equalIn_bool' W _ t _ _ h, go_sem], .lit _⟩
    · exact h.elim
  · cases hv; cases hw
    split at h
    · exact ⟨_, by rw [Sem.run_bind, eqGuard_plain (by simp) (by simp)]; simp [binOp, Op.stringOp, go_sem], .lit _⟩
    · exact ⟨_, by rw [Sem.run_bind, eqGuard_plain (by simp) (by simp)]; simp [binOp, Op.stringOp, go_sem], .lit _⟩
    · exact ⟨_, by rw [Sem.run_bind, eqGuard_plain (by simp) (by simp)]; simp [binOp, Op.stringOp, go_sem], .lit _⟩
    · exact h.elim
  · split at h
    · obtain ⟨⟨vs, ws, rfl, rfl⟩, hg, bb, h1, h2⟩ := evEq_run (P := P) hv hw h
      refine ⟨.bool bb, ?_, by rw [h2]; exact .lit _⟩
      rw [Sem.run_bind, run_eqGuard_agg W .eql t x y vs ws hg]
      simp [binOp, h1]
    · obtain ⟨⟨vs, ws, rfl, rfl⟩, hg, bb, h1, h2⟩ := evEq_run (P := P) hv hw h
      refine ⟨.bool (!bb), ?_, by simp only [h2, notV]; exact .lit _⟩
      rw [Sem.run_bind, run_eqGuard_agg W .neq t x y vs ws hg]
      simp [binOp, h1]
    · exact h.elim
  · exact h.elim

def evUn (op : UnOp) (a : PV) : EV :=
  match op, a with
  | .not, .lit (.bool b) => ⟨True, .lit (.bool (!b))⟩
  | .neg, .lit (.int k n) => ⟨True, .lit (.int k (k.wrap (0 - n)))⟩
  | _, _ => .no
theorem evUn_run {op : UnOp} {a : PV} {v : Value} (hv : VRel G W a v) (h : (evUn op a).D) : ∃ u, (Op.unary op v).run P W = .ok u W ∧ VRel G W (evUn op a).V u := by
  unfold evUn at h ⊢
  split at h
  · cases hv; exact ⟨_, rfl, .lit _⟩
  · cases hv; exact ⟨_, rfl, .lit _⟩
  · exact h.elim

end
end Go.Lo
