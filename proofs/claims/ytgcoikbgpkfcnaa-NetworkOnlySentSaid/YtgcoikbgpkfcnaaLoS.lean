/-
  The program logic 'Lo', part S: how simp runs code: each step forces its operands first and looks into nothing else. Nothing of the program.
-/
import Derived.Test.YtgcoikbgpkfcnaaLoR
set_option linter.unusedSimpArgs false
set_option linter.unusedVariables false
namespace Go.Lo
open Go

/-! ### Forcing: simp normalizes the first argument alone -/
structure TgK {α : Type} (k : α → Prop) where
  x : Nat := 0
def VK {α : Type} (v : α) (k : α → Prop) (_ : TgK k) : Prop := k v
@[simp] theorem VK_def {α : Type} (v : α) (k : α → Prop) (t : TgK k) : VK v k t = k v := (rfl)
def OS {α : Type} (v : Option α) (k : α → Prop) (_ : TgK k) : Prop := match v with | some a => k a | none => False
@[simp] theorem OS_some {α : Type} (v : α) (k : α → Prop) (t : TgK k) : OS (some v) k t = k v := (rfl)
def ER (e : EV) (k : PV → Prop) (_ : TgK k) : Prop := e.D ∧ k e.V
@[simp] theorem ER_mk (D : Prop) (V : PV) (k : PV → Prop) (t : TgK k) : ER ⟨D, V⟩ k t = (D ∧ k V) := (rfl)
@[simp high] theorem ER_true (V : PV) (k : PV → Prop) (t : TgK k) : ER ⟨True, V⟩ k t = k V := by simp only [ER, true_and]
/-- .. under a guard. -/
def EG (b : Bool) (e : EV) (k : PV → Prop) (_ : TgK k) : Prop := (b = true → e.D) ∧ k (.gd b e.V)
@[simp] theorem EG_mk (b : Bool) (D : Prop) (V : PV) (k : PV → Prop) (t : TgK k) : EG b ⟨D, V⟩ k t = ((b = true → D) ∧ k (.gd b V)) := (rfl)
@[simp high] theorem EG_true (b : Bool) (V : PV) (k : PV → Prop) (t : TgK k) : EG b ⟨True, V⟩ k t = k (.gd b V) := by simp only [EG, implies_true, true_and]
structure TgG (e : EV) (k : PV → Prop) where
  x : Nat := 0
def GB (g : Option Bool) (e : EV) (k : PV → Prop) (_ : TgG e k) : Prop := match g with | some b => (b = true → e.D) ∧ k (.gd b e.V) | none => False
@[simp high] theorem GB_true (e : EV) (k : PV → Prop) (t : TgG e k) : GB (some true) e k t = ER e (fun V => k (.gd true V)) {} := by simp [GB, ER]
@[simp high] theorem GB_false (e : EV) (k : PV → Prop) (t : TgG e k) : GB (some false) e k t = k (.gd false e.V) := by simp [GB]
@[simp] theorem GB_some (b : Bool) (e : EV) (k : PV → Prop) (t : TgG e k) : GB (some b) e k t = EG b e k {} := (rfl)
structure TgC (X Y : Prop) where
  x : Nat := 0
def CR (p : PV) (X Y : Prop) (_ : TgC X Y) : Prop := match p with | .lit (.bool b) => (b = true → X) ∧ (b = false → Y) | _ => False
@[simp high] theorem CR_true (X Y : Prop) (t : TgC X Y) : CR (.lit (.bool true)) X Y t = X := by simp [CR]
@[simp high] theorem CR_false (X Y : Prop) (t : TgC X Y) : CR (.lit (.bool false)) X Y t = Y := by simp [CR]
@[simp] theorem CR_bool (b : Bool) (X Y : Prop) (t : TgC X Y) : CR (.lit (.bool b)) X Y t = ((b = true → X) ∧ (b = false → Y)) := (rfl)

def gEV (c : Prop) (e : EV) : EV := ⟨c ∧ e.D, e.V⟩
@[simp high] theorem gEV_true (e : EV) : gEV True e = e := by simp [gEV]
@[simp] theorem gEV_mk (c D : Prop) (V : PV) : gEV c ⟨D, V⟩ = ⟨c ∧ D, V⟩ := (rfl)

/-! ### Operands -/
@[simp ↓] theorem opv_tmp (fr : Fr) (t : Tmp) : opv fr (.tmp t) = fr t := (rfl)
@[simp ↓] theorem opv_const (fr : Fr) (v : Value) : opv fr (.const v) = .lit v := (rfl)
@[simp ↓] theorem opv_func (fr : Fr) (f : FuncId) : opv fr (.func f) = .fn (.func f) [] [] := (rfl)
@[simp ↓] theorem frSet_at (fr : Fr) (d t : Tmp) (v : PV) : frSet fr (some d) v t = if t = d then v else fr t := (rfl)
@[simp ↓] theorem frSet_none (fr : Fr) (t : Tmp) (v : PV) : frSet fr none v t = fr t := (rfl)
@[simp ↓] theorem Fr.set_at (fr : Fr) (d t : Tmp) (v : PV) : (fr.set d v) t = if t = d then v else fr t := (rfl)
@[simp ↓] theorem Fr.init_at (args : List PV) (t : Tmp) : Fr.init args t = args.getD t (.lit undef) := (rfl)
/-- Two names of memory: the same? -/
def SameId (a b : Nat) : Prop := a = b
instance (a b : Nat) : Decidable (SameId a b) := inferInstanceAs (Decidable (a = b))
def Apart (a b : Nat) : Prop := a ≠ b
@[simp high] theorem SameId_self (a : Nat) : SameId a a = True := by simp [SameId]
@[simp] theorem SameId_apart {a b : Nat} (h : Apart a b) : SameId a b = False := by simp [SameId]; exact h
@[simp] theorem SameId_apart' {a b : Nat} (h : Apart b a) : SameId a b = False := by simp [SameId]; exact Ne.symm h
@[simp low] theorem SameId_ne {a b : Nat} (h : ¬ a = b) : SameId a b = False := by simp [SameId]; exact h
@[simp low] theorem SameId_ne' {a b : Nat} (h : ¬ b = a) : SameId a b = False := by simp [SameId]; exact Ne.symm h
@[simp ↓] theorem Heap.set_at (σ : Heap) (id j : Nat) (o : PObj) : (σ.set id o) j = if SameId j id then some o else σ j := (rfl)
@[simp ↓] theorem Heap.del_at (σ : Heap) (id j : Nat) : (σ.del id) j = if SameId j id then none else σ j := (rfl)
/-- Nothing bears this name yet. -/
def frs (σ : Heap) (id : Nat) : Prop := σ id = none
@[simp] theorem frs_set (σ : Heap) (id j : Nat) (o : PObj) : frs (σ.set j o) id = (Apart id j ∧ frs σ id) := by
  unfold frs Apart Heap.set; split <;> simp_all
@[simp] theorem frs_empty (id : Nat) : frs Heap.empty id = True := by simp [frs, Heap.empty]
theorem frs.ne {σ : Heap} {id j : Nat} {x : PObj} (h : frs σ id) (hj : σ j = some x) : Apart id j := fun e => by
  unfold frs at h; rw [e, hj] at h; cases h
@[simp] theorem Heap.empty_at (j : Nat) : Heap.empty j = none := (rfl)

def avL (fr : Fr) : List Operand → Prop
  | [] => True
  | x :: l => avt (opv fr x) ∧ avL fr l
def svL (fr : Fr) : List Operand → List PV
  | [] => []
  | x :: l => sv (opv fr x) :: svL fr l
@[simp ↓] theorem avL_nil (fr : Fr) : avL fr [] = True := (rfl)
@[simp ↓] theorem avL_cons (fr : Fr) (x : Operand) (l : List Operand) : avL fr (x :: l) = (avt (opv fr x) ∧ avL fr l) := (rfl)
@[simp ↓] theorem svL_nil (fr : Fr) : svL fr [] = [] := (rfl)
@[simp ↓] theorem svL_cons (fr : Fr) (x : Operand) (l : List Operand) : svL fr (x :: l) = sv (opv fr x) :: svL fr l := (rfl)
theorem avL_iff (fr : Fr) : ∀ l, avL fr l = (∀ x ∈ l, avt (opv fr x)) := by
  intro l
  induction l with
  | nil => simp [avL]
  | cons x l ih => simp [avL, ih]
theorem svL_map (fr : Fr) : ∀ l, svL fr l = l.map fun x => sv (opv fr x) := by
  intro l
  induction l with
  | nil => rfl
  | cons x l ih => simp [svL, ih]
def avP (fr : Fr) : List (Nat × Operand) → Prop
  | [] => True
  | (i, x) :: l => avt (opv fr x) ∧ avP fr l
def svP (fr : Fr) : List (Nat × Operand) → List (Nat × PV)
  | [] => []
  | (i, x) :: l => (i, sv (opv fr x)) :: svP fr l
@[simp ↓] theorem avP_nil (fr : Fr) : avP fr [] = True := (rfl)
@[simp ↓] theorem avP_cons (fr : Fr) (i : Nat) (x : Operand) (l : List (Nat × Operand)) : avP fr ((i, x) :: l) = (avt (opv fr x) ∧ avP fr l) := (rfl)
@[simp ↓] theorem svP_nil (fr : Fr) : svP fr [] = [] := (rfl)
@[simp ↓] theorem svP_cons (fr : Fr) (i : Nat) (x : Operand) (l : List (Nat × Operand)) : svP fr ((i, x) :: l) = (i, sv (opv fr x)) :: svP fr l := (rfl)
theorem avP_iff (fr : Fr) : ∀ l, avP fr l = (∀ x ∈ l.map (·.2), avt (opv fr x)) := by
  intro l
  induction l with
  | nil => simp [avP]
  | cons x l ih => obtain ⟨i, x⟩ := x; simp [avP, ih]
theorem svP_map (fr : Fr) : ∀ l, svP fr l = l.map fun p => (p.1, sv (opv fr p.2)) := by
  intro l
  induction l with
  | nil => rfl
  | cons x l ih => obtain ⟨i, x⟩ := x; simp [svP, ih]
def avO (fr : Fr) : Option Operand → Prop
  | none => True
  | some x => avt (opv fr x)
def svO (fr : Fr) : Option Operand → Option PV
  | none => none
  | some x => some (sv (opv fr x))
@[simp ↓] theorem avO_none (fr : Fr) : avO fr none = True := (rfl)
@[simp ↓] theorem avO_some (fr : Fr) (x : Operand) : avO fr (some x) = avt (opv fr x) := (rfl)
@[simp ↓] theorem svO_none (fr : Fr) : svO fr none = none := (rfl)
@[simp ↓] theorem svO_some (fr : Fr) (x : Operand) : svO fr (some x) = some (sv (opv fr x)) := (rfl)

section
variable {P : Program} {T : Tab} {rd : Bool} {n : Nat} {ops : Array Oper} {Q : PX → Fr → Heap → Prop} {l : List Oper} {fr : Fr} {σ : Heap}

/-! ### What an operation yields -/
def evo (P : Program) (T : Tab) (σ : Heap) (fr : Fr) (op : Op) : EV := evc P T σ fr { dst := none, op := op, type := 0, pos := "", after := #[], guard := none }
theorem evc_evo (o : Oper) : evc P T σ fr o = evo P T σ fr o.op := by cases o; rfl
theorem gate_gEV (xs : List Operand) (e : EV) : gate fr xs e = gEV (avL fr xs) e := by rw [avL_iff]; rfl

@[simp ↓] theorem evo_move (x : Operand) : evo P T σ fr (.move x) = ⟨avt (opv fr x), sv (opv fr x)⟩ := by
  show gate fr [x] _ = _; simp [gate]
@[simp ↓] theorem evo_assign (x : Operand) : evo P T σ fr (.assign x) = ⟨avt (opv fr x), sv (opv fr x)⟩ := by
  show gate fr [x] _ = _; simp [gate]
@[simp ↓] theorem evo_bin (op : BinOp) (t : TypeId) (x y : Operand) (t2 : TypeId) : evo P T σ fr (.binOp op t x y t2) = gEV (avt (opv fr x) ∧ avt (opv fr y)) (evBin P op t (sv (opv fr x)) (sv (opv fr y))) := by
  show gate fr [x, y] _ = _; simp [gate, gEV]
@[simp ↓] theorem evo_un (op : UnOp) (t : TypeId) (x : Operand) : evo P T σ fr (.unOp op t x) = gEV (avt (opv fr x)) (evUn op (sv (opv fr x))) := by
  show gate fr [x] _ = _; simp [gate, gEV]
@[simp ↓] theorem evo_conv (s d : TypeId) (x : Operand) : evo P T σ fr (.convert s d x) = gEV (avt (opv fr x)) (evConv P s d (sv (opv fr x))) := by
  show gate fr [x] _ = _; simp [gate, gEV]
@[simp ↓] theorem evo_load (t : TypeId) (x : Operand) : evo P T σ fr (.load t x) = gEV (avt (opv fr x)) (evL P σ t (sv (opv fr x))) := by
  show gate fr [x] _ = _; simp [gate, gEV]
@[simp ↓] theorem evo_nilCheck (x : Operand) : evo P T σ fr (.nilCheck x) = gEV (avt (opv fr x)) (evNil (sv (opv fr x))) := by
  show gate fr [x] _ = _; simp [gate, gEV]
@[simp ↓] theorem evo_mkI (t : TypeId) (x : Operand) : evo P T σ fr (.makeInterface t x) = gEV (avt (opv fr x)) ⟨notIface P t = true, .iface t (sv (opv fr x))⟩ := by
  show gate fr [x] _ = _; simp [gate, gEV]
@[simp ↓] theorem evo_fieldAddr (t : TypeId) (x : Operand) (f : Nat) : evo P T σ fr (.fieldAddr t x f) = gEV (avt (opv fr x)) (evFA P t (sv (opv fr x)) f) := by
  show gate fr [x] _ = _; simp [gate, gEV]
@[simp ↓] theorem evo_field (t : TypeId) (x : Operand) (f : Nat) : evo P T σ fr (.field t x f) = gEV (avt (opv fr x)) (evF P t (sv (opv fr x)) f) := by
  show gate fr [x] _ = _; simp [gate, gEV]
@[simp ↓] theorem evo_indexAddr (t : TypeId) (x y : Operand) : evo P T σ fr (.indexAddr t x y) = gEV (avt (opv fr x) ∧ avt (opv fr y)) (evIA P t (sv (opv fr x)) (sv (opv fr y))) := by
  show gate fr [x, y] _ = _; simp [gate, gEV]
@[simp ↓] theorem evo_index (t : TypeId) (x y : Operand) : evo P T σ fr (.index t x y) = gEV (avt (opv fr x) ∧ avt (opv fr y)) (evI P t (sv (opv fr x)) (sv (opv fr y))) := by
  show gate fr [x, y] _ = _; simp [gate, gEV]
@[simp ↓] theorem evo_extract (x : Operand) (i : Nat) : evo P T σ fr (.extract x i) = gEV (avt (opv fr x)) (evExtract (sv (opv fr x)) i) := by
  show gate fr [x] _ = _; simp [gate, gEV]
@[simp ↓] theorem evo_build (t : TypeId) (ps : List (Nat × Operand)) : evo P T σ fr (.build t ps.toArray) = gEV (avP fr ps) (evBuild P t (svP fr ps)) := by
  rw [avP_iff, svP_map]
  show gate fr (ps.toArray.toList.map (·.2)) (evBuild P t (partsP fr ps.toArray)) = _
  simp [gate, gEV, partsP]
@[simp ↓] theorem evo_buildSlice (t : TypeId) (len : Nat) (ps : List (Nat × Operand)) : evo P T σ fr (.buildSlice t len ps.toArray) = gEV (avP fr ps) (evBS P t len (svP fr ps)) := by
  rw [avP_iff, svP_map]
  show gate fr (ps.toArray.toList.map (·.2)) (evBS P t len (partsP fr ps.toArray)) = _
  simp [gate, gEV, partsP]
@[simp ↓] theorem evo_makeFunc (f : Fn) (first cap : List Operand) : evo P T σ fr (.makeFunc f first.toArray cap.toArray) = gEV (avL fr first ∧ avL fr cap) ⟨True, .fn f (svL fr first) (svL fr cap)⟩ := by
  rw [avL_iff, avL_iff, svL_map, svL_map]
  show gate fr (first.toArray.toList ++ cap.toArray.toList) ⟨True, .fn f (first.toArray.toList.map fun x => sv (opv fr x)) (cap.toArray.toList.map fun x => sv (opv fr x))⟩ = _
  simp only [gate, gEV, and_true]
  congr 1
  simp only [List.mem_append, eq_iff_iff]
  exact ⟨fun h => ⟨fun x hx => h x (.inl hx), fun x hx => h x (.inr hx)⟩, fun h x hx => hx.elim (h.1 x) (h.2 x)⟩
@[simp ↓] theorem evo_slice (t : TypeId) (x : Operand) (lo hi mx : Option Operand) : evo P T σ fr (.slice t x lo hi mx) = gEV (avt (opv fr x) ∧ avO fr lo ∧ avO fr hi ∧ avO fr mx) (evSl P σ t (sv (opv fr x)) (svO fr lo) (svO fr hi) (svO fr mx)) := by
  show gate fr (x :: (lo.toList ++ hi.toList ++ mx.toList)) (evSl P σ t (sv (opv fr x)) (lo.map fun x => sv (opv fr x)) (hi.map fun x => sv (opv fr x)) (mx.map fun x => sv (opv fr x))) = _
  cases lo <;> cases hi <;> cases mx <;> simp [gate, gEV, avO, svO]
/-- The choice behind '&&' and '||'. -/
def pickE (c a b : PV) : EV :=
  match sv c with
  | .lit (.bool t) => ⟨avt c ∧ (t = true → avt a) ∧ (t = false → avt b), pickV t (sv a) (sv b)⟩
  | _ => .no
@[simp ↓] theorem evo_pick (c a b : Operand) : evo P T σ fr (.pick c a b) = pickE (opv fr c) (opv fr a) (opv fr b) := (rfl)
@[simp] theorem pickV_bool (c x y : Bool) : pickV c (.lit (.bool x)) (.lit (.bool y)) = .lit (.bool (bif c then x else y)) := (rfl)
theorem pickV_true (a b : PV) : pickV true a b = a := by unfold pickV; split <;> rfl
theorem pickV_false (a b : PV) : pickV false a b = b := by unfold pickV; split <;> rfl
@[simp high] theorem pickE_true (a b : PV) : pickE (.lit (.bool true)) a b = ⟨avt a, sv a⟩ := by simp [pickE, pickV_true]
@[simp high] theorem pickE_false (a b : PV) : pickE (.lit (.bool false)) a b = ⟨avt b, sv b⟩ := by simp [pickE, pickV_false]
@[simp] theorem pickE_bool (t : Bool) (a b : PV) : pickE (.lit (.bool t)) a b = ⟨(t = true → avt a) ∧ (t = false → avt b), pickV t (sv a) (sv b)⟩ := by simp [pickE]
@[simp high] theorem pickE_gd (g : Bool) (t : Bool) (a b : PV) : pickE (.gd g (.lit (.bool t))) a b = gEV (g = true) (pickE (.lit (.bool t)) a b) := by simp [pickE, gEV]

@[simp ↓] theorem evo_call (g : FuncId) (as : List Operand) (ts : Array TypeId) : evo P T σ fr (.call { callee := .value (.func g), args := as.toArray, argTypes := ts }) = gEV (avL fr as) (T.ev g (svL fr as) σ) := by
  rw [avL_iff, svL_map]
  show callT T σ fr { callee := .value (.func g), args := as.toArray, argTypes := ts } = _
  unfold callT gEV argsP opv
  simp [sv, avt]
def cloE (T : Tab) (σ : Heap) (f : PV) (args : List PV) : EV :=
  match f with
  | .fn (.func g) first cap => T.ev g (first ++ args ++ cap) σ
  | _ => .no
@[simp ↓] theorem evo_callv (t : Tmp) (as : List Operand) (ts : Array TypeId) : evo P T σ fr (.call { callee := .value (.tmp t), args := as.toArray, argTypes := ts }) = gEV (avt (fr t) ∧ avL fr as) (cloE T σ (sv (fr t)) (svL fr as)) := by
  rw [avL_iff, svL_map]
  show callT T σ fr { callee := .value (.tmp t), args := as.toArray, argTypes := ts } = _
  unfold callT gEV argsP opv cloE
  simp only [Operand.tmp.injEq]
  cases h : sv (fr t) <;> simp [EV.no]
  rename_i f a b
  cases f <;> simp [EV.no, and_assoc]
@[simp] theorem cloE_fn (g : FuncId) (first cap args : List PV) : cloE T σ (.fn (.func g) first cap) args = T.ev g (first ++ args ++ cap) σ := (rfl)
@[simp ↓] theorem evo_len (x : Operand) (t : TypeId) (ts : List TypeId) : evo P T σ fr (.call { callee := .builtin .len, args := #[x], argTypes := (t :: ts).toArray }) = gEV (avt (opv fr x)) (evLen P σ t (sv (opv fr x))) := by
  show gate fr [x] _ = _; simp [gate, gEV]
@[simp ↓] theorem evo_max (x y : Operand) (ts : Array TypeId) : evo P T σ fr (.call { callee := .builtin .max, args := #[x, y], argTypes := ts }) = gEV (avt (opv fr x) ∧ avt (opv fr y)) (evMM true (sv (opv fr x)) (sv (opv fr y))) := by
  show gate fr [x, y] _ = _; simp [gate, gEV]
@[simp ↓] theorem evo_min (x y : Operand) (ts : Array TypeId) : evo P T σ fr (.call { callee := .builtin .min, args := #[x, y], argTypes := ts }) = gEV (avt (opv fr x) ∧ avt (opv fr y)) (evMM false (sv (opv fr x)) (sv (opv fr y))) := by
  show gate fr [x, y] _ = _; simp [gate, gEV]

/-! ### Values -/
/-! Bits: simp does not look into them. -/
def andI (k : IntKind) (x y : Int) : Int := k.wrap (BitVec.ofInt k.bits x &&& BitVec.ofInt k.bits y).toNat
def orI (k : IntKind) (x y : Int) : Int := k.wrap (BitVec.ofInt k.bits x ||| BitVec.ofInt k.bits y).toNat
def xorI (k : IntKind) (x y : Int) : Int := k.wrap (BitVec.ofInt k.bits x ^^^ BitVec.ofInt k.bits y).toNat
def andNotI (k : IntKind) (x y : Int) : Int := k.wrap (BitVec.ofInt k.bits x &&& ~~~ BitVec.ofInt k.bits y).toNat
def shlI (k : IntKind) (x y : Int) : Int := k.wrap (x * 2 ^ (min y.toNat k.bits))
def shrI (k : IntKind) (x y : Int) : Int := x.fdiv (2 ^ (min y.toNat k.bits))
@[simp] theorem evBin_int (op : BinOp) (t : TypeId) (k : IntKind) (x y : Int) : evBin P op t (.lit (.int k x)) (.lit (.int k y)) = evInt op k x y := by
  simp [evBin]
@[simp low] theorem evBin_int2 (op : BinOp) (t : TypeId) (k k' : IntKind) (x y : Int) : evBin P op t (.lit (.int k x)) (.lit (.int k' y)) = gEV (shifts op = false → k = k') (evInt op k x y) := (rfl)
@[simp] theorem evBin_beq (t : TypeId) (x y : Bool) : evBin P .eql t (.lit (.bool x)) (.lit (.bool y)) = ⟨P.underlying t = some .bool, .lit (.bool (x == y))⟩ := (rfl)
@[simp] theorem evBin_bne (t : TypeId) (x y : Bool) : evBin P .neq t (.lit (.bool x)) (.lit (.bool y)) = ⟨P.underlying t = some .bool, .lit (.bool (!(x == y)))⟩ := (rfl)
@[simp] theorem evBin_seq (t : TypeId) (x y : ByteArray) : evBin P .eql t (.lit (.string x)) (.lit (.string y)) = ⟨True, .lit (.bool (x.toList == y.toList))⟩ := (rfl)
@[simp] theorem evBin_sne (t : TypeId) (x y : ByteArray) : evBin P .neq t (.lit (.string x)) (.lit (.string y)) = ⟨True, .lit (.bool (!(x.toList == y.toList)))⟩ := (rfl)
@[simp] theorem evBin_slt (t : TypeId) (x y : ByteArray) : evBin P .lss t (.lit (.string x)) (.lit (.string y)) = ⟨True, .lit (.bool (Op.bytesLess x.toList y.toList))⟩ := (rfl)
theorem evBin_aeq (t : TypeId) (x y : List PV) : evBin P .eql t (.agg x) (.agg y) = evEq P t x y := (rfl)
theorem evBin_ane (t : TypeId) (x y : List PV) : evBin P .neq t (.agg x) (.agg y) = ⟨(evEq P t x y).D, notV (evEq P t x y).V⟩ := (rfl)
@[simp] theorem notV_bool (b : Bool) : notV (.lit (.bool b)) = .lit (.bool (!b)) := (rfl)
@[simp] theorem evInt_add (k : IntKind) (x y : Int) : evInt .add k x y = ⟨True, .lit (.int k (k.wrap (x + y)))⟩ := (rfl)
@[simp] theorem evInt_sub (k : IntKind) (x y : Int) : evInt .sub k x y = ⟨True, .lit (.int k (k.wrap (x - y)))⟩ := (rfl)
@[simp] theorem evInt_mul (k : IntKind) (x y : Int) : evInt .mul k x y = ⟨True, .lit (.int k (k.wrap (x * y)))⟩ := (rfl)
@[simp] theorem evInt_quo (k : IntKind) (x y : Int) : evInt .quo k x y = ⟨y ≠ 0, .lit (.int k (k.wrap (x.tdiv y)))⟩ := (rfl)
@[simp] theorem evInt_rem (k : IntKind) (x y : Int) : evInt .rem k x y = ⟨y ≠ 0, .lit (.int k (x.tmod y))⟩ := (rfl)
@[simp] theorem evInt_and (k : IntKind) (x y : Int) : evInt .and k x y = ⟨True, .lit (.int k (andI k x y))⟩ := (rfl)
@[simp] theorem evInt_or (k : IntKind) (x y : Int) : evInt .or k x y = ⟨True, .lit (.int k (orI k x y))⟩ := (rfl)
@[simp] theorem evInt_xor (k : IntKind) (x y : Int) : evInt .xor k x y = ⟨True, .lit (.int k (xorI k x y))⟩ := (rfl)
@[simp] theorem evInt_andNot (k : IntKind) (x y : Int) : evInt .andNot k x y = ⟨True, .lit (.int k (andNotI k x y))⟩ := (rfl)
@[simp] theorem evInt_shl (k : IntKind) (x y : Int) : evInt .shl k x y = ⟨0 ≤ y, .lit (.int k (shlI k x y))⟩ := (rfl)
@[simp] theorem evInt_shr (k : IntKind) (x y : Int) : evInt .shr k x y = ⟨0 ≤ y, .lit (.int k (shrI k x y))⟩ := (rfl)
@[simp] theorem evInt_eql (k : IntKind) (x y : Int) : evInt .eql k x y = ⟨True, .lit (.bool (x == y))⟩ := (rfl)
@[simp] theorem evInt_neq (k : IntKind) (x y : Int) : evInt .neq k x y = ⟨True, .lit (.bool (x != y))⟩ := (rfl)
@[simp] theorem evInt_lss (k : IntKind) (x y : Int) : evInt .lss k x y = ⟨True, .lit (.bool (decide (x < y)))⟩ := (rfl)
@[simp] theorem evInt_leq (k : IntKind) (x y : Int) : evInt .leq k x y = ⟨True, .lit (.bool (decide (x ≤ y)))⟩ := (rfl)
@[simp] theorem evInt_gtr (k : IntKind) (x y : Int) : evInt .gtr k x y = ⟨True, .lit (.bool (decide (y < x)))⟩ := (rfl)
@[simp] theorem evInt_geq (k : IntKind) (x y : Int) : evInt .geq k x y = ⟨True, .lit (.bool (decide (y ≤ x)))⟩ := (rfl)
@[simp] theorem shifts_shl : shifts .shl = true := rfl
@[simp] theorem shifts_shr : shifts .shr = true := rfl
@[simp] theorem evUn_not (b : Bool) : evUn .not (.lit (.bool b)) = ⟨True, .lit (.bool (!b))⟩ := (rfl)
@[simp] theorem evUn_neg (k : IntKind) (x : Int) : evUn .neg (.lit (.int k x)) = ⟨True, .lit (.int k (k.wrap (0 - x)))⟩ := (rfl)
/-- A type that is an integer type, for conversions. -/
def intT (P : Program) (t : TypeId) : Option IntKind := match P.underlying t with | some (.int k) => some k | _ => none
def convE (o : Option IntKind) (e : EV) (n : Int) : EV := match o with | some k => ⟨True, .lit (.int k (k.wrap n))⟩ | none => e
@[simp] theorem convE_some (k : IntKind) (e : EV) (n : Int) : convE (some k) e n = ⟨True, .lit (.int k (k.wrap n))⟩ := (rfl)
theorem evConv_int (s d : TypeId) (k0 k : IntKind) (n : Int) (hs : (P.underlying s).isSome = true) (hd : P.underlying d = some (.int k)) : evConv P s d (.lit (.int k0 n)) = ⟨True, .lit (.int k (k.wrap n))⟩ := by
  obtain ⟨u, hu⟩ := Option.isSome_iff_exists.1 hs
  simp [evConv, hu, hd]
@[simp] theorem evNil_ptr (id off : Nat) : evNil (.ptr id off) = ⟨True, .ptr id off⟩ := (rfl)
@[simp] theorem evNil_ref (cs : List PV) : evNil (.ref cs) = ⟨True, .ref cs⟩ := (rfl)
@[simp] theorem evNil_fn (f : FuncId) (a b : List PV) : evNil (.fn (.func f) a b) = ⟨True, .fn (.func f) a b⟩ := (rfl)
@[simp] theorem evExtract_tup (cs : List PV) (i : Nat) : evExtract (.tup cs) i = ⟨i < cs.length, cs.getD i .any⟩ := (rfl)
@[simp] theorem evMM_int (mx : Bool) (k k' : IntKind) (x y : Int) : evMM mx (.lit (.int k x)) (.lit (.int k' y)) = ⟨True, .lit (.int k (if mx then max x y else min x y))⟩ := (rfl)

/-! Operations that ask for a type: by what the type is. -/
def FAx (o : Option (Nat × Nat × Bool)) (x : PV) : EV :=
  match o, x with
  | some (o, sz, _), .ref cs => ⟨sz ≠ 0, .ref (cs.drop o)⟩
  | some (o, sz, _), .ptr id off => ⟨sz ≠ 0, .ptr id (off + o)⟩
  | _, _ => .no
@[simp] theorem evFA_x (t : TypeId) (x : PV) (f : Nat) : evFA P t x f = FAx (fldT P t f) x := (rfl)
@[simp] theorem FAx_ref (o sz : Nat) (ag : Bool) (cs : List PV) : FAx (some (o, sz, ag)) (.ref cs) = ⟨sz ≠ 0, .ref (cs.drop o)⟩ := (rfl)
@[simp] theorem FAx_ptr (o sz : Nat) (ag : Bool) (id off : Nat) : FAx (some (o, sz, ag)) (.ptr id off) = ⟨sz ≠ 0, .ptr id (off + o)⟩ := (rfl)
def Fx (o : Option (Nat × Nat × Bool)) (x : PV) : EV :=
  match o, x with
  | some (o, sz, true), .agg cs => ⟨o + sz ≤ cs.length, .agg ((cs.drop o).take sz)⟩
  | some (o, _, false), .agg cs => ⟨o < cs.length, cs.getD o .any⟩
  | _, _ => .no
@[simp] theorem evF_x (t : TypeId) (x : PV) (f : Nat) : evF P t x f = Fx (fldT P t f) x := (rfl)
@[simp] theorem Fx_agg (o sz : Nat) (cs : List PV) : Fx (some (o, sz, true)) (.agg cs) = ⟨o + sz ≤ cs.length, .agg ((cs.drop o).take sz)⟩ := (rfl)
@[simp] theorem Fx_one (o sz : Nat) (cs : List PV) : Fx (some (o, sz, false)) (.agg cs) = ⟨o < cs.length, cs.getD o .any⟩ := (rfl)
def IAx (o : Option (Option Nat × Nat × Bool)) (x i : PV) : EV :=
  match o, x, i with
  | some (none, sz, _), .slice _ rows, .lit (.int _ z) => ⟨0 ≤ z ∧ z < rows.length ∧ (rows.getD z.toNat []).length = sz, .ref (rows.getD z.toNat [])⟩
  | some (none, sz, _), .msl id k off len _, .lit (.int _ z) => ⟨0 ≤ z ∧ z < len ∧ k = sz, .ptr id (off + z.toNat * sz)⟩
  | some (some m, sz, _), .ptr id off, .lit (.int _ z) => ⟨0 ≤ z ∧ z < m, .ptr id (off + z.toNat * sz)⟩
  | some (some m, sz, _), .ref cs, .lit (.int _ z) => ⟨0 ≤ z ∧ z < m, .ref (cs.drop (z.toNat * sz))⟩
  | _, _, _ => .no
@[simp] theorem evIA_x (t : TypeId) (x i : PV) : evIA P t x i = IAx (ixi P t) x i := (rfl)
@[simp] theorem IAx_slice (sz : Nat) (ag full : Bool) (rows : List (List PV)) (k : IntKind) (z : Int) : IAx (some (none, sz, ag)) (.slice full rows) (.lit (.int k z)) = ⟨0 ≤ z ∧ z < rows.length ∧ (rows.getD z.toNat []).length = sz, .ref (rows.getD z.toNat [])⟩ := (rfl)
@[simp] theorem IAx_msl (sz : Nat) (ag full : Bool) (id kk off len : Nat) (k : IntKind) (z : Int) : IAx (some (none, sz, ag)) (.msl id kk off len full) (.lit (.int k z)) = ⟨0 ≤ z ∧ z < len ∧ kk = sz, .ptr id (off + z.toNat * sz)⟩ := (rfl)
@[simp] theorem IAx_ptr (m sz : Nat) (ag : Bool) (id off : Nat) (k : IntKind) (z : Int) : IAx (some (some m, sz, ag)) (.ptr id off) (.lit (.int k z)) = ⟨0 ≤ z ∧ z < m, .ptr id (off + z.toNat * sz)⟩ := (rfl)
@[simp] theorem IAx_ref (m sz : Nat) (ag : Bool) (cs : List PV) (k : IntKind) (z : Int) : IAx (some (some m, sz, ag)) (.ref cs) (.lit (.int k z)) = ⟨0 ≤ z ∧ z < m, .ref (cs.drop (z.toNat * sz))⟩ := (rfl)
@[simp] theorem evI_string (t : TypeId) (s : ByteArray) (k : IntKind) (z : Int) : evI P t (.lit (.string s)) (.lit (.int k z)) = ⟨P.underlying t = some .string ∧ 0 ≤ z ∧ z < s.size, .lit (.int .u8 (s.data.getD z.toNat 0).toNat)⟩ := by
  unfold evI; split <;> first | rfl | simp_all
def Lx (o : Option (Nat × Bool)) (σ : Heap) (x : PV) : EV :=
  match o, x with
  | some (sz, true), .ref cs => ⟨sz ≤ cs.length, .agg (cs.take sz)⟩
  | some (_, false), .ref cs => ⟨0 < cs.length, cs.getD 0 .any⟩
  | some (sz, true), .ptr id off => match σ id with
    | some (.cells cs) => ⟨off + sz ≤ cs.length, .agg ((cs.drop off).take sz)⟩
    | _ => .no
  | some (_, false), .ptr id off => match σ id with
    | some (.cells cs) => ⟨off < cs.length, cs.getD off .any⟩
    | _ => .no
  | _, _ => .no
@[simp] theorem evL_x (t : TypeId) (x : PV) : evL P σ t x = Lx (inf P t) σ x := by unfold evL Lx; rfl
@[simp] theorem Lx_refA (sz : Nat) (cs : List PV) : Lx (some (sz, true)) σ (.ref cs) = ⟨sz ≤ cs.length, .agg (cs.take sz)⟩ := (rfl)
@[simp] theorem Lx_ref1 (sz : Nat) (cs : List PV) : Lx (some (sz, false)) σ (.ref cs) = ⟨0 < cs.length, cs.getD 0 .any⟩ := (rfl)
def LpA (o : Option PObj) (sz off : Nat) : EV := match o with | some (.cells cs) => ⟨off + sz ≤ cs.length, .agg ((cs.drop off).take sz)⟩ | _ => .no
def Lp1 (o : Option PObj) (off : Nat) : EV := match o with | some (.cells cs) => ⟨off < cs.length, cs.getD off .any⟩ | _ => .no
@[simp] theorem LpA_some (cs : List PV) (sz off : Nat) : LpA (some (.cells cs)) sz off = ⟨off + sz ≤ cs.length, .agg ((cs.drop off).take sz)⟩ := (rfl)
@[simp] theorem Lp1_some (cs : List PV) (off : Nat) : Lp1 (some (.cells cs)) off = ⟨off < cs.length, cs.getD off .any⟩ := (rfl)
@[simp] theorem Lx_ptrA (sz id off : Nat) : Lx (some (sz, true)) σ (.ptr id off) = LpA (σ id) sz off := (rfl)
@[simp] theorem Lx_ptr1 (sz id off : Nat) : Lx (some (sz, false)) σ (.ptr id off) = Lp1 (σ id) off := (rfl)
/-- What kind of thing has a length. -/
inductive LK where
  | slice | string | array (n : Nat) | map | other
def lenK (P : Program) (t : TypeId) : LK := match P.underlying t with
  | some (.slice _) => .slice
  | some .string => .string
  | some (.array m _) => .array m
  | some (.map _ _) => .map
  | _ => .other
def Lenx (k : LK) (σ : Heap) (x : PV) : EV :=
  match k, x with
  | .slice, .lit (.slice none 0 0) => ⟨True, .lit (.int .i64 0)⟩
  | .slice, .slice _ rows => ⟨True, .lit (.int .i64 rows.length)⟩
  | .slice, .msl _ _ _ len _ => ⟨True, .lit (.int .i64 len)⟩
  | .string, .lit (.string s) => ⟨True, .lit (.int .i64 s.size)⟩
  | .array m, _ => ⟨True, .lit (.int .i64 m)⟩
  | .map, .map id => match σ id with
    | some (.map es) => ⟨True, .lit (.int .i64 es.length)⟩
    | _ => .no
  | .map, .lit (.map none) => ⟨True, .lit (.int .i64 0)⟩
  | _, _ => .no
@[simp] theorem evLen_x (t : TypeId) (x : PV) : evLen P σ t x = Lenx (lenK P t) σ x := by
  unfold evLen lenK
  cases h : P.underlying t with
  | none => rfl
  | some u =>
    cases x with
    | lit v => cases v with
      | slice b l c => cases b <;> cases l <;> cases c <;> cases u <;> rfl
      | map r => cases r <;> cases u <;> rfl
      | _ => cases u <;> rfl
    | _ => cases u <;> rfl
@[simp] theorem Lenx_slice (f : Bool) (rows : List (List PV)) : Lenx .slice σ (.slice f rows) = ⟨True, .lit (.int .i64 rows.length)⟩ := (rfl)
@[simp] theorem Lenx_nil : Lenx .slice σ (.lit (.slice none 0 0)) = ⟨True, .lit (.int .i64 0)⟩ := (rfl)
@[simp] theorem Lenx_msl (id k off len : Nat) (f : Bool) : Lenx .slice σ (.msl id k off len f) = ⟨True, .lit (.int .i64 len)⟩ := (rfl)
@[simp] theorem Lenx_string (s : ByteArray) : Lenx .string σ (.lit (.string s)) = ⟨True, .lit (.int .i64 s.size)⟩ := (rfl)
@[simp] theorem Lenx_array (m : Nat) (x : PV) : Lenx (.array m) σ x = ⟨True, .lit (.int .i64 m)⟩ := (rfl)
end
end Go.Lo
