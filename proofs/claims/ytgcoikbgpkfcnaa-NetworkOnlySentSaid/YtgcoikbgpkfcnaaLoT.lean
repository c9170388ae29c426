/-
  The program logic 'Lo', part T: how simp runs code, continued: memory, regions, control flow, results. Nothing of the program.
-/
import Derived.Test.YtgcoikbgpkfcnaaLoS
set_option linter.unusedSimpArgs false
set_option linter.unusedVariables false
namespace Go.Lo
open Go

/-- Code, run as far as the table, 'ev' and plain control flow go: what is left stands as 'pwp' and 'pops'. -/
def wpc (P : Program) (T : Tab) (rd : Bool) (n : Nat) : Code → (PX → Fr → Heap → Prop) → Fr → Heap → Prop
  | .seq a b, Q, fr, σ => wpc P T rd n a (PX.thn (fun fr σ => wpc P T rd n b Q fr σ) Q) fr σ
  | .region _ ops false, Q, fr, σ => pst P T rd n ops Q ops.toList fr σ
  | .cond c x y, Q, fr, σ => match opv fr c with
    | .lit (.bool b) => (b = true → wpc P T rd n x Q fr σ) ∧ (b = false → wpc P T rd n y Q fr σ)
    | _ => False
  | .block id c, Q, fr, σ => wpc P T rd n c (PX.blk id Q) fr σ
  | .ret, Q, fr, σ => Q .ret fr σ
  | .skip, Q, fr, σ => Q .normal fr σ
  | .exit id, Q, fr, σ => Q (.exit id) fr σ
  | .goto l, Q, fr, σ => Q (.goto l) fr σ
  | c, Q, fr, σ => pwp P rd n c Q fr σ

theorem pwp_run {P : Program} {T : Tab} (hT : T.ok P) {rd : Bool} {n : Nat} : ∀ {c : Code} {Q : PX → Fr → Heap → Prop} {fr : Fr} {σ : Heap}, wpc P T rd n c Q fr σ → pwp P rd n c Q fr σ := by
  intro c
  induction c with
  | seq a b iha ihb =>
    intro Q fr σ h
    refine pwp_seq (pwp_mono (iha h) fun pe fr σ k => ?_)
    cases pe <;> first | exact ihb k | exact k
  | region id ops d =>
    intro Q fr σ h
    cases d with
    | true => exact h
    | false => exact pwp_region (pops_pst hT h)
  | cond c x y ihx ihy =>
    intro Q fr σ h
    simp only [wpc] at h
    split at h
    · rename_i b hc
      exact pwp_cond hc (fun e => ihx (h.1 e)) (fun e => ihy (h.2 e))
    · exact h.elim
  | block id c ih => intro Q fr σ h; exact pwp_block (ih h)
  | ret => intro Q fr σ h; exact pwp_ret h
  | skip => intro Q fr σ h; exact pwp_skip h
  | exit id => intro Q fr σ h; exact pwp_exit h
  | goto l => intro Q fr σ h; exact pwp_goto h
  | loop c _ => intro Q fr σ h; exact h
  | rangeFunc f ps a b _ _ => intro Q fr σ h; exact h
  | scope c _ => intro Q fr σ h; exact h
  | label l => intro Q fr σ h; exact h
  | refuse w => intro Q fr σ h; exact h


section
variable {P : Program} {T : Tab} {rd : Bool} {n : Nat} {ops : Array Oper} {Q : PX → Fr → Heap → Prop} {l : List Oper} {fr : Fr} {σ : Heap}

/-! ### Structs, arrays and slices out of parts -/
def fillK (x : Option (Nat × Nat)) (place : Nat → Option (Nat × Nat)) (cells : List PV) (v : PV) (rest : List (Nat × PV)) : Option (List PV) :=
  match x with
  | none => none
  | some (off, size) => if isCell v && (cellsP v).length == size && decide (off + size ≤ cells.length) then fillP place (setR cells off (cellsP v)) rest else none
@[simp] theorem fillP_nil (place : Nat → Option (Nat × Nat)) (cells : List PV) : fillP place cells [] = some cells := (rfl)
@[simp] theorem fillP_cons (place : Nat → Option (Nat × Nat)) (cells : List PV) (i : Nat) (v : PV) (rest : List (Nat × PV)) : fillP place cells ((i, v) :: rest) = fillK (place i) place cells v rest := by
  simp only [fillP, fillK]; rfl
@[simp] theorem fillK_some (off size : Nat) (place : Nat → Option (Nat × Nat)) (cells : List PV) (v : PV) (rest : List (Nat × PV)) : fillK (some (off, size)) place cells v rest =
    if isCell v && (cellsP v).length == size && decide (off + size ≤ cells.length) then fillP place (setR cells off (cellsP v)) rest else none := (rfl)
def aggE (o : Option (List PV)) : EV := match o with | some r => ⟨True, .agg r⟩ | none => .no
@[simp] theorem aggE_some (r : List PV) : aggE (some r) = ⟨True, .agg r⟩ := (rfl)
def Bx (z : Option (List PV)) (pl : Option (List (Nat × Nat))) (ix : Option (Option Nat × Nat × Bool)) (ps : List (Nat × PV)) : EV :=
  match z, pl, ix with
  | some zs, some pl, _ => aggE (fillP (pl[·]?) zs ps)
  | some zs, none, some (some _, sz, _) => aggE (fillP (fun i => some (i * sz, sz)) zs ps)
  | _, _, _ => .no
@[simp] theorem evBuild_x (t : TypeId) (ps : List (Nat × PV)) : evBuild P t ps = Bx (zeroP P t) (places P t) (ixi P t) ps := by
  unfold evBuild Bx aggE
  cases zeroP P t with
  | none => rfl
  | some zs => cases places P t with
    | some pl => rfl
    | none => cases ixi P t with
      | none => rfl
      | some x => obtain ⟨a, b, c⟩ := x; cases a <;> rfl
@[simp] theorem Bx_struct (zs : List PV) (pl : List (Nat × Nat)) (ix : Option (Option Nat × Nat × Bool)) (ps : List (Nat × PV)) : Bx (some zs) (some pl) ix ps = aggE (fillP (pl[·]?) zs ps) := (rfl)
@[simp] theorem Bx_array (zs : List PV) (m sz : Nat) (ag : Bool) (ps : List (Nat × PV)) : Bx (some zs) none (some (some m, sz, ag)) ps = aggE (fillP (fun i => some (i * sz, sz)) zs ps) := (rfl)

def rowsB (sz : Nat) : List (Nat × PV) → Prop
  | [] => True
  | p :: l => (isCell p.2 = true ∧ (cellsP p.2).length = sz) ∧ rowsB sz l
def rowsC : List (Nat × PV) → List (List PV)
  | [] => []
  | p :: l => cellsP p.2 :: rowsC l
@[simp] theorem rowsB_nil (sz : Nat) : rowsB sz [] = True := (rfl)
@[simp] theorem rowsB_cons (sz : Nat) (p : Nat × PV) (l : List (Nat × PV)) : rowsB sz (p :: l) = ((isCell p.2 = true ∧ (cellsP p.2).length = sz) ∧ rowsB sz l) := (rfl)
@[simp] theorem rowsC_nil : rowsC [] = [] := (rfl)
@[simp] theorem rowsC_cons (p : Nat × PV) (l : List (Nat × PV)) : rowsC (p :: l) = cellsP p.2 :: rowsC l := (rfl)
@[simp] theorem inOrder_nil (i : Nat) : inOrder i [] = true := (rfl)
@[simp] theorem inOrder_cons (i j : Nat) (v : PV) (r : List (Nat × PV)) : inOrder i ((j, v) :: r) = (i == j && inOrder (i + 1) r) := (rfl)
theorem rowsB_iff (sz : Nat) : ∀ l, rowsB sz l = (∀ p ∈ l, isCell p.2 = true ∧ (cellsP p.2).length = sz) := by
  intro l
  induction l with
  | nil => simp
  | cons p l ih => simp only [rowsB_cons, ih, List.forall_mem_cons]
theorem rowsC_map : ∀ l, rowsC l = l.map fun p => cellsP p.2 := by
  intro l
  induction l with
  | nil => rfl
  | cons p l ih => simp [ih]
/-- A slice's elements can be made. -/
def elemOk (P : Program) (t : TypeId) : Bool := match P.underlying t with | some (.slice e) => (zeroP P e).isSome | _ => false
def BSx (ix : Option (Option Nat × Nat × Bool)) (ok : Bool) (len : Nat) (ps : List (Nat × PV)) : EV :=
  match ix with
  | some (none, sz, _) => ⟨inOrder 0 ps = true ∧ ps.length = len ∧ rowsB sz ps ∧ len * sz ≤ 16777216 ∧ len ≤ 16777216 ∧ (len * sz = 0 ∨ ok = true), .slice true (rowsC ps)⟩
  | _ => .no
@[simp] theorem evBS_x (t : TypeId) (len : Nat) (ps : List (Nat × PV)) : evBS P t len ps = BSx (ixi P t) (elemOk P t) len ps := by
  unfold evBS BSx elemOk
  rw [rowsC_map]
  cases ixi P t with
  | none => rfl
  | some x =>
    obtain ⟨a, b, c⟩ := x
    cases a with
    | some _ => rfl
    | none =>
      simp only [rowsB_iff]
      congr 1
      cases P.underlying t with
      | none => simp
      | some u => cases u <;> simp
@[simp] theorem BSx_slice (sz : Nat) (ag ok : Bool) (len : Nat) (ps : List (Nat × PV)) : BSx (some (none, sz, ag)) ok len ps =
    ⟨inOrder 0 ps = true ∧ ps.length = len ∧ rowsB sz ps ∧ len * sz ≤ 16777216 ∧ len ≤ 16777216 ∧ (len * sz = 0 ∨ ok = true), .slice true (rowsC ps)⟩ := (rfl)

/-! ### Slicing -/
@[simp] theorem bnd_n (d : Int) : bnd none d = some d := (rfl)
@[simp] theorem bnd_s (k : IntKind) (z d : Int) : bnd (some (.lit (.int k z))) d = some z := (rfl)
def SlR (sz : Nat) (full : Bool) (rows : List (List PV)) (mx hi : Bool) (l h m : Option Int) : EV :=
  match l, h, m with
  | some l, some h, some m => ⟨0 ≤ l ∧ l ≤ h ∧ h ≤ m ∧ m ≤ rows.length ∧ (mx = true → hi = true) ∧ ∀ r ∈ rows, r.length = sz,
        .slice (if mx then decide (m = h) else full && decide (h = rows.length)) ((rows.drop l.toNat).take (h - l).toNat)⟩
  | _, _, _ => .no
@[simp] theorem SlR_some (sz : Nat) (full : Bool) (rows : List (List PV)) (mx hi : Bool) (l h m : Int) : SlR sz full rows mx hi (some l) (some h) (some m) =
  ⟨0 ≤ l ∧ l ≤ h ∧ h ≤ m ∧ m ≤ rows.length ∧ (mx = true → hi = true) ∧ ∀ r ∈ rows, r.length = sz,
        .slice (if mx then decide (m = h) else full && decide (h = rows.length)) ((rows.drop l.toNat).take (h - l).toNat)⟩ := (rfl)
def SlM (sz id k off len : Nat) (full : Bool) (mx hi : Bool) (l h m : Option Int) : EV :=
  match l, h, m with
  | some l, some h, some m => ⟨0 ≤ l ∧ l ≤ h ∧ h ≤ m ∧ m ≤ len ∧ k = sz ∧ (mx = true → hi = true),
        .msl id k (off + l.toNat * k) (h - l).toNat (if mx then decide (m = h) else full && decide (h = len))⟩
  | _, _, _ => .no
@[simp] theorem SlM_some (sz id k off len : Nat) (full : Bool) (mx hi : Bool) (l h m : Int) : SlM sz id k off len full mx hi (some l) (some h) (some m) =
  ⟨0 ≤ l ∧ l ≤ h ∧ h ≤ m ∧ m ≤ len ∧ k = sz ∧ (mx = true → hi = true),
        .msl id k (off + l.toNat * k) (h - l).toNat (if mx then decide (m = h) else full && decide (h = len))⟩ := (rfl)
def Slx (o : Option (Option Nat × Nat × Bool)) (σ : Heap) (x : PV) (lo hi mx : Option PV) : EV :=
  match x, o with
  | .slice full rows, some (none, sz, _) => match bnd lo 0, bnd hi rows.length, bnd mx rows.length with
    | some l, some h, some m => ⟨0 ≤ l ∧ l ≤ h ∧ h ≤ m ∧ m ≤ rows.length ∧ (mx.isSome = true → hi.isSome = true) ∧ ∀ r ∈ rows, r.length = sz,
        .slice (if mx.isSome then decide (m = h) else full && decide (h = rows.length)) ((rows.drop l.toNat).take (h - l).toNat)⟩
    | _, _, _ => .no
  | .lit (.slice none 0 0), some (none, _, _) => match bnd lo 0, bnd hi 0, bnd mx 0 with
    | some l, some h, some m => ⟨l = 0 ∧ h = 0 ∧ m = 0 ∧ (mx.isSome = true → hi.isSome = true), .lit (.slice none 0 0)⟩
    | _, _, _ => .no
  | .msl id k off len full, some (none, sz, _) => match bnd lo 0, bnd hi len, bnd mx len with
    | some l, some h, some m => ⟨0 ≤ l ∧ l ≤ h ∧ h ≤ m ∧ m ≤ len ∧ k = sz ∧ (mx.isSome = true → hi.isSome = true),
        .msl id k (off + l.toNat * k) (h - l).toNat (if mx.isSome then decide (m = h) else full && decide (h = len))⟩
    | _, _, _ => .no
  | .ptr id off, some (some n, sz, _) => match σ id with
    | some (.cells cs) => match bnd lo 0, bnd hi n, bnd mx n with
      | some l, some h, some m => ⟨0 ≤ l ∧ l ≤ h ∧ h ≤ m ∧ m ≤ n ∧ off + n * sz ≤ cs.length ∧ n ≤ maxLen ∧ (mx.isSome = true → hi.isSome = true), .msl id sz (off + l.toNat * sz) (h - l).toNat (decide (m = h))⟩
      | _, _, _ => .no
    | _ => .no
  | .ref cs, some (some n, sz, _) => match bnd lo 0, bnd hi n, bnd mx n with
    | some l, some h, some m => ⟨0 ≤ l ∧ l ≤ h ∧ h ≤ m ∧ m ≤ n ∧ n ≤ cs.length ∧ sz = 1 ∧ n ≤ maxLen ∧ (mx.isSome = true → hi.isSome = true), .slice (decide (m = h)) (((cs.drop l.toNat).take (h - l).toNat).map fun c => [c])⟩
    | _, _, _ => .no
  | _, _ => .no
@[simp] theorem evSl_x (t : TypeId) (x : PV) (lo hi mx : Option PV) : evSl P σ t x lo hi mx = Slx (ixi P t) σ x lo hi mx := by unfold evSl Slx; rfl
@[simp] theorem Slx_rows (sz : Nat) (ag : Bool) (full : Bool) (rows : List (List PV)) (lo hi mx : Option PV) :
    Slx (some (none, sz, ag)) σ (.slice full rows) lo hi mx = SlR sz full rows mx.isSome hi.isSome (bnd lo 0) (bnd hi rows.length) (bnd mx rows.length) := by
  simp only [Slx, SlR]
@[simp] theorem Slx_msl (sz : Nat) (ag : Bool) (id k off len : Nat) (full : Bool) (lo hi mx : Option PV) :
    Slx (some (none, sz, ag)) σ (.msl id k off len full) lo hi mx = SlM sz id k off len full mx.isSome hi.isSome (bnd lo 0) (bnd hi len) (bnd mx len) := by
  simp only [Slx, SlM]
def cellsO (o : Option PObj) : Option (List PV) := match o with | some (.cells cs) => some cs | _ => none
@[simp] theorem cellsO_some (cs : List PV) : cellsO (some (.cells cs)) = some cs := (rfl)
def SlP (c : Option (List PV)) (n sz id off : Nat) (mx hi : Bool) (l h m : Option Int) : EV :=
  match c, l, h, m with
  | some cs, some l, some h, some m => ⟨0 ≤ l ∧ l ≤ h ∧ h ≤ m ∧ m ≤ n ∧ off + n * sz ≤ cs.length ∧ n ≤ maxLen ∧ (mx = true → hi = true), .msl id sz (off + l.toNat * sz) (h - l).toNat (decide (m = h))⟩
  | _, _, _, _ => .no
@[simp] theorem SlP_some (cs : List PV) (n sz id off : Nat) (mx hi : Bool) (l h m : Int) : SlP (some cs) n sz id off mx hi (some l) (some h) (some m) =
    ⟨0 ≤ l ∧ l ≤ h ∧ h ≤ m ∧ m ≤ n ∧ off + n * sz ≤ cs.length ∧ n ≤ maxLen ∧ (mx = true → hi = true), .msl id sz (off + l.toNat * sz) (h - l).toNat (decide (m = h))⟩ := (rfl)
@[simp] theorem Slx_ptr (n sz : Nat) (ag : Bool) (id off : Nat) (lo hi mx : Option PV) :
    Slx (some (some n, sz, ag)) σ (.ptr id off) lo hi mx = SlP (cellsO (σ id)) n sz id off mx.isSome hi.isSome (bnd lo 0) (bnd hi n) (bnd mx n) := by
  simp only [Slx]
  cases h : σ id with
  | none => rfl
  | some o =>
    cases o with
    | cells cs => simp only [cellsO]; cases bnd lo 0 <;> cases bnd hi n <;> cases bnd mx n <;> rfl
    | _ => rfl
@[simp] theorem Slx_nil (sz : Nat) (ag : Bool) (lo hi mx : Option PV) : Slx (some (none, sz, ag)) σ (.lit (.slice none 0 0)) lo hi mx = match bnd lo 0, bnd hi 0, bnd mx 0 with
    | some l, some h, some m => ⟨l = 0 ∧ h = 0 ∧ m = 0 ∧ (mx.isSome = true → hi.isSome = true), .lit (.slice none 0 0)⟩
    | _, _, _ => .no := (rfl)

/-! ### Straight code -/
structure TgI (X Y : Prop) where
  x : Nat := 0
def IFK (b : Bool) (X Y : Prop) (_ : TgI X Y) : Prop := if b = true then X else Y
@[simp] theorem IFK_true (X Y : Prop) (t : TgI X Y) : IFK true X Y t = X := (rfl)
@[simp] theorem IFK_false (X Y : Prop) (t : TgI X Y) : IFK false X Y t = Y := (rfl)
structure TgS (ops : Array Oper) (Q : PX → Fr → Heap → Prop) (l : List Oper) (fr : Fr) (σ : Heap) where
  x : Nat := 0
def pT (P : Program) (T : Tab) (rd : Bool) (n : Nat) (ops : Array Oper) (Q : PX → Fr → Heap → Prop) (l : List Oper) (fr : Fr) (σ : Heap) (_ : TgS ops Q l fr σ) : Prop := pst P T rd n ops Q l fr σ
def dB (n : Nat) : Option Tmp → Bool
  | some d => decide (d < n)
  | none => true
@[simp] theorem dB_some (n : Nat) (d : Tmp) : dB n (some d) = decide (d < n) := (rfl)
@[simp] theorem dB_none (n : Nat) : dB n none = true := (rfl)
/-- The slot of an operation of this region. -/
def gsl : List Oper → Nat → Option Tmp
  | [], _ => none
  | o :: _, 0 => o.dst
  | _ :: l, j + 1 => gsl l j
theorem gsl_eq : ∀ (l : List Oper) (j : Nat), gsl l j = (l[j]?).bind (·.dst) := by
  intro l
  induction l with
  | nil => intro j; rfl
  | cons o l ih => intro j; cases j with
    | zero => rfl
    | succ j => simp [gsl, ih]
@[simp ↓] theorem gsl_zero (dst : Option Tmp) (op : Op) (ty : TypeId) (pos : String) (after : Array Edge) (g : Option (Nat × Bool)) (l : List Oper) : gsl ({ dst, op, type := ty, pos, after, guard := g } :: l) 0 = dst := (rfl)
@[simp ↓] theorem gsl_succ (o : Oper) (l : List Oper) (j : Nat) : gsl (o :: l) (j + 1) = gsl l j := (rfl)
def gvp (p : PV) (w : Bool) : Option Bool := match p with
  | .lit (.bool b) => some (b == w)
  | .gd true (.lit (.bool b)) => some (b == w)
  | .gd false _ => some false
  | _ => none
@[simp] theorem gvp_lit (b w : Bool) : gvp (.lit (.bool b)) w = some (b == w) := (rfl)
@[simp] theorem gvp_gd (g b w : Bool) : gvp (.gd g (.lit (.bool b))) w = some (g && (b == w)) := by cases g <;> rfl
@[simp] theorem gvp_gdF (p : PV) (w : Bool) : gvp (.gd false p) w = some false := (rfl)
theorem gval_gvp (dst : Option Tmp) (op : Op) (ty : TypeId) (pos : String) (after : Array Edge) (j : Nat) (w : Bool) :
    gval ops fr { dst, op, type := ty, pos, after, guard := some (j, w) } = match gsl ops.toList j with | some d => gvp (fr d) w | none => none := by
  rw [gsl_eq, Array.getElem?_toList]
  simp only [gval, gvp]
  rfl

/-- Operations that only compute. -/
def isQ : Op → Bool
  | .move _ | .assign _ | .pick _ _ _ | .build _ _ | .buildSlice _ _ _ | .load _ _ | .nilCheck _ | .binOp _ _ _ _ _ | .unOp _ _ _ | .convert _ _ _ | .makeInterface _ _ | .makeFunc _ _ _ | .slice _ _ _ _ _
  | .fieldAddr _ _ _ | .field _ _ _ | .indexAddr _ _ _ | .index _ _ _ | .extract _ _ => true
  | .call { callee := .builtin .len, .. } | .call { callee := .builtin .max, .. } | .call { callee := .builtin .min, .. } => true
  | _ => false
theorem quietC_isQ {op : Op} (h : isQ op = true) : quietC T fr op = true := by
  cases op with
  | call c =>
    obtain ⟨callee, args, ts⟩ := c
    cases callee with
    | builtin b => cases b <;> first | rfl | cases h
    | _ => cases h
  | _ => first | rfl | cases h
section
variable (dst : Option Tmp) (ty : TypeId) (pos : String) (after : Array Edge)
/-- What stops: to be taken on by hand. -/
structure TgX (ops : Array Oper) (Q : PX → Fr → Heap → Prop) (l : List Oper) where
  x : Nat := 0
def popsT (P : Program) (T : Tab) (rd : Bool) (n : Nat) (ops : Array Oper) (Q : PX → Fr → Heap → Prop) (l : List Oper) (_ : TgX ops Q l) (fr : Fr) (σ : Heap) : Prop := pst P T rd n ops Q l fr σ
theorem pT_quiet {op : Op} (h : quietC T fr op = true) (t : TgS ops Q ({ dst, op, type := ty, pos, after, guard := none } :: l) fr σ) : pT P T rd n ops Q ({ dst, op, type := ty, pos, after, guard := none } :: l) fr σ t =
    (dB n dst = true ∧ ER (evo P T σ fr op) (fun V => pT P T rd n ops Q l (frSet fr dst V) σ {}) {}) := by
  simp only [pT, pst, h, if_true, evc_evo, ER]
  rw [show dstOk n { dst, op, type := ty, pos, after, guard := none } = dB n dst by cases dst <;> rfl]
  exact propext ⟨fun ⟨a, b, c⟩ => ⟨b, a, c⟩, fun ⟨a, b, c⟩ => ⟨b, a, c⟩⟩
theorem pT_guard {op : Op} {j : Nat} {w : Bool} (h : quietC T fr op = true) (t : TgS ops Q ({ dst, op, type := ty, pos, after, guard := some (j, w) } :: l) fr σ) : pT P T rd n ops Q ({ dst, op, type := ty, pos, after, guard := some (j, w) } :: l) fr σ t =
    (dB n dst = true ∧ OS (gsl ops.toList j) (fun d => VK (gvp (fr d) w) (fun g => GB g (evo P T σ fr op) (fun V => pT P T rd n ops Q l (frSet fr dst V) σ {}) {}) {}) {}) := by
  simp only [pT, pst, h, if_true, evc_evo, OS, VK, GB]
  rw [show dstOk n { dst, op, type := ty, pos, after, guard := some (j, w) } = dB n dst by cases dst <;> rfl, gval_gvp]
  cases gsl ops.toList j with
  | none => simp
  | some d =>
    simp only
    cases gvp (fr d) w with
    | none => simp
    | some g => exact propext ⟨fun ⟨a, b, c⟩ => ⟨b, a, c⟩, fun ⟨a, b, c⟩ => ⟨b, a, c⟩⟩
@[simp ↓] theorem pT_nil (t : TgS ops Q [] fr σ) : pT P T rd n ops Q [] fr σ t = Q .normal fr σ := (rfl)
@[simp ↓ low] theorem pT_isQ {op : Op} (t : TgS ops Q ({ dst, op, type := ty, pos, after, guard := none } :: l) fr σ) : pT P T rd n ops Q ({ dst, op, type := ty, pos, after, guard := none } :: l) fr σ t =
    IFK (isQ op) (dB n dst = true ∧ ER (evo P T σ fr op) (fun V => pT P T rd n ops Q l (frSet fr dst V) σ {}) {}) (popsT P T rd n ops Q ({ dst, op, type := ty, pos, after, guard := none } :: l) {} fr σ) {} := by
  cases h : isQ op with
  | true => rw [IFK_true]; exact pT_quiet dst ty pos after (quietC_isQ h) t
  | false => rfl
@[simp ↓ low] theorem pT_isQg {op : Op} {j : Nat} {w : Bool} (t : TgS ops Q ({ dst, op, type := ty, pos, after, guard := some (j, w) } :: l) fr σ) : pT P T rd n ops Q ({ dst, op, type := ty, pos, after, guard := some (j, w) } :: l) fr σ t =
    IFK (isQ op) (dB n dst = true ∧ OS (gsl ops.toList j) (fun d => VK (gvp (fr d) w) (fun g => GB g (evo P T σ fr op) (fun V => pT P T rd n ops Q l (frSet fr dst V) σ {}) {}) {}) {}) (popsT P T rd n ops Q ({ dst, op, type := ty, pos, after, guard := some (j, w) } :: l) {} fr σ) {} := by
  cases h : isQ op with
  | true => rw [IFK_true]; exact pT_guard dst ty pos after (quietC_isQ h) t
  | false => rfl
@[simp ↓] theorem pT_call {g : FuncId} {as ts} (t : TgS ops Q ({ dst, op := .call { callee := .value (.func g), args := as, argTypes := ts }, type := ty, pos, after, guard := none } :: l) fr σ) :
    pT P T rd n ops Q ({ dst, op := .call { callee := .value (.func g), args := as, argTypes := ts }, type := ty, pos, after, guard := none } :: l) fr σ t =
    IFK (T.dom g) (dB n dst = true ∧ ER (evo P T σ fr (.call { callee := .value (.func g), args := as, argTypes := ts })) (fun V => pT P T rd n ops Q l (frSet fr dst V) σ {}) {})
      (popsT P T rd n ops Q ({ dst, op := .call { callee := .value (.func g), args := as, argTypes := ts }, type := ty, pos, after, guard := none } :: l) {} fr σ) {} := by
  cases h : T.dom g with
  | true => rw [IFK_true]; exact pT_quiet dst ty pos after (show quietC T fr (.call { callee := .value (.func g), args := as, argTypes := ts }) = true from h) t
  | false => rfl
@[simp ↓] theorem pT_callg {g : FuncId} {as ts} {j : Nat} {w : Bool} (t : TgS ops Q ({ dst, op := .call { callee := .value (.func g), args := as, argTypes := ts }, type := ty, pos, after, guard := some (j, w) } :: l) fr σ) :
    pT P T rd n ops Q ({ dst, op := .call { callee := .value (.func g), args := as, argTypes := ts }, type := ty, pos, after, guard := some (j, w) } :: l) fr σ t =
    IFK (T.dom g) (dB n dst = true ∧ OS (gsl ops.toList j) (fun d => VK (gvp (fr d) w) (fun g' => GB g' (evo P T σ fr (.call { callee := .value (.func g), args := as, argTypes := ts })) (fun V => pT P T rd n ops Q l (frSet fr dst V) σ {}) {}) {}) {})
      (popsT P T rd n ops Q ({ dst, op := .call { callee := .value (.func g), args := as, argTypes := ts }, type := ty, pos, after, guard := some (j, w) } :: l) {} fr σ) {} := by
  cases h : T.dom g with
  | true => rw [IFK_true]; exact pT_guard dst ty pos after (show quietC T fr (.call { callee := .value (.func g), args := as, argTypes := ts }) = true from h) t
  | false => rfl
/-- A call of a function value. -/
def VCK (T : Tab) (p : PV) (A B : Prop) (_ : TgI A B) : Prop := match p with
  | .fn (.func g) _ _ => if T.dom g = true then A else B
  | _ => B
@[simp] theorem VCK_fn (T : Tab) (g : FuncId) (a b : List PV) (A B : Prop) (t : TgI A B) : VCK T (.fn (.func g) a b) A B t = IFK (T.dom g) A B {} := (rfl)
@[simp] theorem VCK_yld (T : Tab) (L : Nat) (A B : Prop) (t : TgI A B) : VCK T (.yld L) A B t = B := (rfl)
@[simp ↓] theorem pT_callv {x : Tmp} {as ts} (t : TgS ops Q ({ dst, op := .call { callee := .value (.tmp x), args := as, argTypes := ts }, type := ty, pos, after, guard := none } :: l) fr σ) :
    pT P T rd n ops Q ({ dst, op := .call { callee := .value (.tmp x), args := as, argTypes := ts }, type := ty, pos, after, guard := none } :: l) fr σ t =
    VCK T (sv (fr x)) (dB n dst = true ∧ ER (evo P T σ fr (.call { callee := .value (.tmp x), args := as, argTypes := ts })) (fun V => pT P T rd n ops Q l (frSet fr dst V) σ {}) {})
      (popsT P T rd n ops Q ({ dst, op := .call { callee := .value (.tmp x), args := as, argTypes := ts }, type := ty, pos, after, guard := none } :: l) {} fr σ) {} := by
  have hq : quietC T fr (.call { callee := .value (.tmp x), args := as, argTypes := ts }) = match sv (fr x) with | .fn (.func g) _ _ => T.dom g | _ => false := rfl
  unfold VCK
  split
  · rename_i g a b e
    split
    · rename_i hd
      exact pT_quiet dst ty pos after (by rw [hq, e]; exact hd) t
    · rfl
  · rfl

@[simp ↓] theorem pT_callvg {x : Tmp} {as ts} {j : Nat} {w : Bool} (t : TgS ops Q ({ dst, op := .call { callee := .value (.tmp x), args := as, argTypes := ts }, type := ty, pos, after, guard := some (j, w) } :: l) fr σ) :
    pT P T rd n ops Q ({ dst, op := .call { callee := .value (.tmp x), args := as, argTypes := ts }, type := ty, pos, after, guard := some (j, w) } :: l) fr σ t =
    VCK T (sv (fr x)) (dB n dst = true ∧ OS (gsl ops.toList j) (fun d => VK (gvp (fr d) w) (fun g' => GB g' (evo P T σ fr (.call { callee := .value (.tmp x), args := as, argTypes := ts })) (fun V => pT P T rd n ops Q l (frSet fr dst V) σ {}) {}) {}) {})
      (popsT P T rd n ops Q ({ dst, op := .call { callee := .value (.tmp x), args := as, argTypes := ts }, type := ty, pos, after, guard := some (j, w) } :: l) {} fr σ) {} := by
  have hq : quietC T fr (.call { callee := .value (.tmp x), args := as, argTypes := ts }) = match sv (fr x) with | .fn (.func g) _ _ => T.dom g | _ => false := rfl
  unfold VCK
  split
  · rename_i g a b e
    split
    · rename_i hd
      exact pT_guard dst ty pos after (by rw [hq, e]; exact hd) t
    · rfl
  · rfl

/-! Memory. -/
structure TgN (σ : Heap) (k : Nat → Prop) where
  x : Nat := 0
/-- New memory. -/
def NEW (σ : Heap) (k : Nat → Prop) (_ : TgN σ k) : Prop := ∀ id, σ id = none → k id
@[simp ↓] theorem NEW_def (σ : Heap) (k : Nat → Prop) (t : TgN σ k) : NEW σ k t = ∀ id, frs σ id → k id := (rfl)
theorem pT_heap {op : Op} (h1 : quietC T fr op = false) (h2 : heapK op = true) (t : TgS ops Q ({ dst, op, type := ty, pos, after, guard := none } :: l) fr σ) : pT P T rd n ops Q ({ dst, op, type := ty, pos, after, guard := none } :: l) fr σ t =
    (dB n dst = true ∧ gstep P σ fr op fun V σ' => pst P T rd n ops Q l (frSet fr dst V) σ') := by
  simp only [pT, pst, h1, h2]
  rw [show dstOk n { dst, op, type := ty, pos, after, guard := none } = dB n dst by cases dst <;> rfl]
  simp
@[simp ↓] theorem pT_box (b : TypeId) (x : Operand) (t : TgS ops Q ({ dst, op := .box b x, type := ty, pos, after, guard := none } :: l) fr σ) : pT P T rd n ops Q ({ dst, op := .box b x, type := ty, pos, after, guard := none } :: l) fr σ t =
    (dB n dst = true ∧ ER ⟨avt (opv fr x), sv (opv fr x)⟩ (fun v => isCell v = true ∧ VK (cellsP v) (fun cs => NEW σ (fun id => pT P T rd n ops Q l (frSet fr dst (.ptr id 0)) (σ.set id (.cells cs)) {}) {}) {}) {}) := by
  rw [pT_heap dst ty pos after rfl rfl]; rfl
@[simp ↓] theorem pT_alloc (b : TypeId) (t : TgS ops Q ({ dst, op := .alloc b, type := ty, pos, after, guard := none } :: l) fr σ) : pT P T rd n ops Q ({ dst, op := .alloc b, type := ty, pos, after, guard := none } :: l) fr σ t =
    (dB n dst = true ∧ OS (zeroP P b) (fun cs => NEW σ (fun id => pT P T rd n ops Q l (frSet fr dst (.ptr id 0)) (σ.set id (.cells cs)) {}) {}) {}) := by
  rw [pT_heap dst ty pos after rfl rfl]
  simp only [gstep, OS]
  cases zeroP P b <;> rfl
def all1 : List PV → Prop
  | [] => True
  | c :: l => isCell1 c = true ∧ all1 l
@[simp] theorem all1_nil : all1 [] = True := (rfl)
@[simp] theorem all1_cons (c : PV) (l : List PV) : all1 (c :: l) = (isCell1 c = true ∧ all1 l) := (rfl)
theorem all1_iff : ∀ l, all1 l = (∀ c ∈ l, isCell1 c = true) := by
  intro l
  induction l with
  | nil => simp
  | cons c l ih => simp only [all1_cons, ih, List.forall_mem_cons]
structure TgH (C : Heap → Prop) where
  x : Nat := 0
structure TgV (C : PV → Heap → Prop) where
  x : Nat := 0
/-- A store. -/
def STO (P : Program) (σ : Heap) (t : TypeId) (a x : PV) (C : Heap → Prop) (_ : TgH C) : Prop := storeP P σ t a x C
@[simp] theorem STO_ptr (t : TypeId) (id off : Nat) (x : PV) (C : Heap → Prop) (tg : TgH C) : STO P σ t (.ptr id off) x C tg = OS (inf P t) (fun i => OS (cellsO (σ id)) (fun cs => VK (cellsP x) (fun new =>
    isCell x = true ∧ new.length = i.1 ∧ all1 new ∧ off + i.1 ≤ cs.length ∧ VK (setR cs off new) (fun cs' => C (σ.set id (.cells cs'))) {}) {}) {}) {} := by
  simp only [STO, storeP, OS, VK, all1_iff]
  cases inf P t with
  | none => simp
  | some i =>
    simp only
    cases h : σ id with
    | none => simp [cellsO]
    | some o =>
      cases o with
      | cells cs => simp only [cellsO]; exact propext ⟨fun ⟨a, b, c⟩ => ⟨b, a, c⟩, fun ⟨a, b, c⟩ => ⟨b, a, c⟩⟩
      | _ => simp [cellsO]
@[simp ↓] theorem pT_store (b : TypeId) (a x : Operand) (t : TgS ops Q ({ dst, op := .store b a x, type := ty, pos, after, guard := none } :: l) fr σ) : pT P T rd n ops Q ({ dst, op := .store b a x, type := ty, pos, after, guard := none } :: l) fr σ t =
    (dB n dst = true ∧ ER ⟨avt (opv fr a), sv (opv fr a)⟩ (fun p => ER ⟨avt (opv fr x), sv (opv fr x)⟩ (fun v => STO P σ b p v (fun σ' => pT P T rd n ops Q l (frSet fr dst (.lit undef)) σ' {}) {}) {}) {}) := by
  rw [pT_heap dst ty pos after rfl rfl]; rfl
/-- 'make'. -/
def MK (P : Program) (σ : Heap) (t : TypeId) (a x : PV) (C : PV → Heap → Prop) (_ : TgV C) : Prop := makeP P σ t a x C
@[simp] theorem MK_int (t : TypeId) (x y : Int) (C : PV → Heap → Prop) (tg : TgV C) : MK P σ t (.lit (.int .i64 x)) (.lit (.int .i64 y)) C tg = OS (elemB P t) (fun e => 0 ≤ x ∧ x ≤ y ∧ y ≤ 4294967296 ∧ e.1 ≤ 65536 ∧ e.2 ≠ [] ∧
      VK (replP y.toNat e.2) (fun cs => NEW σ (fun id => C (.msl id e.2.length 0 x.toNat (decide (x = y))) (σ.set id (.cells cs))) {}) {}) {} := by
  simp only [MK, makeP, OS, VK, NEW]
  cases elemB P t with
  | none => simp
  | some e => obtain ⟨b, zs⟩ := e; rfl
@[simp ↓] theorem pT_make (b : TypeId) (a x : Operand) (t : TgS ops Q ({ dst, op := .makeSlice b a x, type := ty, pos, after, guard := none } :: l) fr σ) : pT P T rd n ops Q ({ dst, op := .makeSlice b a x, type := ty, pos, after, guard := none } :: l) fr σ t =
    (dB n dst = true ∧ ER ⟨avt (opv fr a), sv (opv fr a)⟩ (fun p => ER ⟨avt (opv fr x), sv (opv fr x)⟩ (fun v => MK P σ b p v (fun V σ' => pT P T rd n ops Q l (frSet fr dst V) σ' {}) {}) {}) {}) := by
  rw [pT_heap dst ty pos after rfl rfl]; rfl
/-- 'append': to be taken on by hand. -/
def APP (P : Program) (σ : Heap) (t t2 : TypeId) (x y : PV) (C : PV → Heap → Prop) (_ : TgV C) : Prop := appendP P σ t t2 x y C
@[simp ↓] theorem pT_append (x y : Operand) (t1 t2 : TypeId) (tl : List TypeId) (t : TgS ops Q ({ dst, op := .call { callee := .builtin .append, args := #[x, y], argTypes := (t1 :: t2 :: tl).toArray }, type := ty, pos, after, guard := none } :: l) fr σ) :
    pT P T rd n ops Q ({ dst, op := .call { callee := .builtin .append, args := #[x, y], argTypes := (t1 :: t2 :: tl).toArray }, type := ty, pos, after, guard := none } :: l) fr σ t =
    (dB n dst = true ∧ ER ⟨avt (opv fr x), sv (opv fr x)⟩ (fun p => ER ⟨avt (opv fr y), sv (opv fr y)⟩ (fun v => APP P σ t1 t2 p v (fun V σ' => pT P T rd n ops Q l (frSet fr dst V) σ' {}) {}) {}) {}) := by
  rw [pT_heap dst ty pos after rfl rfl]; rfl
end
@[simp] theorem isQ_move (x : Operand) : isQ (.move x) = true := rfl
@[simp] theorem isQ_assign (x : Operand) : isQ (.assign x) = true := rfl
@[simp] theorem isQ_pick (a b c : Operand) : isQ (.pick a b c) = true := rfl
@[simp] theorem isQ_build (t : TypeId) (ps) : isQ (.build t ps) = true := rfl
@[simp] theorem isQ_buildSlice (t : TypeId) (m ps) : isQ (.buildSlice t m ps) = true := rfl
@[simp] theorem isQ_load (t : TypeId) (a : Operand) : isQ (.load t a) = true := rfl
@[simp] theorem isQ_nilCheck (a : Operand) : isQ (.nilCheck a) = true := rfl
@[simp] theorem isQ_bin (o t) (a b : Operand) (u) : isQ (.binOp o t a b u) = true := rfl
@[simp] theorem isQ_un (o t) (a : Operand) : isQ (.unOp o t a) = true := rfl
@[simp] theorem isQ_conv (s d) (a : Operand) : isQ (.convert s d a) = true := rfl
@[simp] theorem isQ_mkI (t) (a : Operand) : isQ (.makeInterface t a) = true := rfl
@[simp] theorem isQ_mkF (f a b) : isQ (.makeFunc f a b) = true := rfl
@[simp] theorem isQ_slice (t a b c d) : isQ (.slice t a b c d) = true := rfl
@[simp] theorem isQ_fieldAddr (t a b) : isQ (.fieldAddr t a b) = true := rfl
@[simp] theorem isQ_field (t a b) : isQ (.field t a b) = true := rfl
@[simp] theorem isQ_indexAddr (t a b) : isQ (.indexAddr t a b) = true := rfl
@[simp] theorem isQ_index (t a b) : isQ (.index t a b) = true := rfl
@[simp] theorem isQ_extract (a b) : isQ (.extract a b) = true := rfl
@[simp] theorem isQ_len (a b) : isQ (.call { callee := .builtin .len, args := a, argTypes := b }) = true := rfl
@[simp] theorem isQ_max (a b) : isQ (.call { callee := .builtin .max, args := a, argTypes := b }) = true := rfl
@[simp] theorem isQ_min (a b) : isQ (.call { callee := .builtin .min, args := a, argTypes := b }) = true := rfl
@[simp] theorem isQ_callf (f a b) : isQ (.call { callee := .value f, args := a, argTypes := b }) = false := rfl
@[simp] theorem isQ_append (a b) : isQ (.call { callee := .builtin .append, args := a, argTypes := b }) = false := rfl
@[simp] theorem isQ_box (a b) : isQ (.box a b) = false := rfl
@[simp] theorem isQ_alloc (a) : isQ (.alloc a) = false := rfl
@[simp] theorem isQ_store (a b c) : isQ (.store a b c) = false := rfl
@[simp] theorem isQ_make (a b c) : isQ (.makeSlice a b c) = false := rfl
theorem pops_popsT (hT : T.ok P) {t : TgX ops Q l} (h : popsT P T rd n ops Q l t fr σ) : pops P rd n ops l Q fr σ := pops_pst hT h

/-! ### Regions that draw their order -/
structure TgA (ops : Array Oper) (K : Fr → Prop) (l : List Oper) (fr : Fr) (σ : Heap) where
  x : Nat := 0
def aT (P : Program) (T : Tab) (σ : Heap) (n : Nat) (ops : Array Oper) (K : Fr → Prop) (l : List Oper) (fr : Fr) (_ : TgA ops K l fr σ) : Prop := aLex P T σ n ops K l fr
section
variable (dst : Option Tmp) (ty : TypeId) (pos : String) (after : Array Edge) {K : Fr → Prop}
@[simp ↓] theorem aT_nil (t : TgA ops K [] fr σ) : aT P T σ n ops K [] fr t = K fr := (rfl)
@[simp ↓] theorem aT_cons (op : Op) (t : TgA ops K ({ dst, op, type := ty, pos, after, guard := none } :: l) fr σ) : aT P T σ n ops K ({ dst, op, type := ty, pos, after, guard := none } :: l) fr t =
    (dB n dst = true ∧ ER (evo P T σ fr op) (fun V => aT P T σ n ops K l (frSet fr dst V) {}) {}) := by
  simp only [aT, aLex, evc_evo, ER]
  rw [show dstOk n { dst, op, type := ty, pos, after, guard := none } = dB n dst by cases dst <;> rfl]
  exact propext ⟨fun ⟨a, b, c⟩ => ⟨b, a, c⟩, fun ⟨a, b, c⟩ => ⟨b, a, c⟩⟩
@[simp ↓] theorem aT_guard (op : Op) (j : Nat) (w : Bool) (t : TgA ops K ({ dst, op, type := ty, pos, after, guard := some (j, w) } :: l) fr σ) : aT P T σ n ops K ({ dst, op, type := ty, pos, after, guard := some (j, w) } :: l) fr t =
    (dB n dst = true ∧ OS (gsl ops.toList j) (fun d => VK (gvp (fr d) w) (fun g => GB g (evo P T σ fr op) (fun V => aT P T σ n ops K l (frSet fr dst V) {}) {}) {}) {}) := by
  simp only [aT, aLex, evc_evo, OS, VK, GB]
  rw [show dstOk n { dst, op, type := ty, pos, after, guard := some (j, w) } = dB n dst by cases dst <;> rfl, gval_gvp]
  cases gsl ops.toList j with
  | none => simp
  | some d =>
    simp only
    cases gvp (fr d) w with
    | none => simp
    | some g => exact propext ⟨fun ⟨a, b, c⟩ => ⟨b, a, c⟩, fun ⟨a, b, c⟩ => ⟨b, a, c⟩⟩
end
/-- **A region that draws its order**, the first k operations of it. -/
theorem pwp_drawT (hT : T.ok P) (k : Nat) {id : Nat} (hm : P.follows .mixedOrders = true) (hB : drawB ops k = true)
    (h : VK (ops.toList.take k, ops.toList.drop k) (fun p => aT P T σ n ops (fun fr' => pT P T rd n ops Q p.2 fr' σ {}) p.1 fr {}) {}) : pwp P rd n (.region id ops true) Q fr σ :=
  pwp_draw hT hm hB h

/-! ### Control flow -/
structure TgW (c : Code) (Q : PX → Fr → Heap → Prop) (fr : Fr) (σ : Heap) where
  x : Nat := 0
structure TgL (c : Code) (Q : PX → Fr → Heap → Prop) where
  x : Nat := 0
def wT (P : Program) (T : Tab) (rd : Bool) (n : Nat) (c : Code) (Q : PX → Fr → Heap → Prop) (fr : Fr) (σ : Heap) (_ : TgW c Q fr σ) : Prop := wpc P T rd n c Q fr σ
/-- What stops: loops, ranges over functions, regions that draw their order. -/
def pwpT (P : Program) (rd : Bool) (n : Nat) (c : Code) (Q : PX → Fr → Heap → Prop) (_ : TgL c Q) (fr : Fr) (σ : Heap) : Prop := pwp P rd n c Q fr σ
theorem pwp_go (hT : T.ok P) {c : Code} (h : wT P T rd n c Q fr σ {}) : pwp P rd n c Q fr σ := pwp_run hT h
theorem pwpT_go {c : Code} {t : TgL c Q} (h : pwp P rd n c Q fr σ) : pwpT P rd n c Q t fr σ := h
@[simp ↓] theorem wT_seq (a b : Code) (t : TgW (.seq a b) Q fr σ) : wT P T rd n (.seq a b) Q fr σ t = wT P T rd n a (PX.thn (fun fr σ => wT P T rd n b Q fr σ {}) Q) fr σ {} := (rfl)
@[simp ↓] theorem wT_region (id : Nat) (l : List Oper) (t : TgW (.region id l.toArray false) Q fr σ) : wT P T rd n (.region id l.toArray false) Q fr σ t = pT P T rd n l.toArray Q l fr σ {} := (rfl)
@[simp ↓] theorem wT_draw (id : Nat) (ops : Array Oper) (t : TgW (.region id ops true) Q fr σ) : wT P T rd n (.region id ops true) Q fr σ t = pwpT P rd n (.region id ops true) Q {} fr σ := (rfl)
@[simp ↓] theorem wT_cond (c : Operand) (x y : Code) (t : TgW (.cond c x y) Q fr σ) : wT P T rd n (.cond c x y) Q fr σ t = CR (opv fr c) (wT P T rd n x Q fr σ {}) (wT P T rd n y Q fr σ {}) {} := (rfl)
@[simp ↓] theorem wT_block (id : Nat) (c : Code) (t : TgW (.block id c) Q fr σ) : wT P T rd n (.block id c) Q fr σ t = wT P T rd n c (PX.blk id Q) fr σ {} := (rfl)
@[simp ↓] theorem wT_ret (t : TgW .ret Q fr σ) : wT P T rd n .ret Q fr σ t = Q .ret fr σ := (rfl)
@[simp ↓] theorem wT_skip (t : TgW .skip Q fr σ) : wT P T rd n .skip Q fr σ t = Q .normal fr σ := (rfl)
@[simp ↓] theorem wT_exit (id : Nat) (t : TgW (.exit id) Q fr σ) : wT P T rd n (.exit id) Q fr σ t = Q (.exit id) fr σ := (rfl)
@[simp ↓] theorem wT_goto (id : Nat) (t : TgW (.goto id) Q fr σ) : wT P T rd n (.goto id) Q fr σ t = Q (.goto id) fr σ := (rfl)
@[simp ↓] theorem wT_loop (c : Code) (t : TgW (.loop c) Q fr σ) : wT P T rd n (.loop c) Q fr σ t = pwpT P rd n (.loop c) Q {} fr σ := (rfl)
@[simp ↓] theorem wT_rangeFunc (f : Operand) (ps : Array Tmp) (a b : Code) (t : TgW (.rangeFunc f ps a b) Q fr σ) : wT P T rd n (.rangeFunc f ps a b) Q fr σ t = pwpT P rd n (.rangeFunc f ps a b) Q {} fr σ := (rfl)
section
variable {K : Fr → Heap → Prop} {id : Nat}
@[simp ↓] theorem thn_normal : PX.thn K Q .normal fr σ = K fr σ := (rfl)
@[simp ↓] theorem thn_exit (j : Nat) : PX.thn K Q (.exit j) fr σ = Q (.exit j) fr σ := (rfl)
@[simp ↓] theorem thn_goto (j : Nat) : PX.thn K Q (.goto j) fr σ = Q (.goto j) fr σ := (rfl)
@[simp ↓] theorem thn_ret : PX.thn K Q .ret fr σ = Q .ret fr σ := (rfl)
@[simp ↓] theorem thn_pan (v : PV) : PX.thn K Q (.pan v) fr σ = Q (.pan v) fr σ := (rfl)
@[simp ↓] theorem blk_normal : PX.blk id Q .normal fr σ = Q .normal fr σ := (rfl)
@[simp ↓] theorem blk_exit (j : Nat) : PX.blk id Q (.exit j) fr σ = IFK (j == id) (Q .normal fr σ) (Q (.exit j) fr σ) {} := by
  simp only [PX.blk, IFK, beq_iff_eq]
@[simp ↓] theorem blk_goto (j : Nat) : PX.blk id Q (.goto j) fr σ = Q (.goto j) fr σ := (rfl)
@[simp ↓] theorem blk_ret : PX.blk id Q .ret fr σ = Q .ret fr σ := (rfl)
@[simp ↓] theorem blk_pan (v : PV) : PX.blk id Q (.pan v) fr σ = Q (.pan v) fr σ := (rfl)
end
/-! Results. -/
structure TgO (K : Out → Heap → Prop) (σ : Heap) where
  x : Nat := 0
def RR (e : EV) (K : Out → Heap → Prop) (σ : Heap) (_ : TgO K σ) : Prop := e.D ∧ K (.val e.V) σ
@[simp] theorem RR_mk (D : Prop) (V : PV) (K : Out → Heap → Prop) (t : TgO K σ) : RR ⟨D, V⟩ K σ t = (D ∧ K (.val V) σ) := (rfl)
@[simp high] theorem RR_true (V : PV) (K : Out → Heap → Prop) (t : TgO K σ) : RR ⟨True, V⟩ K σ t = K (.val V) σ := by simp [RR]
variable {K : Out → Heap → Prop} {rs : List ResultVar}
@[simp ↓] theorem bodyQ_normal : bodyQ P rs K .normal fr σ = RR (resP P rs fr σ) K σ {} := (rfl)
@[simp ↓] theorem bodyQ_ret : bodyQ P rs K .ret fr σ = RR (resP P rs fr σ) K σ {} := (rfl)
@[simp ↓] theorem bodyQ_pan (v : PV) : bodyQ P rs K (.pan v) fr σ = K (.pan v) σ := (rfl)
@[simp ↓] theorem resP_nil : resP P [] fr σ = ⟨True, .lit (.tuple #[])⟩ := (rfl)
@[simp ↓] theorem rvP_tmp (t : Tmp) : rvP P fr σ (.tmp t) = ⟨avt (fr t), sv (fr t)⟩ := (rfl)
@[simp ↓] theorem rvP_cell (a : Tmp) (t : TypeId) : rvP P fr σ (.cell a t) = gEV (avt (fr a)) (evL P σ t (sv (fr a))) := (rfl)
@[simp ↓] theorem resP_one (r : ResultVar) : resP P [r] fr σ = rvP P fr σ r := (rfl)
def rvL (P : Program) (fr : Fr) (σ : Heap) : List ResultVar → List EV
  | [] => []
  | r :: l => rvP P fr σ r :: rvL P fr σ l
@[simp ↓] theorem rvL_nil : rvL P fr σ [] = [] := (rfl)
@[simp ↓] theorem rvL_cons (r : ResultVar) (l : List ResultVar) : rvL P fr σ (r :: l) = rvP P fr σ r :: rvL P fr σ l := (rfl)
def tupD : List EV → Prop
  | [] => True
  | e :: l => e.D ∧ tupD l
def tupV : List EV → List PV
  | [] => []
  | e :: l => e.V :: tupV l
@[simp] theorem tupD_nil : tupD [] = True := (rfl)
@[simp] theorem tupD_cons (e : EV) (l : List EV) : tupD (e :: l) = (e.D ∧ tupD l) := (rfl)
@[simp] theorem tupV_nil : tupV [] = [] := (rfl)
@[simp] theorem tupV_cons (e : EV) (l : List EV) : tupV (e :: l) = e.V :: tupV l := (rfl)
theorem tup_rvL : ∀ l : List ResultVar, tupD (rvL P fr σ l) = (∀ r ∈ l, (rvP P fr σ r).D) ∧ tupV (rvL P fr σ l) = l.map fun r => (rvP P fr σ r).V := by
  intro l
  induction l with
  | nil => simp [rvL]
  | cons r l ih => simp [rvL, ih.1, ih.2]
@[simp ↓] theorem resP_two (a b : ResultVar) (l : List ResultVar) : resP P (a :: b :: l) fr σ = ⟨tupD (rvL P fr σ (a :: b :: l)), .tup (tupV (rvL P fr σ (a :: b :: l)))⟩ := by
  rw [(tup_rvL _).1, (tup_rvL _).2]; rfl

theorem popsT_of_pops {dst ty pos after as ts} {fo : Operand} {t : TgX ops Q ({ dst, op := .call { callee := .value fo, args := as, argTypes := ts }, type := ty, pos, after, guard := none } :: l)} (hq : quietC T fr (.call { callee := .value fo, args := as, argTypes := ts }) = false)
    (h : pops P rd n ops ({ dst, op := .call { callee := .value fo, args := as, argTypes := ts }, type := ty, pos, after, guard := none } :: l) Q fr σ) :
    popsT P T rd n ops Q ({ dst, op := .call { callee := .value fo, args := as, argTypes := ts }, type := ty, pos, after, guard := none } :: l) t fr σ := by
  have e : heapK (.call { callee := .value fo, args := as, argTypes := ts }) = false := rfl
  simp only [popsT, pst, hq, e]
  exact h
/-- A call that is taken on by hand. -/
theorem popsT_call (hT : T.ok P) {dst ty pos after as ts} {g : FuncId} {K : Out → Heap → Prop} {args : List PV} {t : TgX ops Q ({ dst, op := .call { callee := .value (.func g), args := as.toArray, argTypes := ts }, type := ty, pos, after, guard := none } :: l)} (he : Enters P g)
    (h : pcalls P g args σ K) (hg : T.dom g = false) (hd : dB n dst = true) (ha : avL fr as) (hargs : svL fr as = args)
    (hK : ∀ o' σ', K o' σ' → match o' with | .val v => pT P T rd n ops Q l (frSet fr dst v) σ' {} | .pan v => Q (.pan v) fr σ') :
    popsT P T rd n ops Q ({ dst, op := .call { callee := .value (.func g), args := as.toArray, argTypes := ts }, type := ty, pos, after, guard := none } :: l) t fr σ := by
  rw [avL_iff] at ha
  exact popsT_of_pops (show T.dom g = false from hg) (pops_call T hT rfl (by rw [← hd]; cases dst <;> rfl) rfl rfl he (by simpa using ha) (by rw [← hargs, svL_map]; rfl) h hK)
/-- A yield that is taken on by hand. -/
theorem popsT_yield (hT : T.ok P) {dst ty pos after as ts} {x : Tmp} {L : Nat} {K : Out → Heap → Prop} {args : List PV} {t : TgX ops Q ({ dst, op := .call { callee := .value (.tmp x), args := as.toArray, argTypes := ts }, type := ty, pos, after, guard := none } :: l)} (h : yruns P L args σ K)
    (hy : fr x = .yld L) (hd : dB n dst = true) (ha : avL fr as) (hargs : svL fr as = args)
    (hK : ∀ o' σ', K o' σ' → match o' with | .val v => pT P T rd n ops Q l (frSet fr dst v) σ' {} | .pan v => Q (.pan v) fr σ') :
    popsT P T rd n ops Q ({ dst, op := .call { callee := .value (.tmp x), args := as.toArray, argTypes := ts }, type := ty, pos, after, guard := none } :: l) t fr σ := by
  rw [avL_iff] at ha
  refine popsT_of_pops (show (match sv (fr x) with | .fn (.func g) _ _ => T.dom g | _ => false) = false by rw [hy]; rfl) ?_
  exact pops_yield T hT rfl (by rw [← hd]; cases dst <;> rfl) rfl rfl (L := L) (by show sv (fr x) = _; rw [hy]; rfl) (by show avt (fr x); rw [hy]; trivial) (by simpa using ha) (by rw [← hargs, svL_map]; rfl) h hK
end
end Go.Lo
