/-
  The program logic 'Lo', part L: what simp does with it. Nothing of the program.
-/
import Derived.Test.YtmmgifhnbgehaaaLoK
set_option linter.unusedSimpArgs false
set_option linter.unusedVariables false
namespace Go.Lo
open Go

@[simp] theorem sv_lit (v : Value) : sv (.lit v) = .lit v := rfl
@[simp] theorem sv_agg (v : List PV) : sv (.agg v) = .agg v := rfl
@[simp] theorem sv_tup (v : List PV) : sv (.tup v) = .tup v := rfl
@[simp] theorem sv_slice (f : Bool) (v : List (List PV)) : sv (.slice f v) = .slice f v := rfl
@[simp] theorem sv_ref (v : List PV) : sv (.ref v) = .ref v := rfl
@[simp] theorem sv_ptr (a b : Nat) : sv (.ptr a b) = .ptr a b := rfl
@[simp] theorem sv_msl (a b c d : Nat) (f : Bool) : sv (.msl a b c d f) = .msl a b c d f := rfl
@[simp] theorem sv_fn (f : Fn) (a b : List PV) : sv (.fn f a b) = .fn f a b := rfl
@[simp] theorem sv_yld (a : Nat) : sv (.yld a) = .yld a := rfl
@[simp] theorem sv_map (a : Nat) : sv (.map a) = .map a := rfl
@[simp] theorem sv_gd (g : Bool) (v : PV) : sv (.gd g v) = v := rfl
@[simp] theorem sv_iface (t : TypeId) (v : PV) : sv (.iface t v) = .iface t v := rfl
@[simp] theorem sv_any : sv .any = .any := rfl
@[simp] theorem avt_lit (v : Value) : avt (.lit v) = True := rfl
@[simp] theorem avt_agg (v : List PV) : avt (.agg v) = True := rfl
@[simp] theorem avt_tup (v : List PV) : avt (.tup v) = True := rfl
@[simp] theorem avt_slice (f : Bool) (v : List (List PV)) : avt (.slice f v) = True := rfl
@[simp] theorem avt_ref (v : List PV) : avt (.ref v) = True := rfl
@[simp] theorem avt_ptr (a b : Nat) : avt (.ptr a b) = True := rfl
@[simp] theorem avt_msl (a b c d : Nat) (f : Bool) : avt (.msl a b c d f) = True := rfl
@[simp] theorem avt_fn (f : Fn) (a b : List PV) : avt (.fn f a b) = True := rfl
@[simp] theorem avt_yld (a : Nat) : avt (.yld a) = True := rfl
@[simp] theorem avt_map (a : Nat) : avt (.map a) = True := rfl
@[simp] theorem avt_gd (g : Bool) (v : PV) : avt (.gd g v) = (g = true) := rfl
@[simp] theorem avt_iface (t : TypeId) (v : PV) : avt (.iface t v) = True := rfl
@[simp] theorem avt_any : avt .any = True := rfl

@[simp] theorem cellsP_lit (v : Value) : cellsP (.lit v) = [.lit v] := rfl
@[simp] theorem isCell_lit (v : Value) : isCell (.lit v) = (match v with | .agg _ => false | .tuple _ => false | _ => true) := by cases v <;> rfl
@[simp] theorem isCell1_lit (v : Value) : isCell1 (.lit v) = (match v with | .agg _ => false | .tuple _ => false | _ => true) := by cases v <;> rfl
@[simp] theorem cellsP_agg (v : List PV) : cellsP (.agg v) = v := rfl
@[simp] theorem isCell_agg (v : List PV) : isCell (.agg v) = true := rfl
@[simp] theorem isCell1_agg (v : List PV) : isCell1 (.agg v) = false := rfl
@[simp] theorem cellsP_slice (a : Bool) (v : List (List PV)) : cellsP (.slice a v) = [.slice a v] := rfl
@[simp] theorem isCell_slice (a : Bool) (v : List (List PV)) : isCell (.slice a v) = true := rfl
@[simp] theorem isCell1_slice (a : Bool) (v : List (List PV)) : isCell1 (.slice a v) = true := rfl
@[simp] theorem cellsP_ref (v : List PV) : cellsP (.ref v) = [.ref v] := rfl
@[simp] theorem isCell_ref (v : List PV) : isCell (.ref v) = true := rfl
@[simp] theorem isCell1_ref (v : List PV) : isCell1 (.ref v) = true := rfl
@[simp] theorem cellsP_ptr (a b : Nat) : cellsP (.ptr a b) = [.ptr a b] := rfl
@[simp] theorem isCell_ptr (a b : Nat) : isCell (.ptr a b) = true := rfl
@[simp] theorem isCell1_ptr (a b : Nat) : isCell1 (.ptr a b) = true := rfl
@[simp] theorem cellsP_msl (a b c d : Nat) (f : Bool) : cellsP (.msl a b c d f) = [.msl a b c d f] := rfl
@[simp] theorem isCell_msl (a b c d : Nat) (f : Bool) : isCell (.msl a b c d f) = true := rfl
@[simp] theorem isCell1_msl (a b c d : Nat) (f : Bool) : isCell1 (.msl a b c d f) = true := rfl
@[simp] theorem cellsP_fn (f : Fn) (a b : List PV) : cellsP (.fn f a b) = [.fn f a b] := rfl
@[simp] theorem isCell_fn (f : Fn) (a b : List PV) : isCell (.fn f a b) = true := rfl
@[simp] theorem isCell1_fn (f : Fn) (a b : List PV) : isCell1 (.fn f a b) = true := rfl
@[simp] theorem cellsP_yld (a : Nat) : cellsP (.yld a) = [.yld a] := rfl
@[simp] theorem isCell_yld (a : Nat) : isCell (.yld a) = true := rfl
@[simp] theorem isCell1_yld (a : Nat) : isCell1 (.yld a) = true := rfl
@[simp] theorem cellsP_map (a : Nat) : cellsP (.map a) = [.map a] := rfl
@[simp] theorem isCell_map (a : Nat) : isCell (.map a) = true := rfl
@[simp] theorem isCell1_map (a : Nat) : isCell1 (.map a) = true := rfl
@[simp] theorem cellsP_iface (t : TypeId) (v : PV) : cellsP (.iface t v) = [.iface t v] := rfl
@[simp] theorem isCell_iface (t : TypeId) (v : PV) : isCell (.iface t v) = true := rfl
@[simp] theorem isCell1_iface (t : TypeId) (v : PV) : isCell1 (.iface t v) = true := rfl
@[simp] theorem Tab.nil_dom (f : FuncId) : Tab.nil.dom f = false := rfl
@[simp] theorem Tab.add_dom (T : Tab) (f g : FuncId) (e : List PV → Heap → EV) : (T.add f e).dom g = (g == f || T.dom g) := rfl
@[simp] theorem Tab.add_ev (T : Tab) (f g : FuncId) (e : List PV → Heap → EV) (args : List PV) (σ : Heap) : (T.add f e).ev g args σ = if g = f then e args σ else T.ev g args σ := rfl
@[simp] theorem setR_nil0 (cs : List PV) : setR cs 0 [] = cs := by simp [setR]
@[simp] theorem setR_zero (c x : PV) (cs new : List PV) : setR (c :: cs) 0 (x :: new) = x :: setR cs 0 new := by simp [setR]
@[simp] theorem setR_succ (c : PV) (cs new : List PV) (n : Nat) : setR (c :: cs) (n + 1) new = c :: setR cs n new := by
  unfold setR
  rw [List.take_succ_cons, show n + 1 + new.length = (n + new.length) + 1 by omega, List.drop_succ_cons, List.cons_append, List.cons_append]

theorem wrap_i64 {x : Int} (h1 : -9223372036854775808 ≤ x) (h2 : x < 9223372036854775808) : IntKind.i64.wrap x = x := IntWalk.i64_in x ⟨by omega, by omega⟩

section
variable {P : Program} {T : Tab} {rd : Bool} {n : Nat} {ops : Array Oper} {Q : PX → Fr → Heap → Prop} {l : List Oper} {fr : Fr} {σ : Heap} {K : Fr → Prop}
@[simp] theorem pst_nil : pst P T rd n ops Q [] fr σ = Q .normal fr σ := (rfl)
@[simp] theorem pst_cons (dst : Option Tmp) (op : Op) (ty : TypeId) (pos : String) (after : Array Edge) : pst P T rd n ops Q ({ dst, op, type := ty, pos, after, guard := none } :: l) fr σ =
    if quietC T fr op then (evc P T σ fr { dst, op, type := ty, pos, after, guard := none }).D ∧ dstOk n { dst, op, type := ty, pos, after, guard := none } = true ∧
      pst P T rd n ops Q l (frSet fr dst (evc P T σ fr { dst, op, type := ty, pos, after, guard := none }).V) σ
    else if heapK op then dstOk n { dst, op, type := ty, pos, after, guard := none } = true ∧ gstep P σ fr op fun V σ' => pst P T rd n ops Q l (frSet fr dst V) σ'
    else popsS P rd n ops ({ dst, op, type := ty, pos, after, guard := none } :: l) Q {} fr σ := by
  simp only [pst, Option.isNone_none, Bool.and_true]
@[simp] theorem pst_cons_g (dst : Option Tmp) (op : Op) (ty : TypeId) (pos : String) (after : Array Edge) (gd : Nat × Bool) : pst P T rd n ops Q ({ dst, op, type := ty, pos, after, guard := some gd } :: l) fr σ =
    if quietC T fr op then match gval ops fr { dst, op, type := ty, pos, after, guard := some gd } with
      | some g => (g = true → (evc P T σ fr { dst, op, type := ty, pos, after, guard := some gd }).D) ∧ dstOk n { dst, op, type := ty, pos, after, guard := some gd } = true ∧
          pst P T rd n ops Q l (frSet fr dst (.gd g (evc P T σ fr { dst, op, type := ty, pos, after, guard := some gd }).V)) σ
      | none => False
    else popsS P rd n ops ({ dst, op, type := ty, pos, after, guard := some gd } :: l) Q {} fr σ := by
  simp only [pst, Option.isNone_some, Bool.and_false, Bool.false_eq_true, if_false]; rfl
@[simp] theorem aLex_nil : aLex P T σ n ops K [] fr = K fr := (rfl)
@[simp] theorem aLex_cons (dst : Option Tmp) (op : Op) (ty : TypeId) (pos : String) (after : Array Edge) : aLex P T σ n ops K ({ dst, op, type := ty, pos, after, guard := none } :: l) fr =
    ((evc P T σ fr { dst, op, type := ty, pos, after, guard := none }).D ∧ dstOk n { dst, op, type := ty, pos, after, guard := none } = true ∧
      aLex P T σ n ops K l (frSet fr dst (evc P T σ fr { dst, op, type := ty, pos, after, guard := none }).V)) := (rfl)
@[simp] theorem aLex_cons_g (dst : Option Tmp) (op : Op) (ty : TypeId) (pos : String) (after : Array Edge) (gd : Nat × Bool) : aLex P T σ n ops K ({ dst, op, type := ty, pos, after, guard := some gd } :: l) fr =
    match gval ops fr { dst, op, type := ty, pos, after, guard := some gd } with
      | some g => (g = true → (evc P T σ fr { dst, op, type := ty, pos, after, guard := some gd }).D) ∧ dstOk n { dst, op, type := ty, pos, after, guard := some gd } = true ∧
          aLex P T σ n ops K l (frSet fr dst (.gd g (evc P T σ fr { dst, op, type := ty, pos, after, guard := some gd }).V))
      | none => False := (rfl)
@[simp] theorem set_none {σ : Heap} {id j : Nat} {o : PObj} : (σ.set id o) j = none ↔ j ≠ id ∧ σ j = none := by
  unfold Heap.set; split <;> simp_all
end

attribute [simp] ev Fr.init fillP List.toList_toArray gval quietK quietC heapK evc callT gstep storeP makeP EV.no gate opv frSet dstOk notV PX.thn PX.blk evFA evF evIA evI evL evBin evInt shifts evUn evConv evLen evMM evPick pickV evExtract evNil evCall evBuild evBS evSl bnd partsP inOrder argsP bodyQ resP rvP evEq litFit litEq Fr.set_apply Heap.set_apply Heap.del_apply

def pwpS (P : Program) (rd : Bool) (n : Nat) (c : Code) (Q : PX → Fr → Heap → Prop) (_ : Tg Q) (fr : Fr) (σ : Heap) : Prop := pwp P rd n c Q fr σ

/-- Code, run as far as the table, 'ev' and plain control flow go: what is left stands as 'pwp' and 'pops'. -/
def wpc (P : Program) (T : Tab) (rd : Bool) (n : Nat) : Code → (PX → Fr → Heap → Prop) → Fr → Heap → Prop
  | .seq a b, Q, fr, σ => wpc P T rd n a (PX.thn (fun fr σ => wpc P T rd n b Q fr σ) Q) fr σ
  | .region _ ops false, Q, fr, σ => pst P T rd n ops Q ops.toList fr σ
  | .cond c x y, Q, fr, σ => match opv fr c with
    | .lit (.bool b) => (b = true → wpc P T rd n x Q fr σ) ∧ (b = false → wpc P T rd n y Q fr σ)
    | _ => False
  | .block id c, Q, fr, σ => wpc P T rd n c (PX.blk id Q) fr σ
  | .ret, Q, fr, σ => Q .ret fr σ
  | .skip, Q, fr, σ => Q .normal fr σ
  | .exit id, Q, fr, σ => Q (.exit id) fr σ
  | .goto l, Q, fr, σ => Q (.goto l) fr σ
  | c, Q, fr, σ => pwpS P rd n c Q {} fr σ

theorem pwp_run {P : Program} {T : Tab} (hT : T.ok P) {rd : Bool} {n : Nat} : ∀ {c : Code} {Q : PX → Fr → Heap → Prop} {fr : Fr} {σ : Heap}, wpc P T rd n c Q fr σ → pwp P rd n c Q fr σ := by
  intro c
  induction c with
  | seq a b iha ihb =>
    intro Q fr σ h
    refine pwp_seq (pwp_mono (iha h) fun pe fr σ k => ?_)
    cases pe <;> first | exact ihb k | exact k
  | region id ops d =>
    intro Q fr σ h
    cases d with
    | true => exact h
    | false => exact pwp_region (pops_pst hT h)
  | cond c x y ihx ihy =>
    intro Q fr σ h
    simp only [wpc] at h
    split at h
    · rename_i b hc
      exact pwp_cond hc (fun e => ihx (h.1 e)) (fun e => ihy (h.2 e))
    · exact h.elim
  | block id c ih => intro Q fr σ h; exact pwp_block (ih h)
  | ret => intro Q fr σ h; exact pwp_ret h
  | skip => intro Q fr σ h; exact pwp_skip h
  | exit id => intro Q fr σ h; exact pwp_exit h
  | goto l => intro Q fr σ h; exact pwp_goto h
  | loop c _ => intro Q fr σ h; exact h
  | rangeFunc f ps a b _ _ => intro Q fr σ h; exact h
  | scope c _ => intro Q fr σ h; exact h
  | label l => intro Q fr σ h; exact h
  | refuse w => intro Q fr σ h; exact h

section
variable {P : Program} {T : Tab} {rd : Bool} {n : Nat} {Q : PX → Fr → Heap → Prop} {fr fr' : Fr} {σ σ' : Heap}
@[simp ↓] theorem wpc_seq (a b : Code) : wpc P T rd n (.seq a b) Q fr σ = wpc P T rd n a (PX.thn (fun fr σ => wpc P T rd n b Q fr σ) Q) fr σ := (rfl)
@[simp ↓] theorem wpc_region (id : Nat) (ops : Array Oper) : wpc P T rd n (.region id ops false) Q fr σ = pst P T rd n ops Q ops.toList fr σ := (rfl)
@[simp ↓] theorem wpc_draw (id : Nat) (ops : Array Oper) : wpc P T rd n (.region id ops true) Q fr σ = pwpS P rd n (.region id ops true) Q {} fr σ := (rfl)
@[simp ↓] theorem wpc_cond (c : Operand) (x y : Code) : wpc P T rd n (.cond c x y) Q fr σ = match opv fr c with
    | .lit (.bool b) => (b = true → wpc P T rd n x Q fr σ) ∧ (b = false → wpc P T rd n y Q fr σ)
    | _ => False := (rfl)
@[simp ↓] theorem wpc_block (id : Nat) (c : Code) : wpc P T rd n (.block id c) Q fr σ = wpc P T rd n c (PX.blk id Q) fr σ := (rfl)
@[simp ↓] theorem wpc_ret : wpc P T rd n .ret Q fr σ = Q .ret fr σ := (rfl)
@[simp ↓] theorem wpc_skip : wpc P T rd n .skip Q fr σ = Q .normal fr σ := (rfl)
@[simp ↓] theorem wpc_exit (id : Nat) : wpc P T rd n (.exit id) Q fr σ = Q (.exit id) fr σ := (rfl)
@[simp ↓] theorem wpc_goto (l : Nat) : wpc P T rd n (.goto l) Q fr σ = Q (.goto l) fr σ := (rfl)
@[simp ↓] theorem wpc_loop (c : Code) : wpc P T rd n (.loop c) Q fr σ = pwpS P rd n (.loop c) Q {} fr σ := (rfl)
@[simp ↓] theorem wpc_rangeFunc (f : Operand) (ps : Array Tmp) (a b : Code) : wpc P T rd n (.rangeFunc f ps a b) Q fr σ = pwpS P rd n (.rangeFunc f ps a b) Q {} fr σ := (rfl)
@[congr] theorem wpc_congr (c : Code) (h1 : fr = fr') (h2 : σ = σ') : wpc P T rd n c Q fr σ = wpc P T rd n c Q fr' σ' := by rw [h1, h2]
@[congr] theorem pwp_congr (c : Code) (h1 : fr = fr') (h2 : σ = σ') : pwp P rd n c Q fr σ = pwp P rd n c Q fr' σ' := by rw [h1, h2]
@[congr] theorem pops_congr (ops : Array Oper) (l : List Oper) (h1 : fr = fr') (h2 : σ = σ') : pops P rd n ops l Q fr σ = pops P rd n ops l Q fr' σ' := by rw [h1, h2]
@[congr] theorem pst_congr (ops : Array Oper) (l : List Oper) (h1 : fr = fr') (h2 : σ = σ') : pst P T rd n ops Q l fr σ = pst P T rd n ops Q l fr' σ' := by rw [h1, h2]
@[congr] theorem aLex_congr (ops : Array Oper) (l : List Oper) {K : Fr → Prop} (h1 : fr = fr') : aLex P T σ n ops K l fr = aLex P T σ n ops K l fr' := by rw [h1]
end
end Go.Lo
