/-
  The program logic 'Lo', part L: what simp does with it. Nothing of the program.
-/
import Derived.Test.YtgcoikbgpkfcnaaLoK
set_option linter.unusedSimpArgs false
set_option linter.unusedVariables false
namespace Go.Lo
open Go

@[simp] theorem sv_lit (v : Value) : sv (.lit v) = .lit v := rfl
@[simp] theorem sv_agg (v : List PV) : sv (.agg v) = .agg v := rfl
@[simp] theorem sv_tup (v : List PV) : sv (.tup v) = .tup v := rfl
@[simp] theorem sv_slice (f : Bool) (v : List (List PV)) : sv (.slice f v) = .slice f v := rfl
@[simp] theorem sv_ref (v : List PV) : sv (.ref v) = .ref v := rfl
@[simp] theorem sv_ptr (a b : Nat) : sv (.ptr a b) = .ptr a b := rfl
@[simp] theorem sv_msl (a b c d : Nat) (f : Bool) : sv (.msl a b c d f) = .msl a b c d f := rfl
@[simp] theorem sv_fn (f : Fn) (a b : List PV) : sv (.fn f a b) = .fn f a b := rfl
@[simp] theorem sv_yld (a : Nat) : sv (.yld a) = .yld a := rfl
@[simp] theorem sv_map (a : Nat) : sv (.map a) = .map a := rfl
@[simp] theorem sv_gd (g : Bool) (v : PV) : sv (.gd g v) = v := rfl
@[simp] theorem sv_iface (t : TypeId) (v : PV) : sv (.iface t v) = .iface t v := rfl
@[simp] theorem sv_any : sv .any = .any := rfl
@[simp] theorem avt_lit (v : Value) : avt (.lit v) = True := rfl
@[simp] theorem avt_agg (v : List PV) : avt (.agg v) = True := rfl
@[simp] theorem avt_tup (v : List PV) : avt (.tup v) = True := rfl
@[simp] theorem avt_slice (f : Bool) (v : List (List PV)) : avt (.slice f v) = True := rfl
@[simp] theorem avt_ref (v : List PV) : avt (.ref v) = True := rfl
@[simp] theorem avt_ptr (a b : Nat) : avt (.ptr a b) = True := rfl
@[simp] theorem avt_msl (a b c d : Nat) (f : Bool) : avt (.msl a b c d f) = True := rfl
@[simp] theorem avt_fn (f : Fn) (a b : List PV) : avt (.fn f a b) = True := rfl
@[simp] theorem avt_yld (a : Nat) : avt (.yld a) = True := rfl
@[simp] theorem avt_map (a : Nat) : avt (.map a) = True := rfl
@[simp] theorem avt_gd (g : Bool) (v : PV) : avt (.gd g v) = (g = true) := rfl
@[simp] theorem avt_iface (t : TypeId) (v : PV) : avt (.iface t v) = True := rfl
@[simp] theorem avt_any : avt .any = True := rfl

@[simp] theorem cellsP_lit (v : Value) : cellsP (.lit v) = [.lit v] := rfl
@[simp] theorem isCell_lit (v : Value) : isCell (.lit v) = (match v with | .agg _ => false | .tuple _ => false | _ => true) := by cases v <;> rfl
@[simp] theorem isCell1_lit (v : Value) : isCell1 (.lit v) = (match v with | .agg _ => false | .tuple _ => false | _ => true) := by cases v <;> rfl
@[simp] theorem cellsP_agg (v : List PV) : cellsP (.agg v) = v := rfl
@[simp] theorem isCell_agg (v : List PV) : isCell (.agg v) = true := rfl
@[simp] theorem isCell1_agg (v : List PV) : isCell1 (.agg v) = false := rfl
@[simp] theorem cellsP_slice (a : Bool) (v : List (List PV)) : cellsP (.slice a v) = [.slice a v] := rfl
@[simp] theorem isCell_slice (a : Bool) (v : List (List PV)) : isCell (.slice a v) = true := rfl
@[simp] theorem isCell1_slice (a : Bool) (v : List (List PV)) : isCell1 (.slice a v) = true := rfl
@[simp] theorem cellsP_ref (v : List PV) : cellsP (.ref v) = [.ref v] := rfl
@[simp] theorem isCell_ref (v : List PV) : isCell (.ref v) = true := rfl
@[simp] theorem isCell1_ref (v : List PV) : isCell1 (.ref v) = true := rfl
@[simp] theorem cellsP_ptr (a b : Nat) : cellsP (.ptr a b) = [.ptr a b] := rfl
@[simp] theorem isCell_ptr (a b : Nat) : isCell (.ptr a b) = true := rfl
@[simp] theorem isCell1_ptr (a b : Nat) : isCell1 (.ptr a b) = true := rfl
@[simp] theorem cellsP_msl (a b c d : Nat) (f : Bool) : cellsP (.msl a b c d f) = [.msl a b c d f] := rfl
@[simp] theorem isCell_msl (a b c d : Nat) (f : Bool) : isCell (.msl a b c d f) = true := rfl
@[simp] theorem isCell1_msl (a b c d : Nat) (f : Bool) : isCell1 (.msl a b c d f) = true := rfl
@[simp] theorem cellsP_fn (f : Fn) (a b : List PV) : cellsP (.fn f a b) = [.fn f a b] := rfl
@[simp] theorem isCell_fn (f : Fn) (a b : List PV) : isCell (.fn f a b) = true := rfl
@[simp] theorem isCell1_fn (f : Fn) (a b : List PV) : isCell1 (.fn f a b) = true := rfl
@[simp] theorem cellsP_yld (a : Nat) : cellsP (.yld a) = [.yld a] := rfl
@[simp] theorem isCell_yld (a : Nat) : isCell (.yld a) = true := rfl
@[simp] theorem isCell1_yld (a : Nat) : isCell1 (.yld a) = true := rfl
@[simp] theorem cellsP_map (a : Nat) : cellsP (.map a) = [.map a] := rfl
@[simp] theorem isCell_map (a : Nat) : isCell (.map a) = true := rfl
@[simp] theorem isCell1_map (a : Nat) : isCell1 (.map a) = true := rfl
@[simp] theorem cellsP_iface (t : TypeId) (v : PV) : cellsP (.iface t v) = [.iface t v] := rfl
@[simp] theorem isCell_iface (t : TypeId) (v : PV) : isCell (.iface t v) = true := rfl
@[simp] theorem isCell1_iface (t : TypeId) (v : PV) : isCell1 (.iface t v) = true := rfl
@[simp] theorem Tab.nil_dom (f : FuncId) : Tab.nil.dom f = false := rfl
@[simp] theorem Tab.add_dom (T : Tab) (f g : FuncId) (e : List PV → Heap → EV) : (T.add f e).dom g = (g == f || T.dom g) := rfl
@[simp] theorem Tab.add_ev (T : Tab) (f g : FuncId) (e : List PV → Heap → EV) (args : List PV) (σ : Heap) : (T.add f e).ev g args σ = if g = f then e args σ else T.ev g args σ := rfl
@[simp] theorem setR_nil0 (cs : List PV) : setR cs 0 [] = cs := by simp [setR]
@[simp] theorem setR_zero (c x : PV) (cs new : List PV) : setR (c :: cs) 0 (x :: new) = x :: setR cs 0 new := by simp [setR]
@[simp] theorem setR_succ (c : PV) (cs new : List PV) (n : Nat) : setR (c :: cs) (n + 1) new = c :: setR cs n new := by
  unfold setR
  rw [List.take_succ_cons, show n + 1 + new.length = (n + new.length) + 1 by omega, List.drop_succ_cons, List.cons_append, List.cons_append]

theorem wrap_i64 {x : Int} (h1 : -9223372036854775808 ≤ x) (h2 : x < 9223372036854775808) : IntKind.i64.wrap x = x := IntWalk.i64_in x ⟨by omega, by omega⟩

end Go.Lo
