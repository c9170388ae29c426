/-
  Running code up to chosen regions: there the run stops, so that memory can be frozen ahead of a call.
-/
import Derived.Test.YtgcoikbgpkfcnaaLoV
set_option linter.unusedSimpArgs false
set_option linter.unusedVariables false
namespace Go.Lo
open Go

/-- Code, run as 'wpc' runs it, but for the regions of a list. -/
def wpk (P : Program) (T : Tab) (rd : Bool) (n : Nat) (ks : List Nat) : Code → (PX → Fr → Heap → Prop) → Fr → Heap → Prop
  | .seq a b, Q, fr, σ => wpk P T rd n ks a (PX.thn (fun fr σ => wpk P T rd n ks b Q fr σ) Q) fr σ
  | .region id ops false, Q, fr, σ => if ks.contains id = true then pwp P rd n (.region id ops false) Q fr σ else pst P T rd n ops Q ops.toList fr σ
  | .cond c x y, Q, fr, σ => match opv fr c with
    | .lit (.bool b) => (b = true → wpk P T rd n ks x Q fr σ) ∧ (b = false → wpk P T rd n ks y Q fr σ)
    | _ => False
  | .block id c, Q, fr, σ => wpk P T rd n ks c (PX.blk id Q) fr σ
  | .ret, Q, fr, σ => Q .ret fr σ
  | .skip, Q, fr, σ => Q .normal fr σ
  | .exit id, Q, fr, σ => Q (.exit id) fr σ
  | .goto l, Q, fr, σ => Q (.goto l) fr σ
  | c, Q, fr, σ => pwp P rd n c Q fr σ

theorem pwp_runK {P : Program} {T : Tab} (hT : T.ok P) {rd : Bool} {n : Nat} {ks : List Nat} : ∀ {c : Code} {Q : PX → Fr → Heap → Prop} {fr : Fr} {σ : Heap}, wpk P T rd n ks c Q fr σ → pwp P rd n c Q fr σ := by
  intro c
  induction c with
  | seq a b iha ihb =>
    intro Q fr σ h
    refine pwp_seq (pwp_mono (iha h) fun pe fr σ k => ?_)
    cases pe <;> first | exact ihb k | exact k
  | region id ops d =>
    intro Q fr σ h
    cases d with
    | true => exact h
    | false =>
      unfold wpk at h
      split at h
      · exact h
      · exact pwp_region (pops_pst hT h)
  | cond c x y ihx ihy =>
    intro Q fr σ h
    simp only [wpk] at h
    split at h
    · rename_i b hc
      exact pwp_cond hc (fun e => ihx (h.1 e)) (fun e => ihy (h.2 e))
    · exact h.elim
  | block id c ih => intro Q fr σ h; exact pwp_block (ih h)
  | ret => intro Q fr σ h; exact pwp_ret h
  | skip => intro Q fr σ h; exact pwp_skip h
  | exit id => intro Q fr σ h; exact pwp_exit h
  | goto l => intro Q fr σ h; exact pwp_goto h
  | loop c _ => intro Q fr σ h; exact h
  | rangeFunc f ps a b _ _ => intro Q fr σ h; exact h
  | scope c _ => intro Q fr σ h; exact h
  | label l => intro Q fr σ h; exact h
  | refuse w => intro Q fr σ h; exact h

section
variable {P : Program} {T : Tab} {rd : Bool} {n : Nat} {ks : List Nat} {Q : PX → Fr → Heap → Prop} {fr : Fr} {σ : Heap}
def wK (P : Program) (T : Tab) (rd : Bool) (n : Nat) (ks : List Nat) (c : Code) (Q : PX → Fr → Heap → Prop) (fr : Fr) (σ : Heap) (_ : TgW c Q fr σ) : Prop := wpk P T rd n ks c Q fr σ
/-- Run, and stop ahead of the regions of the list. -/
theorem pwp_goK (hT : T.ok P) (ks : List Nat) {c : Code} (h : wK P T rd n ks c Q fr σ {}) : pwp P rd n c Q fr σ := pwp_runK hT h
@[simp ↓] theorem wK_seq (a b : Code) (t : TgW (.seq a b) Q fr σ) : wK P T rd n ks (.seq a b) Q fr σ t = wK P T rd n ks a (PX.thn (fun fr σ => wK P T rd n ks b Q fr σ {}) Q) fr σ {} := (rfl)
@[simp ↓] theorem wK_region (id : Nat) (l : List Oper) (t : TgW (.region id l.toArray false) Q fr σ) : wK P T rd n ks (.region id l.toArray false) Q fr σ t = IFK (ks.contains id) (pwpT P rd n (.region id l.toArray false) Q {} fr σ) (pT P T rd n l.toArray Q l fr σ {}) {} := (rfl)
@[simp ↓] theorem wK_draw (id : Nat) (ops : Array Oper) (t : TgW (.region id ops true) Q fr σ) : wK P T rd n ks (.region id ops true) Q fr σ t = pwpT P rd n (.region id ops true) Q {} fr σ := (rfl)
@[simp ↓] theorem wK_cond (c : Operand) (x y : Code) (t : TgW (.cond c x y) Q fr σ) : wK P T rd n ks (.cond c x y) Q fr σ t = CR (opv fr c) (wK P T rd n ks x Q fr σ {}) (wK P T rd n ks y Q fr σ {}) {} := (rfl)
@[simp ↓] theorem wK_block (id : Nat) (c : Code) (t : TgW (.block id c) Q fr σ) : wK P T rd n ks (.block id c) Q fr σ t = wK P T rd n ks c (PX.blk id Q) fr σ {} := (rfl)
@[simp ↓] theorem wK_ret (t : TgW .ret Q fr σ) : wK P T rd n ks .ret Q fr σ t = Q .ret fr σ := (rfl)
@[simp ↓] theorem wK_skip (t : TgW .skip Q fr σ) : wK P T rd n ks .skip Q fr σ t = Q .normal fr σ := (rfl)
@[simp ↓] theorem wK_exit (id : Nat) (t : TgW (.exit id) Q fr σ) : wK P T rd n ks (.exit id) Q fr σ t = Q (.exit id) fr σ := (rfl)
@[simp ↓] theorem wK_goto (id : Nat) (t : TgW (.goto id) Q fr σ) : wK P T rd n ks (.goto id) Q fr σ t = Q (.goto id) fr σ := (rfl)
@[simp ↓] theorem wK_loop (c : Code) (t : TgW (.loop c) Q fr σ) : wK P T rd n ks (.loop c) Q fr σ t = pwpT P rd n (.loop c) Q {} fr σ := (rfl)
@[simp ↓] theorem wK_rangeFunc (f : Operand) (ps : Array Tmp) (a b : Code) (t : TgW (.rangeFunc f ps a b) Q fr σ) : wK P T rd n ks (.rangeFunc f ps a b) Q fr σ t = pwpT P rd n (.rangeFunc f ps a b) Q {} fr σ := (rfl)
end
end Go.Lo
