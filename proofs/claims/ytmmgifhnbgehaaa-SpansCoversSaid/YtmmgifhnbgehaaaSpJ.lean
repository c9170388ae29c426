/-
  Spans: what the functions compute, part J: one table of all.
-/
import Derived.Test.YtmmgifhnbgehaaaSpI
set_option linter.unusedSimpArgs false
set_option linter.unusedVariables false
namespace Go.Proofs.Ytmmgifhnbgehaaa
open Go.Lo

def decS : List PV → Sp
  | [.lit (.int _ a), .lit (.int _ b)] => (a, b)
  | _ => (0, 0)
def decL : PV → List Sp
  | .slice _ rows => rows.map decS
  | _ => []
def isL : PV → Prop
  | .slice _ rows => ∃ l : List Sp, rows = l.map encS ∧ l.length ≤ maxLen
  | .lit (.slice none 0 0) => True
  | _ => False
theorem encS_inj {s t : Sp} (h : encS s = encS t) : s = t := by
  simp [encS] at h; exact Prod.ext h.1 h.2
theorem encL_inj : ∀ {l m : List Sp}, l.map encS = m.map encS → l = m
  | [], [], _ => rfl
  | s :: l, t :: m, h => by
    simp only [List.map_cons, List.cons.injEq] at h
    rw [encS_inj h.1, encL_inj h.2]
@[simp] theorem decL_enc (x : Bool) (l : List Sp) : decL (encL x l) = l := by
  show (l.map encS).map decS = l
  rw [List.map_map]
  exact List.map_id'' (fun s => rfl) l
@[simp] theorem decL_nil : decL (.lit (.slice none 0 0)) = [] := rfl
@[simp] theorem isL_enc (x : Bool) (l : List Sp) : isL (encL x l) = (l.length ≤ maxLen) := propext
  ⟨fun ⟨m, h, hl⟩ => by rw [encL_inj h]; exact hl, fun h => ⟨l, rfl, h⟩⟩
@[simp] theorem isL_nil : isL (.lit (.slice none 0 0)) = True := rfl
/-- A list that simp does not take apart. -/
def encO (l : List Sp) : PV := encL false l
@[simp] theorem decL_encO (l : List Sp) : decL (encO l) = l := decL_enc false l
@[simp] theorem isL_encO (l : List Sp) : isL (encO l) = (l.length ≤ maxLen) := isL_enc false l
@[simp] theorem sv_encO (l : List Sp) : sv (encO l) = encO l := rfl
@[simp] theorem avt_encO (l : List Sp) : avt (encO l) = True := rfl
@[simp] theorem cellsP_encO (l : List Sp) : cellsP (encO l) = [encO l] := rfl
@[simp] theorem isCell_encO (l : List Sp) : isCell (encO l) = true := rfl
@[simp high] theorem evLen_encO (σ : Heap) (l : List Sp) : evLen P0 σ 22 (encO l) = ⟨True, num l.length⟩ := by
  unfold evLen encO
  rw [show P0.underlying 22 = some (.slice 31) by kernel_rfl]
  show (⟨True, num ((l.map encS).length : Nat)⟩ : EV) = _
  rw [List.length_map]
theorem isL_le {p : PV} (h : isL p) : ∃ x, PLe p (encL x (decL p)) ∧ (decL p).length ≤ maxLen := by
  unfold isL at h
  split at h
  · rename_i x rows
    obtain ⟨l, rfl, hl⟩ := h
    exact ⟨x, by rw [show (PV.slice x (l.map encS)) = encL x l from rfl, decL_enc]; exact .refl _, by rw [show (PV.slice x (l.map encS)) = encL x l from rfl, decL_enc]; exact hl⟩
  · exact ⟨false, .nil _, by simp [maxLen, decL]⟩
  · exact h.elim
@[simp] theorem combS_len (t : Nat) (a b : List Sp) : (combS t a b).length ≤ maxLen := Nat.le_trans (runsF_length _) (by decide)
@[simp] theorem normS_len (a : List Sp) : (normS a).length ≤ maxLen := combS_len _ _ _

/-- One list. -/
def e1 (r : List Sp → PV) (args : List PV) : EV :=
  match args with
  | [a] => ⟨isL a, r (decL a)⟩
  | _ => .no
/-- Two lists. -/
def e2 (r : List Sp → List Sp → PV) (args : List PV) : EV :=
  match args with
  | [a, b] => ⟨isL a ∧ isL b, r (decL a) (decL b)⟩
  | _ => .no
/-- A list and a number. -/
def eN (r : List Sp → Int → PV) (args : List PV) : EV :=
  match args with
  | [a, .lit (.int .i64 d)] => ⟨isL a, r (decL a) d⟩
  | _ => .no
/-- A list and a span. -/
def eS (r : List Sp → Sp → PV) (args : List PV) : EV :=
  match args with
  | [a, .agg [.lit (.int .i64 x), .lit (.int .i64 y)]] => ⟨isL a, r (decL a) (x, y)⟩
  | _ => .no
theorem fun1 {f : FuncId} {r : List Sp → PV} (h : ∀ x l, l.length ≤ maxLen → PFun P0 f [encL x l] (r l)) (args : List PV) (hd : (e1 r args).D) : PFun P0 f args (e1 r args).V := by
  unfold e1 at hd ⊢
  split at hd
  · obtain ⟨x, h1, h2⟩ := isL_le hd
    exact pcalls.args (h x _ h2) (.cons h1 .nil)
  · exact hd.elim
theorem fun2 {f : FuncId} {r : List Sp → List Sp → PV} (h : ∀ x y l m, l.length ≤ maxLen → m.length ≤ maxLen → PFun P0 f [encL x l, encL y m] (r l m)) (args : List PV) (hd : (e2 r args).D) : PFun P0 f args (e2 r args).V := by
  unfold e2 at hd ⊢
  split at hd
  · obtain ⟨x, h1, h2⟩ := isL_le hd.1
    obtain ⟨y, h3, h4⟩ := isL_le hd.2
    exact pcalls.args (h x y _ _ h2 h4) (.cons h1 (.cons h3 .nil))
  · exact hd.elim
theorem funN {f : FuncId} {r : List Sp → Int → PV} (h : ∀ x l d, l.length ≤ maxLen → PFun P0 f [encL x l, num d] (r l d)) (args : List PV) (hd : (eN r args).D) : PFun P0 f args (eN r args).V := by
  unfold eN at hd ⊢
  split at hd
  · obtain ⟨x, h1, h2⟩ := isL_le hd
    exact pcalls.args (h x _ _ h2) (.cons h1 (.cons (.refl _) .nil))
  · exact hd.elim
theorem funS {f : FuncId} {r : List Sp → Sp → PV} (h : ∀ x l s, l.length ≤ maxLen → PFun P0 f [encL x l, .agg (encS s)] (r l s)) (args : List PV) (hd : (eS r args).D) : PFun P0 f args (eS r args).V := by
  unfold eS at hd ⊢
  split at hd
  · rename_i a c d
    obtain ⟨x, h1, h2⟩ := isL_le hd
    exact pcalls.args (h x _ (c, d) h2) (.cons h1 (.cons (.refl _) .nil))
  · exact hd.elim

/-- All of it. -/
def TB : Tab := (((((((((((((((Tab.nil.add 11 fun a _ => e1 (fun l => bo (fewS l)) a).add 12 fun a _ => e1 (fun l => num (checkS l)) a).add 13 fun a _ => e1 (fun l => num (checkS l)) a).add 14 fun a _ => e2 (fun l m => bo (sameS l m)) a).add 15 fun a _ => e1 (fun l => encO (normS l)) a).add 16 fun a _ => e1 (fun l => encO (normS l)) a).add 17 fun a _ => e2 (fun l m => encO (combS 0 l m)) a).add 18 fun a _ => e2 (fun l m => encO (combS 0 l m)) a).add 19 fun a _ => e2 (fun l m => encO (combS 1 l m)) a).add 20 fun a _ => e2 (fun l m => encO (combS 1 l m)) a).add 21 fun a _ => e2 (fun l m => encO (combS 2 l m)) a).add 22 fun a _ => e2 (fun l m => encO (combS 2 l m)) a).add 23 fun a _ => eN (fun l d => bo (hasS l d)) a).add 24 fun a _ => eN (fun l d => bo (hasS l d)) a).add 25 fun a _ => eS (fun l s => bo (covS l s)) a).add 26 fun a _ => eS (fun l s => bo (rcovS l s)) a
theorem TB_ok : TB.ok P0 := by
  refine Tab.add_fun (Tab.add_fun (Tab.add_fun (Tab.add_fun (Tab.add_fun (Tab.add_fun (Tab.add_fun (Tab.add_fun (Tab.add_fun (Tab.add_fun (Tab.add_fun (Tab.add_fun (Tab.add_fun (Tab.add_fun (Tab.add_fun (Tab.add_fun n_ok ?_ ?_) ?_ ?_) ?_ ?_) ?_ ?_) ?_ ?_) ?_ ?_) ?_ ?_) ?_ ?_) ?_ ?_) ?_ ?_) ?_ ?_) ?_ ?_) ?_ ?_) ?_ ?_) ?_ ?_) ?_ ?_
  · exact Try.call11
  · exact fun1 fun x l h => few_ok x l
  · exact Try.call12
  · exact fun1 fun x l h => check_ok x l h
  · exact Try.call13
  · exact fun1 fun x l h => refCheck_ok x l h
  · exact Try.call14
  · exact fun2 fun x y l m h k => refSame_ok x y l m h k
  · exact Try.call15
  · exact fun1 fun x l h => normal_ok x l h
  · exact Try.call16
  · exact fun1 fun x l h => refNormal_ok x l h
  · exact Try.call17
  · exact fun2 fun x y l m h k => union_ok x y l m h k
  · exact Try.call18
  · exact fun2 fun x y l m h k => refUnion_ok x y l m h k
  · exact Try.call19
  · exact fun2 fun x y l m h k => meet_ok x y l m h k
  · exact Try.call20
  · exact fun2 fun x y l m h k => refMeet_ok x y l m h k
  · exact Try.call21
  · exact fun2 fun x y l m h k => minusS_ok x y l m h k
  · exact Try.call22
  · exact fun2 fun x y l m h k => refMinus_ok x y l m h k
  · exact Try.call23
  · exact funN fun x l d h => has_ok x l h d
  · exact Try.call24
  · exact funN fun x l d h => refHas_ok x l h d
  · exact Try.call25
  · exact funS fun x l s h => covers_ok x l h s
  · exact Try.call26
  · exact funS fun x l s h => refCovers_ok x l h s
end Go.Proofs.Ytmmgifhnbgehaaa
