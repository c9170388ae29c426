/-
  Network: what the functions compute, part B: how packets, links and nets lie; readable forms.
-/
import Derived.Test.YtgcoikbgpkfcnaaNwA
import Derived.Test.YtgcoikbgpkfcnaaRows
set_option linter.unusedSimpArgs false
set_option linter.unusedVariables false
namespace Go.Proofs.Ytgcoikbgpkfcnaa
open Go.Lo

noncomputable abbrev P0 : Program := Try.prog
theorem n_ok : Tab.nil.ok P0 := Tab.nil_ok _
theorem mixed : Try.prog.follows .mixedOrders = true := by kernel_rfl
@[simp] theorem inf3 : inf P0 3 = some (1, false) := by kernel_rfl
@[simp] theorem inf4 : inf P0 4 = some (1, false) := by kernel_rfl
@[simp] theorem inf5 : inf P0 5 = some (1, false) := by kernel_rfl
@[simp] theorem inf22 : inf P0 22 = some (1, false) := by kernel_rfl
@[simp] theorem inf23 : inf P0 23 = some (1, false) := by kernel_rfl
@[simp] theorem inf25 : inf P0 25 = some (2, true) := by kernel_rfl
@[simp] theorem inf26 : inf P0 26 = some (1, false) := by kernel_rfl
@[simp] theorem inf28 : inf P0 28 = some (3, true) := by kernel_rfl
@[simp] theorem inf31 : inf P0 31 = some (1, false) := by kernel_rfl
@[simp] theorem inf45 : inf P0 45 = some (1, false) := by kernel_rfl
@[simp] theorem inf55 : inf P0 55 = some (2, true) := by kernel_rfl
@[simp] theorem inf58 : inf P0 58 = some (2, true) := by kernel_rfl
@[simp] theorem inf67 : inf P0 67 = some (1, false) := by kernel_rfl
@[simp] theorem ixi22 : ixi P0 22 = some (none, 3, true) := by kernel_rfl
@[simp] theorem ixi23 : ixi P0 23 = some (none, 2, true) := by kernel_rfl
@[simp] theorem ixi26 : ixi P0 26 = some (none, 1, false) := by kernel_rfl
@[simp] theorem ixi45 : ixi P0 45 = some (none, 1, false) := by kernel_rfl
@[simp] theorem ixi55 : ixi P0 55 = some (some 2, 1, false) := by kernel_rfl
@[simp] theorem ixi58 : ixi P0 58 = some (some 2, 1, false) := by kernel_rfl
@[simp] theorem ixi25 : ixi P0 25 = none := by kernel_rfl
@[simp] theorem ixi28 : ixi P0 28 = none := by kernel_rfl
@[simp] theorem fld250 : fldT P0 25 0 = some (0, 1, false) := by kernel_rfl
@[simp] theorem fld251 : fldT P0 25 1 = some (1, 1, false) := by kernel_rfl
@[simp] theorem fld280 : fldT P0 28 0 = some (0, 1, false) := by kernel_rfl
@[simp] theorem fld281 : fldT P0 28 1 = some (1, 1, false) := by kernel_rfl
@[simp] theorem fld282 : fldT P0 28 2 = some (2, 1, false) := by kernel_rfl
@[simp] theorem places25 : places P0 25 = some [(0, 1), (1, 1)] := by kernel_rfl
@[simp] theorem places28 : places P0 28 = some [(0, 1), (1, 1), (2, 1)] := by kernel_rfl
@[simp] theorem places55 : places P0 55 = none := by kernel_rfl
@[simp] theorem places58 : places P0 58 = none := by kernel_rfl
@[simp] theorem len22 : lenK P0 22 = .slice := by kernel_rfl
@[simp] theorem len23 : lenK P0 23 = .slice := by kernel_rfl
@[simp] theorem len26 : lenK P0 26 = .slice := by kernel_rfl
@[simp] theorem len45 : lenK P0 45 = .slice := by kernel_rfl
@[simp] theorem elem22 : elemB P0 22 = some (40, [num 0, num 0, .lit (.slice none 0 0)]) := by kernel_rfl
@[simp] theorem elem23 : elemB P0 23 = some (16, [num 0, num 0]) := by kernel_rfl
@[simp] theorem elem26 : elemB P0 26 = some (1, [.lit (.int .u8 0)]) := by kernel_rfl
@[simp] theorem elemOk22 : elemOk P0 22 = true := by kernel_rfl
@[simp] theorem elemOk23 : elemOk P0 23 = true := by kernel_rfl
@[simp] theorem elemOk26 : elemOk P0 26 = true := by kernel_rfl
@[simp] theorem isl22 : isSliceT P0 22 = true := by kernel_rfl
@[simp] theorem isl23 : isSliceT P0 23 = true := by kernel_rfl
@[simp] theorem isl26 : isSliceT P0 26 = true := by kernel_rfl
@[simp] theorem zero3 : zeroP P0 3 = some [num 0] := by kernel_rfl
@[simp] theorem zero4 : zeroP P0 4 = some [.lit (.bool false)] := by kernel_rfl
@[simp] theorem zero25 : zeroP P0 25 = some [.lit (.slice none 0 0), .lit (.slice none 0 0)] := by kernel_rfl
@[simp] theorem zero28 : zeroP P0 28 = some [num 0, num 0, .lit (.slice none 0 0)] := by kernel_rfl
@[simp] theorem zero31 : zeroP P0 31 = some [num 0] := by kernel_rfl
@[simp] theorem zero55 : zeroP P0 55 = some [num 0, num 0] := by kernel_rfl
@[simp] theorem zero58 : zeroP P0 58 = some [num 0, num 0] := by kernel_rfl
@[simp] theorem zero23 : zeroP P0 23 = some [.lit (.slice none 0 0)] := by kernel_rfl
@[simp] theorem bool4 : P0.underlying 4 = some .bool := by kernel_rfl
@[simp] theorem eq55 : eqS P0 55 = some [(0, .int .i64), (1, .int .i64)] := by kernel_rfl
@[simp] theorem eq58 : eqS P0 58 = some [(0, .int .i64), (1, .int .i64)] := by kernel_rfl

/-! ### Encodings -/
abbrev u8 (x : Int) : PV := .lit (.int .u8 x)
def encB (b : Bool) (l : List Int) : PV := .slice b (l.map fun x => [u8 x])
def rowK (p : Pk) : List PV := [num p.f, num p.t, encB false p.d]
def encQ (b : Bool) (l : List Pk) : PV := .slice b (l.map rowK)
def rowL (l : Lk) : List PV := [num l.1, num l.2]
def encA (b : Bool) (l : List Lk) : PV := .slice b (l.map rowL)
def netC (n : Nt) : List PV := [encQ false n.q, encA false n.a]
@[simp] theorem sv_encB (b : Bool) (l : List Int) : sv (encB b l) = encB b l := rfl
@[simp] theorem avt_encB (b : Bool) (l : List Int) : avt (encB b l) = True := rfl
@[simp] theorem sv_encQ (b : Bool) (l : List Pk) : sv (encQ b l) = encQ b l := rfl
@[simp] theorem avt_encQ (b : Bool) (l : List Pk) : avt (encQ b l) = True := rfl
@[simp] theorem sv_encA (b : Bool) (l : List Lk) : sv (encA b l) = encA b l := rfl
@[simp] theorem avt_encA (b : Bool) (l : List Lk) : avt (encA b l) = True := rfl
@[simp] theorem cellsP_encB (b : Bool) (l : List Int) : cellsP (encB b l) = [encB b l] := rfl
@[simp] theorem isCell_encB (b : Bool) (l : List Int) : isCell (encB b l) = true := rfl
@[simp] theorem isCell1_encB (b : Bool) (l : List Int) : isCell1 (encB b l) = true := rfl
@[simp] theorem cellsP_encQ (b : Bool) (l : List Pk) : cellsP (encQ b l) = [encQ b l] := rfl
@[simp] theorem isCell_encQ (b : Bool) (l : List Pk) : isCell (encQ b l) = true := rfl
@[simp] theorem isCell1_encQ (b : Bool) (l : List Pk) : isCell1 (encQ b l) = true := rfl
@[simp] theorem cellsP_encA (b : Bool) (l : List Lk) : cellsP (encA b l) = [encA b l] := rfl
@[simp] theorem isCell_encA (b : Bool) (l : List Lk) : isCell (encA b l) = true := rfl
@[simp] theorem isCell1_encA (b : Bool) (l : List Lk) : isCell1 (encA b l) = true := rfl
@[simp] theorem Lenx_encB (σ : Heap) (b : Bool) (l : List Int) : Lenx .slice σ (encB b l) = ⟨True, num l.length⟩ := by simp [encB]
@[simp] theorem Lenx_encQ (σ : Heap) (b : Bool) (l : List Pk) : Lenx .slice σ (encQ b l) = ⟨True, num l.length⟩ := by simp [encQ]
@[simp] theorem Lenx_encA (σ : Heap) (b : Bool) (l : List Lk) : Lenx .slice σ (encA b l) = ⟨True, num l.length⟩ := by simp [encA]
theorem IAx_encQ {b : Bool} {l : List Pk} {k : Nat} (kk : IntKind) (h : k < l.length) : IAx (some (none, 3, true)) (encQ b l) (.lit (.int kk (k : Int))) = ⟨True, .ref (rowK l[k])⟩ := by simp [encQ, h, rowK]
theorem IAx_encA {b : Bool} {l : List Lk} {k : Nat} (kk : IntKind) (h : k < l.length) : IAx (some (none, 2, true)) (encA b l) (.lit (.int kk (k : Int))) = ⟨True, .ref (rowL l[k])⟩ := by simp [encA, h, rowL]
@[simp] theorem frzN_encB (n : Nat) (σ : Heap) (b : Bool) (l : List Int) : frzN n σ (encB b l) = encB b l := by
  cases n with
  | zero => rfl
  | succ n => simp only [encB, frzN, List.map_map, Function.comp_def, List.map_cons, List.map_nil, frzN_num]
@[simp] theorem frzN_encA (n : Nat) (σ : Heap) (b : Bool) (l : List Lk) : frzN n σ (encA b l) = encA b l := by
  cases n with
  | zero => rfl
  | succ n => simp only [encA, frzN, List.map_map, Function.comp_def, List.map_cons, List.map_nil, frzN_num, rowL]; rfl
theorem frzN_rowK (n : Nat) (σ : Heap) (p : Pk) : (rowK p).map (frzN n σ) = rowK p := by simp [rowK]
@[simp] theorem frzN_encQ (n : Nat) (σ : Heap) (b : Bool) (l : List Pk) : frzN n σ (encQ b l) = encQ b l := by
  cases n with
  | zero => rfl
  | succ n =>
    simp only [encQ, frzN, List.map_map]
    congr 1
    refine List.map_congr_left fun p _ => ?_
    simp only [Function.comp, frzN_rowK]

/-! ### What reads as something, in rows -/
theorem PLe.rows {b : Bool} {r s : List (List PV)} (hl : r.length = s.length) (h : ∀ i, i < s.length → PLeL (r.getD i []) (s.getD i [])) : PLe (.slice b r) (.slice b s) := fun G W v hv => by
  cases hv with
  | nilsl _ base cap hf =>
    have : s = [] := List.length_eq_zero_iff.1 (by simpa using hl.symm)
    subst this
    exact .nilsl b base cap hf
  | slice _ _ bl off len cap k cv h1 h2 h3 h4 h5 h6 h7 =>
    subst h1
    refine .slice b s bl off r.length cap k cv hl.symm h2 h3 h4 (fun i hi => ?_) h6 (fun i j hi hj => ?_)
    · have := (h i (by omega)).get.1
      rw [← this]; exact h5 i hi
    · have hg := (h i (by omega)).get
      have hk := h5 i hi
      exact hg.2 j (by omega) G W _ (h7 i j hi hj)

def decB : PV → List Int
  | .slice _ rows => rows.map fun r => match r with | [.lit (.int _ x)] => x | _ => 0
  | _ => []
def isBs : PV → Prop
  | .slice _ rows => ∃ l : List Int, rows = l.map (fun x => [u8 x]) ∧ l.length ≤ maxLen
  | .lit (.slice none 0 0) => True
  | _ => False
@[simp] theorem decB_enc (b : Bool) (l : List Int) : decB (encB b l) = l := by
  show (l.map fun x => [u8 x]).map _ = l
  rw [List.map_map]; exact List.map_id'' (fun _ => rfl) l
theorem rowsB_inj : ∀ {l m : List Int}, l.map (fun x => [u8 x]) = m.map (fun x => [u8 x]) → l = m
  | [], [], _ => rfl
  | s :: l, t :: m, h => by
    simp only [List.map_cons, List.cons.injEq, and_true, PV.lit.injEq, Value.int.injEq, true_and] at h
    rw [h.1, rowsB_inj h.2]
@[simp] theorem isBs_enc (b : Bool) (l : List Int) : isBs (encB b l) = (l.length ≤ maxLen) := propext
  ⟨fun ⟨m, h, hl⟩ => by rw [rowsB_inj h]; exact hl, fun h => ⟨l, rfl, h⟩⟩
@[simp] theorem decB_nil : decB (.lit (.slice none 0 0)) = [] := rfl
@[simp] theorem isBs_nil : isBs (.lit (.slice none 0 0)) = True := rfl
theorem isBs_le {p : PV} (h : isBs p) : PLe p (encB false (decB p)) ∧ (decB p).length ≤ maxLen := by
  unfold isBs at h
  split at h
  · rename_i x rows
    obtain ⟨l, rfl, hl⟩ := h
    have e : decB (.slice x (l.map fun x => [u8 x])) = l := decB_enc x l
    rw [e]
    exact ⟨PLe.unfull _ _, hl⟩
  · exact ⟨PLe.nil false, by simp [maxLen, decB]⟩
  · exact h.elim
def decK : List PV → Pk
  | [.lit (.int _ f), .lit (.int _ t), d] => ⟨f, t, decB d⟩
  | _ => pk0
def isK : List PV → Prop
  | [.lit (.int .i64 _), .lit (.int .i64 _), d] => isBs d
  | _ => False
/-- A packet whose data are not too long. -/
def okP (p : Pk) : Prop := p.d.length ≤ maxLen
@[simp] theorem decK_row (p : Pk) : decK (rowK p) = p := by simp [decK, rowK]
@[simp] theorem isK_row (p : Pk) : isK (rowK p) = okP p := by simp [isK, rowK, okP]
@[simp] theorem decK_mk (f t : Int) (d : PV) : decK [num f, num t, d] = ⟨f, t, decB d⟩ := rfl
@[simp] theorem isK_mk (f t : Int) (d : PV) : isK [num f, num t, d] = isBs d := rfl
theorem isK_le {r : List PV} (h : isK r) : PLeL r (rowK (decK r)) ∧ okP (decK r) := by
  unfold isK at h
  split at h
  · obtain ⟨h1, h2⟩ := isBs_le h
    exact ⟨.cons (.refl _) (.cons (.refl _) (.cons h1 .nil)), h2⟩
  · exact h.elim
def decQ : PV → List Pk
  | .slice _ rows => rows.map decK
  | _ => []
def isQu : PV → Prop
  | .slice _ rows => (∀ r ∈ rows, isK r) ∧ rows.length ≤ maxLen
  | .lit (.slice none 0 0) => True
  | _ => False
def okQ (l : List Pk) : Prop := (∀ p ∈ l, okP p) ∧ l.length ≤ maxLen
@[simp] theorem decQ_enc (b : Bool) (l : List Pk) : decQ (encQ b l) = l := by
  show (l.map rowK).map decK = l
  rw [List.map_map]; exact List.map_id'' (fun p => decK_row p) l
@[simp] theorem isQu_enc (b : Bool) (l : List Pk) : isQu (encQ b l) = okQ l := by
  show ((∀ r ∈ l.map rowK, isK r) ∧ (l.map rowK).length ≤ maxLen) = _
  simp [okQ]
@[simp] theorem decQ_nil : decQ (.lit (.slice none 0 0)) = [] := rfl
@[simp] theorem isQu_nil : isQu (.lit (.slice none 0 0)) = True := rfl
theorem isQu_le {v : PV} (h : isQu v) : PLe v (encQ false (decQ v)) ∧ okQ (decQ v) := by
  unfold isQu at h
  split at h
  · rename_i b rows
    refine ⟨(PLe.rows (s := (rows.map decK).map rowK) (by simp) fun i hi => ?_).trans (PLe.unfull _ _), fun p hp => ?_, by simpa [decQ] using h.2⟩
    · have hi' : i < rows.length := by simpa using hi
      have e1 : rows.getD i [] = rows[i] := by simp [hi']
      have e2 : ((rows.map decK).map rowK).getD i [] = rowK (decK rows[i]) := by simp [hi']
      rw [e1, e2]
      exact (isK_le (h.1 _ (List.getElem_mem hi'))).1
    · obtain ⟨r, hr, rfl⟩ := List.mem_map.1 hp
      exact (isK_le (h.1 r hr)).2
  · exact ⟨PLe.nil false, by simp [decQ], by simp [decQ, maxLen]⟩
  · exact h.elim
def decL : List PV → Lk
  | [.lit (.int _ x), .lit (.int _ y)] => (x, y)
  | _ => (0, 0)
def decA : PV → List Lk
  | .slice _ rows => rows.map decL
  | _ => []
def isAp : PV → Prop
  | .slice _ rows => ∃ l : List Lk, rows = l.map rowL ∧ l.length ≤ maxLen
  | .lit (.slice none 0 0) => True
  | _ => False
@[simp] theorem decL_row (l : Lk) : decL (rowL l) = l := rfl
@[simp] theorem decA_enc (b : Bool) (l : List Lk) : decA (encA b l) = l := by
  show (l.map rowL).map decL = l
  rw [List.map_map]; exact List.map_id'' (fun p => rfl) l
theorem rowsL_inj : ∀ {l m : List Lk}, l.map rowL = m.map rowL → l = m
  | [], [], _ => rfl
  | s :: l, t :: m, h => by
    simp only [List.map_cons, List.cons.injEq] at h
    have e := congrArg decL h.1
    rw [decL_row, decL_row] at e
    rw [e, rowsL_inj h.2]
@[simp] theorem isAp_enc (b : Bool) (l : List Lk) : isAp (encA b l) = (l.length ≤ maxLen) := propext
  ⟨fun ⟨m, h, hl⟩ => by rw [rowsL_inj h]; exact hl, fun h => ⟨l, rfl, h⟩⟩
@[simp] theorem decA_nil : decA (.lit (.slice none 0 0)) = [] := rfl
@[simp] theorem isAp_nil : isAp (.lit (.slice none 0 0)) = True := rfl
theorem isAp_le {v : PV} (h : isAp v) : PLe v (encA false (decA v)) ∧ (decA v).length ≤ maxLen := by
  unfold isAp at h
  split at h
  · rename_i b rows
    obtain ⟨l, rfl, hl⟩ := h
    have e : decA (.slice b (l.map rowL)) = l := decA_enc b l
    rw [e]
    exact ⟨PLe.unfull _ _, hl⟩
  · exact ⟨PLe.nil false, by simp [maxLen, decA]⟩
  · exact h.elim
def okN (n : Nt) : Prop := okQ n.q ∧ n.a.length ≤ maxLen
def decN : List PV → Nt
  | [q, a] => ⟨decQ q, decA a⟩
  | _ => nt0
def isN : List PV → Prop
  | [q, a] => isQu q ∧ isAp a
  | _ => False
@[simp] theorem decN_mk (q a : PV) : decN [q, a] = ⟨decQ q, decA a⟩ := rfl
@[simp] theorem isN_mk (q a : PV) : isN [q, a] = (isQu q ∧ isAp a) := rfl
@[simp] theorem decN_enc (n : Nt) : decN (netC n) = n := by simp [netC]
@[simp] theorem isN_enc (n : Nt) : isN (netC n) = okN n := by simp [netC, okN]
theorem isN_le {cs : List PV} (h : isN cs) : PLeL cs (netC (decN cs)) ∧ okN (decN cs) := by
  unfold isN at h
  split at h
  · obtain ⟨h1, h2⟩ := isQu_le h.1
    obtain ⟨h3, h4⟩ := isAp_le h.2
    exact ⟨.cons h1 (.cons h3 .nil), h2, h4⟩
  · exact h.elim
end Go.Proofs.Ytgcoikbgpkfcnaa
