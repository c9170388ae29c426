/-
  Trade: how messages and trades lie.
-/
import Derived.Test.YtnjbcaakdfofcaaLb
import Derived.Test.YtnjbcaakdfofcaaRows
import Derived.Test.YtnjbcaakdfofcaaLc
set_option linter.unusedSimpArgs false
set_option linter.unusedVariables false
namespace Go.Proofs.Ytnjbcaakdfofcaa
open Go.Lo

noncomputable abbrev P0 : Program := Try.prog
theorem n_ok : Tab.nil.ok P0 := Tab.nil_ok _
theorem mixed : Try.prog.follows .mixedOrders = true := by kernel_rfl
@[simp] theorem inf3 : inf P0 3 = some (1, false) := by kernel_rfl
@[simp] theorem inf4 : inf P0 4 = some (1, false) := by kernel_rfl
@[simp] theorem inf5 : inf P0 5 = some (1, false) := by kernel_rfl
@[simp] theorem inf22 : inf P0 22 = some (1, false) := by kernel_rfl
@[simp] theorem inf24 : inf P0 24 = some (4, true) := by kernel_rfl
@[simp] theorem inf25 : inf P0 25 = some (1, false) := by kernel_rfl
@[simp] theorem inf26 : inf P0 26 = some (1, false) := by kernel_rfl
@[simp] theorem inf28 : inf P0 28 = some (32, true) := by kernel_rfl
@[simp] theorem inf30 : inf P0 30 = some (43, true) := by kernel_rfl
@[simp] theorem inf34 : inf P0 34 = some (1, false) := by kernel_rfl
@[simp] theorem ixi22 : ixi P0 22 = some (none, 43, true) := by kernel_rfl
@[simp] theorem len22 : lenK P0 22 = .slice := by kernel_rfl
@[simp] theorem len25 : lenK P0 25 = .slice := by kernel_rfl
@[simp] theorem len26 : lenK P0 26 = .slice := by kernel_rfl
@[simp] theorem fld240 : fldT P0 24 0 = some (0, 1, false) := by kernel_rfl
@[simp] theorem fld241 : fldT P0 24 1 = some (1, 1, false) := by kernel_rfl
@[simp] theorem fld242 : fldT P0 24 2 = some (2, 1, false) := by kernel_rfl
@[simp] theorem fld243 : fldT P0 24 3 = some (3, 1, false) := by kernel_rfl
@[simp] theorem fld30_0 : fldT P0 30 0 = some (0, 1, false) := by kernel_rfl
@[simp] theorem fld30_1 : fldT P0 30 1 = some (1, 1, false) := by kernel_rfl
@[simp] theorem fld30_2 : fldT P0 30 2 = some (2, 1, false) := by kernel_rfl
@[simp] theorem fld30_3 : fldT P0 30 3 = some (3, 1, false) := by kernel_rfl
@[simp] theorem fld30_4 : fldT P0 30 4 = some (4, 1, false) := by kernel_rfl
@[simp] theorem fld30_5 : fldT P0 30 5 = some (5, 1, false) := by kernel_rfl
@[simp] theorem fld30_6 : fldT P0 30 6 = some (6, 1, false) := by kernel_rfl
@[simp] theorem fld30_7 : fldT P0 30 7 = some (7, 1, false) := by kernel_rfl
@[simp] theorem fld30_8 : fldT P0 30 8 = some (8, 1, false) := by kernel_rfl
@[simp] theorem fld30_9 : fldT P0 30 9 = some (9, 1, false) := by kernel_rfl
@[simp] theorem fld30_10 : fldT P0 30 10 = some (10, 1, false) := by kernel_rfl
@[simp] theorem fld30_11 : fldT P0 30 11 = some (11, 32, true) := by kernel_rfl
@[simp] theorem zero3 : zeroP P0 3 = some [num 0] := by kernel_rfl
@[simp] theorem zero34 : zeroP P0 34 = some [num 0] := by kernel_rfl
@[simp] theorem zero24 : zeroP P0 24 = some [num 0, .lit (.slice none 0 0), .lit (.slice none 0 0), .lit (.slice none 0 0)] := by kernel_rfl
def z32 : List PV := List.replicate 32 (.lit (.int .u8 0))
def zM : List PV := [num 0, num 0, num 0, num 0, num 0, num 0, num 0, num 0, .lit (.slice none 0 0), .lit (.slice none 0 0), .lit (.slice none 0 0)] ++ z32
@[simp] theorem zero30 : zeroP P0 30 = some zM := by kernel_rfl
@[simp] theorem zero28 : zeroP P0 28 = some z32 := by kernel_rfl
@[simp] theorem isl22 : isSliceT P0 22 = true := by kernel_rfl
@[simp] theorem elem22 : elemB P0 22 = some (168, zM) := by kernel_rfl
@[simp] theorem mapT59 : mapT P0 59 = some (3, 4) := by kernel_rfl
@[simp] theorem keyT3 : keyT P0 3 = true := by kernel_rfl
@[simp] theorem eq28 : eqS P0 28 = some ((List.range 32).map fun i => (i, .int .u8)) := by kernel_rfl
end Go.Proofs.Ytnjbcaakdfofcaa

/-
  Trade: what the functions compute: ranges.
-/
set_option linter.unusedSimpArgs false
set_option linter.unusedVariables false
namespace Go.Proofs.Ytnjbcaakdfofcaa
open Go.Lo

def inR (n a b : Int) : Bool := decide (a ≤ n) && decide (n ≤ b)
def i3 (r : Int → Int → Int → PV) (args : List PV) : EV := match args with
  | [.lit (.int .i64 x), .lit (.int .i64 y), .lit (.int .i64 z)] => ⟨True, r x y z⟩
  | _ => .no
@[simp] theorem i3_mk (r : Int → Int → Int → PV) (x y z : Int) : i3 r [num x, num y, num z] = ⟨True, r x y z⟩ := rfl
theorem i3_fun {f : FuncId} {r : Int → Int → Int → PV} (k : ∀ x y z, PFun P0 f [num x, num y, num z] (r x y z)) (args : List PV) (hd : (i3 r args).D) : PFun P0 f args (i3 r args).V := by
  unfold i3 at hd ⊢
  split at hd
  · exact k _ _ _
  · exact hd.elim
def i1 (r : Int → PV) (args : List PV) : EV := match args with
  | [.lit (.int .i64 x)] => ⟨True, r x⟩
  | _ => .no
@[simp] theorem i1_mk (r : Int → PV) (x : Int) : i1 r [num x] = ⟨True, r x⟩ := rfl
theorem i1_fun {f : FuncId} {r : Int → PV} (k : ∀ x, PFun P0 f [num x] (r x)) (args : List PV) (hd : (i1 r args).D) : PFun P0 f args (i1 r args).V := by
  unfold i1 at hd ⊢
  split at hd
  · exact k _
  · exact hd.elim
theorem in46_ok (n a b : Int) : PFun P0 46 [num n, num a, num b] (bo (inR n a b)) := by
  refine pcalls_body Try.func46 rfl rfl rfl (by show 3 ≤ _; decide) (pwp_go n_ok ?_)
  unfold inR
  by_cases h1 : a ≤ n
  · simp [h1]
  · simp [h1]
theorem in47_ok (n a b : Int) : PFun P0 47 [num n, num a, num b] (bo (inR n a b)) := by
  refine pcalls_body Try.func47 rfl rfl rfl (by show 3 ≤ _; decide) (pwp_go n_ok ?_)
  unfold inR
  by_cases h1 : a ≤ n
  · simp [h1]
  · simp [h1]
def TA : Tab := (Tab.nil.add 46 fun a _ => i3 (fun x y z => bo (inR x y z)) a).add 47 fun a _ => i3 (fun x y z => bo (inR x y z)) a
theorem TA_ok : TA.ok P0 := Tab.add_fun (Tab.add_fun n_ok Try.call46 (i3_fun in46_ok)) Try.call47 (i3_fun in47_ok)
@[simp] theorem TA_dom46 : TA.dom 46 = true := rfl
@[simp] theorem TA_ev46 (a : List PV) (σ : Heap) : TA.ev 46 a σ = i3 (fun x y z => bo (inR x y z)) a := rfl
@[simp] theorem TA_dom47 : TA.dom 47 = true := rfl
@[simp] theorem TA_ev47 (a : List PV) (σ : Heap) : TA.ev 47 a σ = i3 (fun x y z => bo (inR x y z)) a := rfl
def firmR (n : Int) : Bool := inR n 0 11
theorem firm32_ok (n : Int) : PFun P0 32 [num n] (bo (firmR n)) := by
  refine pcalls_body Try.func32 rfl rfl rfl (by show 1 ≤ _; decide) (pwp_go TA_ok ?_)
  simp [firmR]
theorem firm39_ok (n : Int) : PFun P0 39 [num n] (bo (firmR n)) := by
  refine pcalls_body Try.func39 rfl rfl rfl (by show 1 ≤ _; decide) (pwp_go TA_ok ?_)
  simp [firmR]

/-! ### Messages -/
/-- A message: eight numbers, the lengths of three lists, a seal. -/
structure Ms where
  kd : Int
  fr : Int
  to : Int
  no : Int
  it : Int
  am : Int
  dy : Int
  lb : Int
  l1 : Nat
  l2 : Nat
  l3 : Nat
  sl : List Int
  deriving DecidableEq
/-- A slice of which only the length is known. -/
def lenS (k n : Nat) : PV := .slice false (List.replicate n (List.replicate k .any))
@[simp] theorem Lenx_lenS (σ : Heap) (k n : Nat) : Lenx .slice σ (lenS k n) = ⟨True, num n⟩ := by simp [lenS]
@[simp] theorem sv_lenS (k n : Nat) : sv (lenS k n) = lenS k n := rfl
@[simp] theorem avt_lenS (k n : Nat) : avt (lenS k n) = True := rfl
@[simp] theorem cellsP_lenS (k n : Nat) : cellsP (lenS k n) = [lenS k n] := rfl
@[simp] theorem isCell_lenS (k n : Nat) : isCell (lenS k n) = true := rfl
@[simp] theorem isCell1_lenS (k n : Nat) : isCell1 (lenS k n) = true := rfl
def sealC (l : List Int) : List PV := l.map fun x => .lit (.int .u8 x)
end Go.Proofs.Ytnjbcaakdfofcaa

/-
  Trade: what the functions compute: valid messages.
-/
set_option linter.unusedSimpArgs false
set_option linter.unusedVariables false
namespace Go.Proofs.Ytnjbcaakdfofcaa
open Go.Lo

def TB : Tab := (TA.add 32 fun a _ => i1 (fun x => bo (firmR x)) a).add 39 fun a _ => i1 (fun x => bo (firmR x)) a
theorem TB_ok : TB.ok P0 := Tab.add_fun (Tab.add_fun TA_ok Try.call32 (i1_fun firm32_ok)) Try.call39 (i1_fun firm39_ok)
@[simp] theorem TB_dom32 : TB.dom 32 = true := rfl
@[simp] theorem TB_ev32 (a : List PV) (σ : Heap) : TB.ev 32 a σ = i1 (fun x => bo (firmR x)) a := rfl
@[simp] theorem TB_dom39 : TB.dom 39 = true := rfl
@[simp] theorem TB_ev39 (a : List PV) (σ : Heap) : TB.ev 39 a σ = i1 (fun x => bo (firmR x)) a := rfl
@[simp] theorem TB_dom46 : TB.dom 46 = true := rfl
@[simp] theorem TB_ev46 (a : List PV) (σ : Heap) : TB.ev 46 a σ = i3 (fun x y z => bo (inR x y z)) a := rfl
@[simp] theorem TB_dom47 : TB.dom 47 = true := rfl
@[simp] theorem TB_ev47 (a : List PV) (σ : Heap) : TB.ev 47 a σ = i3 (fun x y z => bo (inR x y z)) a := rfl

/-- How a message lies. -/
def rowM (m : Ms) : List PV := num m.kd :: num m.fr :: num m.to :: num m.no :: num m.it :: num m.am :: num m.dy :: num m.lb :: lenS 1 m.l1 :: lenS 1 m.l2 :: lenS 2 m.l3 :: sealC m.sl
def okM (m : Ms) : Prop := m.sl.length = 32 ∧ m.l1 ≤ 8 ∧ m.l2 ≤ 8 ∧ m.l3 ≤ 8
theorem sealC_len (l : List Int) : (sealC l).length = l.length := by simp [sealC]
def begR (m : Ms) : Bool := m.kd == 1 || m.kd == 3
theorem begins28_ok (m : Ms) (hm : okM m) : PFun P0 28 [.agg (rowM m)] (bo (begR m)) := by
  refine pcalls_body Try.func28 rfl rfl rfl (by show 1 ≤ _; decide) (pwp_go TB_ok ?_)
  have hl := sealC_len m.sl
  rw [hm.1] at hl
  simp (config := { contextual := true }) [rowM, hl, begR]
theorem begins31_ok (m : Ms) (hm : okM m) : PFun P0 31 [.agg (rowM m)] (bo (begR m)) := by
  refine pcalls_body Try.func31 rfl rfl rfl (by show 1 ≤ _; decide) (pwp_go TB_ok ?_)
  have hl := sealC_len m.sl
  rw [hm.1] at hl
  simp (config := { contextual := true }) [rowM, hl, begR]
/-- Whether a seal is none. -/
def sealZ (m : Ms) : Bool := m.sl.all fun x => x == 0
def ofR (m : Ms) : Bool := inR m.kd 1 4 && firmR m.fr && firmR m.to && !(m.fr == m.to) && inR m.no 0 4095 && inR m.it 0 31 && inR m.am 1 1048576 && inR m.dy 0 1023 && inR m.lb 0 4095 && ((m.kd == 3 || m.kd == 4) || m.lb == 0) && (m.l1 == 0 && m.l2 == 0 && m.l3 == 0) && sealZ m
@[simp] theorem ixi28 : ixi P0 28 = some (some 32, 1, false) := by kernel_rfl
@[simp] theorem places28 : places P0 28 = none := by kernel_rfl
theorem seal_eq (l : List Int) (hl : l.length = 32) : evBin P0 .eql 28 (.agg (sealC l)) (.agg z32) = ⟨True, bo (l.all fun x => x == 0)⟩ := by
  show evEq P0 28 _ _ = _
  unfold evEq
  rw [eq28]
  have g : ∀ i, i < 32 → (sealC l).getD i .any = .lit (.int .u8 (l.getD i 0)) := fun i hi => by simp [sealC, hl, hi]
  have z : ∀ i, i < 32 → z32.getD i .any = .lit (.int .u8 0) := fun i hi => by unfold z32; rw [List.getD_eq_getElem?_getD, List.getElem?_replicate, if_pos hi]; rfl
  simp only
  congr 1
  · refine eq_true fun x hx => ?_
    obtain ⟨i, hi, rfl⟩ := List.mem_map.1 hx
    have hi := List.mem_range.1 hi
    simp only [g i hi, z i hi]
    exact ⟨rfl, rfl⟩
  · congr 2
    rw [List.all_map, Bool.eq_iff_iff, List.all_eq_true, List.all_eq_true]
    constructor
    · intro h x hx
      obtain ⟨i, hi, rfl⟩ := List.getElem_of_mem hx
      have := h i (List.mem_range.2 (by omega))
      simp only [Function.comp, g i (by omega), z i (by omega)] at this
      simpa [litEq, hi] using this
    · intro h i hi
      have hi := List.mem_range.1 hi
      simp only [Function.comp, g i hi, z i hi]
      have := h _ (List.getElem_mem (show i < l.length by omega))
      simpa [litEq, show i < l.length by omega] using this
set_option maxRecDepth 4000 in
set_option maxHeartbeats 2000000 in
theorem of27_ok (m : Ms) (hm : okM m) : PFun P0 27 [.agg (rowM m)] (bo (ofR m)) := by
  refine pcalls_body Try.func27 rfl rfl rfl (by show 1 ≤ _; decide) (pwp_go TB_ok ?_)
  have hl := sealC_len m.sl
  rw [hm.1] at hl
  obtain ⟨_, k1, k2, k3⟩ := hm
  have w1 : IntKind.i64.wrap ((m.l1 : Int) + m.l2) = (m.l1 : Int) + m.l2 := wrap_i64 (by omega) (by omega)
  have w2 : IntKind.i64.wrap ((m.l1 : Int) + m.l2 + m.l3) = (m.l1 : Int) + m.l2 + m.l3 := wrap_i64 (by omega) (by omega)
  unfold ofR
  cases c1 : inR m.kd 1 4 with
  | false => simp (config := { contextual := true }) [rowM, hl, c1]
  | true =>
  cases c2 : firmR m.fr with
  | false => simp (config := { contextual := true }) [rowM, hl, c1, c2]
  | true =>
  cases c3 : firmR m.to with
  | false => simp (config := { contextual := true }) [rowM, hl, c1, c2, c3]
  | true =>
  cases c4 : (m.fr == m.to) with
  | true => simp (config := { contextual := true }) [rowM, hl, c1, c2, c3, c4]
  | false =>
  cases c5 : inR m.no 0 4095 with
  | false => simp (config := { contextual := true }) [rowM, hl, c1, c2, c3, c4, c5]
  | true =>
  cases c6 : inR m.it 0 31 with
  | false => simp (config := { contextual := true }) [rowM, hl, c1, c2, c3, c4, c5, c6]
  | true =>
  cases c7 : inR m.am 1 1048576 with
  | false => simp (config := { contextual := true }) [rowM, hl, c1, c2, c3, c4, c5, c6, c7]
  | true =>
  cases c8 : inR m.dy 0 1023 with
  | false => simp (config := { contextual := true }) [rowM, hl, c1, c2, c3, c4, c5, c6, c7, c8]
  | true =>
  cases c9 : inR m.lb 0 4095 with
  | false => simp (config := { contextual := true }) [rowM, hl, c1, c2, c3, c4, c5, c6, c7, c8, c9]
  | true =>
  have hs := seal_eq m.sl (by rw [sealC_len] at hl; exact hl)
  have ht : List.take 32 (sealC m.sl) = sealC m.sl := List.take_of_length_le (by omega)
  simp (config := { contextual := true }) [rowM, hl, c1, c2, c3, c4, c5, c6, c7, c8, c9, ht, hs, w1, w2]
  have e : ((m.l1 : Int) + m.l2 + m.l3 == 0) = (m.l1 == 0 && m.l2 == 0 && m.l3 == 0) := by
    rw [Bool.eq_iff_iff]
    simp only [beq_iff_eq, Bool.and_eq_true]
    omega
  rw [e]; unfold sealZ; simp only [Bool.and_assoc]
end Go.Proofs.Ytnjbcaakdfofcaa

/-
  Trade: what the functions compute: valid messages, the reference's.
-/
set_option linter.unusedSimpArgs false
set_option linter.unusedVariables false
namespace Go.Proofs.Ytnjbcaakdfofcaa
open Go.Lo

theorem nb (k : Nat) : ((k : Int) == 0) = (k == 0) := by
  rw [Bool.eq_iff_iff]; simp
set_option maxRecDepth 4000 in
set_option maxHeartbeats 2000000 in
theorem rof30_ok (m : Ms) (hm : okM m) : PFun P0 30 [.agg (rowM m)] (bo (ofR m)) := by
  refine pcalls_body Try.func30 rfl rfl rfl (by show 1 ≤ _; decide) (pwp_go TB_ok ?_)
  have hl := sealC_len m.sl
  rw [hm.1] at hl
  obtain ⟨_, k1, k2, k3⟩ := hm
  unfold ofR
  cases c1 : inR m.kd 1 4 with
  | false => simp (config := { contextual := true }) [rowM, hl, c1]
  | true =>
  cases c2 : firmR m.fr with
  | false => simp (config := { contextual := true }) [rowM, hl, c1, c2]
  | true =>
  cases c3 : firmR m.to with
  | false => simp (config := { contextual := true }) [rowM, hl, c1, c2, c3]
  | true =>
  cases c4 : (m.fr == m.to) with
  | true => simp (config := { contextual := true }) [rowM, hl, c1, c2, c3, c4]
  | false =>
  cases c5 : inR m.no 0 4095 with
  | false => simp (config := { contextual := true }) [rowM, hl, c1, c2, c3, c4, c5]
  | true =>
  cases c6 : inR m.it 0 31 with
  | false => simp (config := { contextual := true }) [rowM, hl, c1, c2, c3, c4, c5, c6]
  | true =>
  cases c7 : inR m.am 1 1048576 with
  | false => simp (config := { contextual := true }) [rowM, hl, c1, c2, c3, c4, c5, c6, c7]
  | true =>
  cases c8 : inR m.dy 0 1023 with
  | false => simp (config := { contextual := true }) [rowM, hl, c1, c2, c3, c4, c5, c6, c7, c8]
  | true =>
  have hs := seal_eq m.sl (by rw [sealC_len] at hl; exact hl)
  have ht : List.take 32 (sealC m.sl) = sealC m.sl := List.take_of_length_le (by omega)
  have hk : (m.kd == 1 || m.kd == 2) = !(m.kd == 3 || m.kd == 4) := by
    simp only [inR, Bool.and_eq_true, decide_eq_true_eq] at c1
    rw [Bool.eq_iff_iff]
    simp only [Bool.or_eq_true, beq_iff_eq, Bool.not_eq_true', Bool.or_eq_false_iff, beq_eq_false_iff_ne, ne_eq]
    omega
  cases g : (m.kd == 3 || m.kd == 4) with
  | true =>
    rw [g] at hk
    simp (config := { contextual := true }) [rowM, hl, c1, c2, c3, c4, c5, c6, c7, c8, hk, ht, hs]
    simp only [nb, Bool.and_assoc, sealZ]
  | false =>
    rw [g] at hk
    cases z : (m.lb == 0) with
    | false =>
      have z' : (m.lb != 0) = true := by simpa using z
      simp (config := { contextual := true }) [rowM, hl, c1, c2, c3, c4, c5, c6, c7, c8, hk, z, z']
    | true =>
      have z' : (m.lb != 0) = false := by simpa using z
      simp (config := { contextual := true }) [rowM, hl, c1, c2, c3, c4, c5, c6, c7, c8, hk, z, z', ht, hs]
      simp only [nb, Bool.and_assoc, sealZ]
end Go.Proofs.Ytnjbcaakdfofcaa

/-
  Trade: what the functions compute: answers, equality.
-/
set_option linter.unusedSimpArgs false
set_option linter.unusedVariables false
namespace Go.Proofs.Ytnjbcaakdfofcaa
open Go.Lo

def ansT (m : Ms) : Ms := { m with kd := IntKind.i64.wrap (m.kd + 1), fr := m.to, to := m.fr }
def ansR (m : Ms) : Ms := { m with kd := if m.kd == 1 then 2 else 4, fr := m.to, to := m.fr }
theorem zM_len : zM.length = 43 := by decide
theorem setR_zM (r : List PV) (h : r.length = 43) : setR zM 0 r = r := by
  unfold setR
  rw [h, List.take_zero, List.nil_append, Nat.zero_add, List.drop_of_length_le (by rw [zM_len]; exact Nat.le_refl _), List.append_nil]
theorem all1_seal (l : List Int) : all1 (sealC l) = True := by
  induction l with
  | nil => simp [sealC]
  | cons x l ih => simp [sealC] at ih ⊢; exact ih
set_option maxRecDepth 4000 in
theorem answer38_ok (m : Ms) (hm : okM m) : PFun P0 38 [.agg (rowM m)] (.agg (rowM (ansT m))) := by
  refine pcalls_body Try.func38 rfl rfl rfl (by show 1 ≤ _; decide) (pwp_go TB_ok ?_)
  have hl := sealC_len m.sl
  rw [hm.1] at hl
  have ht : List.take 32 (sealC m.sl) = sealC m.sl := List.take_of_length_le (by omega)
  simp (config := { contextual := true }) [rowM, hl, ht, ansT, zM_len, setR_zM, all1_seal]
set_option maxRecDepth 4000 in
theorem ranswer40_ok (m : Ms) (hm : okM m) : PFun P0 40 [.agg (rowM m)] (.agg (rowM (ansR m))) := by
  refine pcalls_body Try.func40 rfl rfl rfl (by show 1 ≤ _; decide) (pwp_go TB_ok ?_)
  have hl := sealC_len m.sl
  rw [hm.1] at hl
  have ht : List.take 32 (sealC m.sl) = sealC m.sl := List.take_of_length_le (by omega)
  by_cases h : m.kd = 1
  · simp (config := { contextual := true }) [rowM, hl, ht, ansR, zM_len, setR_zM, all1_seal, h]
  · have h' : (m.kd == 1) = false := by simpa using h
    simp (config := { contextual := true }) [rowM, hl, ht, ansR, zM_len, setR_zM, all1_seal, h, h']
end Go.Proofs.Ytnjbcaakdfofcaa

/-
  Trade: what the functions compute: equality of messages.
-/
set_option linter.unusedSimpArgs false
set_option linter.unusedVariables false
namespace Go.Proofs.Ytnjbcaakdfofcaa
open Go.Lo

@[simp] theorem inf71 : inf P0 71 = some (8, true) := by kernel_rfl
@[simp] theorem ixi71 : ixi P0 71 = none := by kernel_rfl
@[simp] theorem zero71 : zeroP P0 71 = some [num 0, num 0, num 0, num 0, num 0, num 0, num 0, num 0] := by kernel_rfl
@[simp] theorem places71 : places P0 71 = some [(0, 1), (1, 1), (2, 1), (3, 1), (4, 1), (5, 1), (6, 1), (7, 1)] := by kernel_rfl
theorem eq71 : eqS P0 71 = some [(0, .int .i64), (1, .int .i64), (2, .int .i64), (3, .int .i64), (4, .int .i64), (5, .int .i64), (6, .int .i64), (7, .int .i64)] := by kernel_rfl
def nums (m : Ms) : List PV := [num m.kd, num m.fr, num m.to, num m.no, num m.it, num m.am, num m.dy, num m.lb]
def sameT (m n : Ms) : Bool := m.kd == n.kd && m.fr == n.fr && m.to == n.to && m.no == n.no && m.it == n.it && m.am == n.am && m.dy == n.dy && m.lb == n.lb
theorem eq71' (m n : Ms) : evBin P0 .eql 71 (.agg [num m.kd, num m.fr, num m.to, num m.no, num m.it, num m.am, num m.dy, num m.lb]) (.agg [num n.kd, num n.fr, num n.to, num n.no, num n.it, num n.am, num n.dy, num n.lb]) = ⟨True, bo (sameT m n)⟩ := by
  show evEq P0 71 _ _ = _
  unfold evEq
  rw [eq71]
  simp [litFit, litEq, sameT, Bool.and_assoc]
set_option maxRecDepth 4000 in
theorem nums48_ok (m : Ms) (hm : okM m) : PFun P0 48 [.agg (rowM m)] (.agg (nums m)) := by
  refine pcalls_body Try.func48 rfl rfl rfl (by show 1 ≤ _; decide) (pwp_go TB_ok ?_)
  have hl := sealC_len m.sl
  rw [hm.1] at hl
  simp (config := { contextual := true }) [rowM, hl, nums]
end Go.Proofs.Ytnjbcaakdfofcaa

/-
  Trade: messages as arguments: what reads as a message; equality as functions.
-/
set_option linter.unusedSimpArgs false
set_option linter.unusedVariables false
namespace Go.Proofs.Ytnjbcaakdfofcaa
open Go.Lo

/-! ### What reads as a message -/
def lenOf : PV → Nat
  | .slice _ rows => rows.length
  | _ => 0
def isS (k : Nat) : PV → Prop
  | .slice _ rows => (∀ r ∈ rows, r.length = k) ∧ rows.length ≤ 8
  | .lit (.slice none 0 0) => True
  | _ => False
@[simp] theorem lenOf_lenS (k n : Nat) : lenOf (lenS k n) = n := by simp [lenOf, lenS]
@[simp] theorem isS_lenS (k n : Nat) : isS k (lenS k n) = (n ≤ 8) := by
  simp only [isS, lenS, List.length_replicate, eq_iff_iff, and_iff_right_iff_imp]
  exact fun _ r hr => by rw [List.eq_of_mem_replicate hr]; simp
@[simp] theorem lenOf_nil : lenOf (.lit (.slice none 0 0)) = 0 := rfl
@[simp] theorem isS_nil (k : Nat) : isS k (.lit (.slice none 0 0)) = True := rfl
theorem PLe.any' (p : PV) : PLe p .any := fun G W v _ => .any v
theorem isS_le {k : Nat} {v : PV} (h : isS k v) : PLe v (lenS k (lenOf v)) ∧ lenOf v ≤ 8 := by
  unfold isS at h
  split at h
  · rename_i b rows
    refine ⟨?_, h.2⟩
    refine PLe.trans (?_ : PLe (.slice b rows) (.slice b (List.replicate rows.length (List.replicate k .any)))) (PLe.unfull _ _)
    intro G W v hv
    cases hv with
    | nilsl _ base cap hf => exact .nilsl b base cap hf
    | slice _ _ bl off len cap kk cv h1 h2 h3 h4 h5 h6 h7 =>
      subst h1
      refine .slice b _ bl off rows.length cap kk cv (by simp) h2 h3 h4 (fun i hi => ?_) h6 (fun i j hi hj => ?_)
      · have e1 := h5 i hi
        have e2 := h.1 rows[i] (List.getElem_mem hi)
        have e3 : rows.getD i [] = rows[i] := by simp [hi]
        rw [e3] at e1
        simp [List.getD, hi]
        omega
      · have e1 := h5 i hi
        have e2 := h.1 rows[i] (List.getElem_mem hi)
        have e3 : rows.getD i [] = rows[i] := by simp [hi]
        rw [e3] at e1
        have hjk : j < k := by omega
        have : ((List.replicate rows.length (List.replicate k PV.any)).getD i []).getD j .any = .any := by simp [List.getD, hi, hjk]
        rw [this]; exact .any _
  · exact ⟨PLe.nil false, by simp [lenOf]⟩
  · exact h.elim
def numU : PV → Int
  | .lit (.int _ x) => x
  | _ => 0
theorem sealC_dec (l : List Int) : (sealC l).map numU = l := by
  unfold sealC; rw [List.map_map]; exact List.map_id'' (fun _ => rfl) l
def m0 : Ms := ⟨0, 0, 0, 0, 0, 0, 0, 0, 0, 0, 0, List.replicate 32 0⟩
def decM : List PV → Ms
  | .lit (.int _ a0) :: .lit (.int _ a1) :: .lit (.int _ a2) :: .lit (.int _ a3) :: .lit (.int _ a4) :: .lit (.int _ a5) :: .lit (.int _ a6) :: .lit (.int _ a7) :: x :: y :: z :: s => ⟨a0, a1, a2, a3, a4, a5, a6, a7, lenOf x, lenOf y, lenOf z, s.map numU⟩
  | _ => m0
def isM : List PV → Prop
  | .lit (.int .i64 _) :: .lit (.int .i64 _) :: .lit (.int .i64 _) :: .lit (.int .i64 _) :: .lit (.int .i64 _) :: .lit (.int .i64 _) :: .lit (.int .i64 _) :: .lit (.int .i64 _) :: x :: y :: z :: s => isS 1 x ∧ isS 1 y ∧ isS 2 z ∧ ∃ l, s = sealC l ∧ l.length = 32
  | _ => False
theorem sealC_inj {l k : List Int} (h : sealC l = sealC k) : l = k := by
  have := congrArg (List.map numU) h
  rwa [sealC_dec, sealC_dec] at this
@[simp] theorem decM_mk (a0 a1 a2 a3 a4 a5 a6 a7 : Int) (x y z : PV) (l : List Int) : decM (num a0 :: num a1 :: num a2 :: num a3 :: num a4 :: num a5 :: num a6 :: num a7 :: x :: y :: z :: sealC l) = ⟨a0, a1, a2, a3, a4, a5, a6, a7, lenOf x, lenOf y, lenOf z, l⟩ := by
  show Ms.mk _ _ _ _ _ _ _ _ _ _ _ ((sealC l).map numU) = _
  rw [sealC_dec]
@[simp] theorem isM_mk (a0 a1 a2 a3 a4 a5 a6 a7 : Int) (x y z : PV) (l : List Int) : isM (num a0 :: num a1 :: num a2 :: num a3 :: num a4 :: num a5 :: num a6 :: num a7 :: x :: y :: z :: sealC l) = (isS 1 x ∧ isS 1 y ∧ isS 2 z ∧ l.length = 32) := by
  show (isS 1 x ∧ isS 1 y ∧ isS 2 z ∧ ∃ k, sealC l = sealC k ∧ k.length = 32) = _
  refine propext ⟨fun ⟨h1, h2, h3, k, h4, h5⟩ => ⟨h1, h2, h3, by rw [sealC_inj h4]; exact h5⟩, fun ⟨h1, h2, h3, h4⟩ => ⟨h1, h2, h3, l, rfl, h4⟩⟩
@[simp] theorem ms_eta (m : Ms) : Ms.mk m.kd m.fr m.to m.no m.it m.am m.dy m.lb m.l1 m.l2 m.l3 m.sl = m := rfl
theorem isM_le {cs : List PV} (h : isM cs) : PLeL cs (rowM (decM cs)) ∧ okM (decM cs) := by
  unfold isM at h
  split at h
  · obtain ⟨h1, h2, h3, l, rfl, h4⟩ := h
    obtain ⟨p1, q1⟩ := isS_le h1
    obtain ⟨p2, q2⟩ := isS_le h2
    obtain ⟨p3, q3⟩ := isS_le h3
    rw [decM_mk]
    refine ⟨?_, h4, q1, q2, q3⟩
    unfold rowM
    refine .cons (.refl _) (.cons (.refl _) (.cons (.refl _) (.cons (.refl _) (.cons (.refl _) (.cons (.refl _) (.cons (.refl _) (.cons (.refl _) (.cons p1 (.cons p2 (.cons p3 ?_))))))))))
    induction sealC l with
    | nil => exact .nil
    | cons c r ih => exact .cons (.refl _) ih
  · exact h.elim
end Go.Proofs.Ytnjbcaakdfofcaa

/-
  Trade: tables for messages; same, Same.
-/
set_option linter.unusedSimpArgs false
set_option linter.unusedVariables false
namespace Go.Proofs.Ytnjbcaakdfofcaa
open Go.Lo

def m1 (r : Ms → PV) (args : List PV) : EV := match args with
  | [.agg c] => ⟨isM c, r (decM c)⟩
  | _ => .no
@[simp] theorem m1_mk (r : Ms → PV) (c : List PV) : m1 r [.agg c] = ⟨isM c, r (decM c)⟩ := rfl
theorem m1_fun {f : FuncId} {r : Ms → PV} (k : ∀ m, okM m → PFun P0 f [.agg (rowM m)] (r m)) (args : List PV) (hd : (m1 r args).D) : PFun P0 f args (m1 r args).V := by
  unfold m1 at hd ⊢
  split at hd
  · obtain ⟨h1, h2⟩ := isM_le hd
    exact pcalls.args (k _ h2) (.cons (.agg h1) .nil)
  · exact hd.elim
def m2 (r : Ms → Ms → PV) (args : List PV) : EV := match args with
  | [.agg c, .agg d] => ⟨isM c ∧ isM d, r (decM c) (decM d)⟩
  | _ => .no
@[simp] theorem m2_mk (r : Ms → Ms → PV) (c d : List PV) : m2 r [.agg c, .agg d] = ⟨isM c ∧ isM d, r (decM c) (decM d)⟩ := rfl
theorem m2_fun {f : FuncId} {r : Ms → Ms → PV} (k : ∀ m n, okM m → okM n → PFun P0 f [.agg (rowM m), .agg (rowM n)] (r m n)) (args : List PV) (hd : (m2 r args).D) : PFun P0 f args (m2 r args).V := by
  unfold m2 at hd ⊢
  split at hd
  · obtain ⟨h1, h2⟩ := isM_le hd.1
    obtain ⟨h3, h4⟩ := isM_le hd.2
    exact pcalls.args (k _ _ h2 h4) (.cons (.agg h1) (.cons (.agg h3) .nil))
  · exact hd.elim
def TC : Tab := (((((((TB.add 27 fun a _ => m1 (fun m => bo (ofR m)) a).add 28 fun a _ => m1 (fun m => bo (begR m)) a).add 30 fun a _ => m1 (fun m => bo (ofR m)) a).add 31 fun a _ => m1 (fun m => bo (begR m)) a).add 38 fun a _ => m1 (fun m => .agg (rowM (ansT m))) a).add 40 fun a _ => m1 (fun m => .agg (rowM (ansR m))) a).add 48 fun a _ => m1 (fun m => .agg (nums m)) a)
theorem TC_ok : TC.ok P0 := Tab.add_fun (Tab.add_fun (Tab.add_fun (Tab.add_fun (Tab.add_fun (Tab.add_fun (Tab.add_fun TB_ok Try.call27 (m1_fun of27_ok)) Try.call28 (m1_fun begins28_ok)) Try.call30 (m1_fun rof30_ok)) Try.call31 (m1_fun begins31_ok)) Try.call38 (m1_fun answer38_ok)) Try.call40 (m1_fun ranswer40_ok)) Try.call48 (m1_fun nums48_ok)
@[simp] theorem TC_dom48 : TC.dom 48 = true := rfl
@[simp] theorem TC_ev48 (a : List PV) (σ : Heap) : TC.ev 48 a σ = m1 (fun m => .agg (nums m)) a := rfl
theorem same37_ok (m n : Ms) (hm : okM m) (hn : okM n) : PFun P0 37 [.agg (rowM m), .agg (rowM n)] (bo (sameT m n)) := by
  refine pcalls_body Try.func37 rfl rfl rfl (by show 2 ≤ _; decide) (pwp_go TC_ok ?_)
  have hl := sealC_len m.sl
  rw [hm.1] at hl
  have hl2 := sealC_len n.sl
  rw [hn.1] at hl2
  have ht : List.take 32 (sealC m.sl) = sealC m.sl := List.take_of_length_le (by omega)
  have ht2 : List.take 32 (sealC n.sl) = sealC n.sl := List.take_of_length_le (by omega)
  obtain ⟨a1, a2, a3, a4⟩ := hm
  obtain ⟨b1, b2, b3, b4⟩ := hn
  simp (config := { contextual := true }) [rowM]
  intro id2 id3 h
  refine pwp_drawT TC_ok 7 mixed (by kernel_rfl) ?_
  simp [h, hl, hl2, ht, ht2, a1, a2, a3, a4, b1, b2, b3, b4, nums, eq71']
end Go.Proofs.Ytnjbcaakdfofcaa

/-
  Trade: the reference's equality of messages.
-/
set_option linter.unusedSimpArgs false
set_option linter.unusedVariables false
namespace Go.Proofs.Ytnjbcaakdfofcaa
open Go.Lo

def sealE (l k : List Int) : Bool := (List.range 32).all fun i => l.getD i 0 == k.getD i 0
theorem sealE_refl (l : List Int) : sealE l l = true := by simp [sealE]
theorem seal_eq2 (l k : List Int) (hl : l.length = 32) (hk : k.length = 32) : evBin P0 .eql 28 (.agg (sealC l)) (.agg (sealC k)) = ⟨True, bo (sealE l k)⟩ := by
  show evEq P0 28 _ _ = _
  unfold evEq
  rw [eq28]
  have g : ∀ l : List Int, l.length = 32 → ∀ i, i < 32 → (sealC l).getD i .any = .lit (.int .u8 (l.getD i 0)) := fun l hl i hi => by simp [sealC, hl, hi]
  simp only
  congr 1
  · refine eq_true fun x hx => ?_
    obtain ⟨i, hi, rfl⟩ := List.mem_map.1 hx
    have hi := List.mem_range.1 hi
    simp only [g l hl i hi, g k hk i hi]
    exact ⟨rfl, rfl⟩
  · congr 2
    unfold sealE
    rw [List.all_map, Bool.eq_iff_iff, List.all_eq_true, List.all_eq_true]
    constructor <;> intro h i hi <;> have := h i hi <;> have hi := List.mem_range.1 hi <;> simp only [Function.comp, g l hl i hi, g k hk i hi, litEq] at this ⊢ <;> exact this
def sameR (m n : Ms) : Bool := sameT m n && m.l1 == n.l1 && m.l2 == n.l2 && m.l3 == n.l3 && sealE m.sl n.sl
theorem sameR_refl (m : Ms) : sameR m m = true := by simp [sameR, sameT, sealE_refl]
set_option maxRecDepth 4000 in
set_option maxHeartbeats 2000000 in
theorem rsame14_ok (m n : Ms) (hm : okM m) (hn : okM n) : PFun P0 14 [.agg (rowM m), .agg (rowM n)] (bo (sameR m n)) := by
  refine pcalls_body Try.func14 rfl rfl rfl (by show 2 ≤ _; decide) (pwp_go TC_ok ?_)
  have hl := sealC_len m.sl
  rw [hm.1] at hl
  have hl2 := sealC_len n.sl
  rw [hn.1] at hl2
  have ht : List.take 32 (sealC m.sl) = sealC m.sl := List.take_of_length_le (by omega)
  have ht2 : List.take 32 (sealC n.sl) = sealC n.sl := List.take_of_length_le (by omega)
  have he := seal_eq2 m.sl n.sl hm.1 hn.1
  simp (config := { contextual := true }) [rowM, hl, hl2, ht, ht2, he]
  intro _ _ _
  have nb2 : ∀ a b : Nat, ((a : Int) == (b : Int)) = (a == b) := fun a b => by rw [Bool.eq_iff_iff]; simp; omega
  simp only [nb2, sameR, sameT]
end Go.Proofs.Ytnjbcaakdfofcaa

/-
  Trade: few and short messages.
-/
set_option linter.unusedSimpArgs false
set_option linter.unusedVariables false
namespace Go.Proofs.Ytnjbcaakdfofcaa
open Go.Lo

/-- A message of any size. -/
def okM0 (m : Ms) : Prop := m.sl.length = 32 ∧ m.l1 ≤ maxLen ∧ m.l2 ≤ maxLen ∧ m.l3 ≤ maxLen
def fewM (m : Ms) : Bool := decide ((m.l1 : Int) ≤ 8) && decide ((m.l2 : Int) ≤ 8) && decide ((m.l3 : Int) ≤ 8)
theorem fewM_ok {m : Ms} (h : okM0 m) (hf : fewM m = true) : okM m := by
  simp only [fewM, Bool.and_eq_true, decide_eq_true_eq] at hf
  exact ⟨h.1, by omega, by omega, by omega⟩
set_option maxRecDepth 4000 in
theorem few10_ok (m : Ms) (hm : okM0 m) : PFun P0 10 [.agg (rowM m)] (bo (fewM m)) := by
  refine pcalls_body Try.func10 rfl rfl rfl (by show 1 ≤ _; decide) (pwp_go TC_ok ?_)
  have hl := sealC_len m.sl
  rw [hm.1] at hl
  unfold fewM
  simp (config := { contextual := true }) [rowM, hl]
end Go.Proofs.Ytnjbcaakdfofcaa

/-
  Trade: lists of messages; few messages.
-/
set_option linter.unusedSimpArgs false
set_option linter.unusedVariables false
namespace Go.Proofs.Ytnjbcaakdfofcaa
open Go.Lo

def encM (b : Bool) (l : List Ms) : PV := .slice b (l.map rowM)
@[simp] theorem sv_encM (b : Bool) (l : List Ms) : sv (encM b l) = encM b l := rfl
@[simp] theorem avt_encM (b : Bool) (l : List Ms) : avt (encM b l) = True := rfl
@[simp] theorem cellsP_encM (b : Bool) (l : List Ms) : cellsP (encM b l) = [encM b l] := rfl
@[simp] theorem isCell_encM (b : Bool) (l : List Ms) : isCell (encM b l) = true := rfl
@[simp] theorem isCell1_encM (b : Bool) (l : List Ms) : isCell1 (encM b l) = true := rfl
@[simp] theorem Lenx_encM (σ : Heap) (b : Bool) (l : List Ms) : Lenx .slice σ (encM b l) = ⟨True, num l.length⟩ := by simp [encM]
theorem rowM_len {m : Ms} (h : m.sl.length = 32) : (rowM m).length = 43 := by simp [rowM, sealC_len, h]
theorem IAx_encM {b : Bool} {l : List Ms} {k : Nat} (kk : IntKind) (h : k < l.length) (hs : l[k].sl.length = 32) : IAx (some (none, 43, true)) (encM b l) (.lit (.int kk (k : Int))) = ⟨True, .ref (rowM l[k])⟩ := by
  simp [encM, h, rowM_len hs]
/-- A load of a whole message. -/
theorem Lx_rowM {m : Ms} (σ : Heap) (h : m.sl.length = 32) : Lx (some (43, true)) σ (.ref (rowM m)) = ⟨True, .agg (rowM m)⟩ := by
  have := rowM_len h
  simp [this, List.take_of_length_le]
def okL0 (l : List Ms) : Prop := (∀ m ∈ l, okM0 m) ∧ l.length ≤ maxLen
def fewL (l : List Ms) : Bool := l.all fewM && decide ((l.length : Int) ≤ 20)
/-! ### Messages of any size as arguments -/
def isS0 (k : Nat) : PV → Prop
  | .slice _ rows => (∀ r ∈ rows, r.length = k) ∧ rows.length ≤ maxLen
  | _ => False
def TD0 : Tab := TC.add 10 fun a _ => match a with | [.agg c] => ⟨∃ m, c = rowM m ∧ okM0 m, bo (fewM (decM c))⟩ | _ => .no
theorem decM_row (m : Ms) : decM (rowM m) = m := by unfold rowM; rw [decM_mk]; simp
theorem TD0_ok : TD0.ok P0 := Tab.add_fun TC_ok Try.call10 fun args hd => by
  split at hd
  · obtain ⟨m, rfl, hm⟩ := hd
    rw [decM_row]
    exact few10_ok m hm
  · exact hd.elim
@[simp] theorem TD0_dom10 : TD0.dom 10 = true := rfl
theorem TD0_ev10 (m : Ms) (h : okM0 m) (σ : Heap) : TD0.ev 10 [.agg (rowM m)] σ = ⟨True, bo (fewM m)⟩ := by
  show (⟨_, _⟩ : EV) = _
  rw [decM_row]
  congr 1
  exact eq_true ⟨m, rfl, h⟩
theorem fewL_bad {l : List Ms} {k : Nat} (hk : k < l.length) (h : fewM l[k] = false) : fewL l = false := by
  unfold fewL
  have : l.all fewM = false := by rw [List.all_eq_false]; exact ⟨_, List.getElem_mem hk, by rw [h]; simp⟩
  rw [this]; rfl
set_option maxRecDepth 4000 in
theorem fews26_ok (l : List Ms) (hl : okL0 l) : PFun P0 26 [encM false l] (bo (fewL l)) := by
  refine pcalls_body Try.func26 rfl rfl rfl (by show 1 ≤ _; decide) (pwp_go TD0_ok ?_)
  have hlm := hl.2
  unfold maxLen at hlm
  simp
  refine pwp_loop (fun N fr σ => ∃ k : Nat, N = l.length - k ∧ k ≤ l.length ∧ fr 0 = encM false l ∧ fr 3 = num k ∧ ∀ i, (h : i < l.length) → i < k → fewM l[i] = true)
    (N := l.length) ⟨0, by simp⟩ ?_
  rintro N fr σ ⟨k, rfl, hk, e0, e3, hi⟩
  refine pwp_go TD0_ok ?_
  by_cases hlt : k < l.length
  · have wk : IntKind.i64.wrap ((k : Int) + 1) = (k : Int) + 1 := wrap_i64 (by omega) (by omega)
    have hm := hl.1 _ (List.getElem_mem hlt)
    have hx := IAx_encM (b := false) .i64 hlt hm.1
    have hL := fun σ => Lx_rowM (m := l[k]) σ hm.1
    have hE := fun σ => TD0_ev10 l[k] hm σ
    cases hf : fewM l[k] with
    | false =>
      have := fewL_bad hlt hf
      simp [e0, e3, hlt, hx, hL, hE, hf, this]
    | true =>
      simp [e0, e3, hlt, hx, hL, hE, hf, wk]
      exact ⟨l.length - (k + 1), by omega, k + 1, rfl, by omega, by omega, fun i h1 h2 => by
        by_cases e : i = k
        · subst e; exact hf
        · exact hi i h1 (by omega)⟩
  · have ha : l.all fewM = true := by
      rw [List.all_eq_true]
      intro m hm
      obtain ⟨i, h1, rfl⟩ := List.getElem_of_mem hm
      exact hi i h1 (by omega)
    simp [e0, e3, hlt, fewL, ha]
end Go.Proofs.Ytnjbcaakdfofcaa

/-
  Trade: trades; few.
-/
set_option linter.unusedSimpArgs false
set_option linter.unusedVariables false
namespace Go.Proofs.Ytnjbcaakdfofcaa
open Go.Lo

structure Td where
  nx : Int
  pl : List Ms
  rc : List Ms
  dn : List Ms
def tdC (t : Td) : List PV := [num t.nx, encM false t.pl, encM false t.rc, encM false t.dn]
def okT0 (t : Td) : Prop := okL0 t.pl ∧ okL0 t.rc ∧ okL0 t.dn
def decMs : PV → List Ms
  | .slice _ rows => rows.map decM
  | _ => []
@[simp] theorem decMs_enc (b : Bool) (l : List Ms) : decMs (encM b l) = l := by
  show (l.map rowM).map decM = l
  rw [List.map_map]; exact List.map_id'' (fun m => decM_row m) l
def TD : Tab := TD0.add 26 fun a _ => match a with | [v] => ⟨∃ l, v = encM false l ∧ okL0 l, bo (fewL (decMs v))⟩ | _ => .no
theorem TD_ok : TD.ok P0 := Tab.add_fun TD0_ok Try.call26 fun args hd => by
  split at hd
  · obtain ⟨l, rfl, hl⟩ := hd
    rw [decMs_enc]
    exact fews26_ok l hl
  · exact hd.elim
@[simp] theorem TD_dom26 : TD.dom 26 = true := rfl
theorem TD_ev26 (l : List Ms) (h : okL0 l) (σ : Heap) : TD.ev 26 [encM false l] σ = ⟨True, bo (fewL l)⟩ := by
  show (⟨_, _⟩ : EV) = _
  rw [decMs_enc]
  congr 1
  exact eq_true ⟨l, rfl, h⟩
def fewT (t : Td) : Bool := fewL t.pl && fewL t.rc && fewL t.dn
theorem few9_ok (t : Td) (ht : okT0 t) : PFun P0 9 [.agg (tdC t)] (bo (fewT t)) := by
  refine pcalls_body Try.func9 rfl rfl rfl (by show 1 ≤ _; decide) (pwp_go TD_ok ?_)
  obtain ⟨h1, h2, h3⟩ := ht
  have e1 := fun σ => TD_ev26 t.pl h1 σ
  have e2 := fun σ => TD_ev26 t.rc h2 σ
  have e3 := fun σ => TD_ev26 t.dn h3 σ
  unfold fewT
  simp (config := { contextual := true }) [tdC, e1, e2, e3]
end Go.Proofs.Ytnjbcaakdfofcaa

/-
  Trade: equality of lists of messages, of trades.
-/
set_option linter.unusedSimpArgs false
set_option linter.unusedVariables false
namespace Go.Proofs.Ytnjbcaakdfofcaa
open Go.Lo

theorem seal_ext {l k : List Int} (hl : l.length = 32) (hk : k.length = 32) : sealE l k = decide (l = k) := by
  rw [Bool.eq_iff_iff]
  simp only [sealE, List.all_eq_true, List.mem_range, beq_iff_eq, decide_eq_true_eq]
  refine ⟨fun h => List.ext_getElem (by omega) fun i h1 h2 => ?_, fun h i _ => by rw [h]⟩
  have := h i (by omega)
  simpa [h1, h2] using this
theorem sameR_eq {m n : Ms} (hm : okM m) (hn : okM n) : sameR m n = decide (m = n) := by
  unfold sameR
  rw [seal_ext hm.1 hn.1, Bool.eq_iff_iff]
  cases m; cases n
  simp [sameT, and_assoc]
/-- Lists that the contracts take. -/
def okL (l : List Ms) : Prop := (∀ m ∈ l, okM m) ∧ l.length ≤ 100000
def isL (v : PV) : Prop := ∃ l, okL l ∧ ((∃ b, v = encM b l) ∨ (v = .lit (.slice none 0 0) ∧ l = []))
@[simp] theorem decMs_nil : decMs (.lit (.slice none 0 0)) = [] := rfl
@[simp] theorem isL_enc (b : Bool) (l : List Ms) : isL (encM b l) = okL l := by
  refine propext ⟨fun ⟨k, h1, h2⟩ => ?_, fun h => ⟨l, h, .inl ⟨b, rfl⟩⟩⟩
  rcases h2 with ⟨c, e⟩ | ⟨e, _⟩
  · have := congrArg decMs e
    rw [decMs_enc, decMs_enc] at this
    rw [this]; exact h1
  · cases e
theorem okL_nil : okL [] := ⟨by simp, by simp⟩
@[simp] theorem isL_nil : isL (.lit (.slice none 0 0)) = True := eq_true ⟨[], okL_nil, .inr ⟨rfl, rfl⟩⟩
theorem isL_le {v : PV} (h : isL v) : PLe v (encM false (decMs v)) ∧ okL (decMs v) := by
  obtain ⟨l, h1, ⟨b, rfl⟩ | ⟨rfl, rfl⟩⟩ := h
  · rw [decMs_enc]; exact ⟨PLe.unfull _ _, h1⟩
  · exact ⟨PLe.nil false, okL_nil⟩
@[simp] theorem isM_row (m : Ms) : isM (rowM m) = okM m := by unfold rowM; rw [isM_mk]; simp only [isS_lenS, okM]; exact propext ⟨fun ⟨a, b, c, d⟩ => ⟨d, a, b, c⟩, fun ⟨d, a, b, c⟩ => ⟨a, b, c, d⟩⟩
@[simp] theorem decM_row' (m : Ms) : decM (rowM m) = m := decM_row m
theorem ll_fun {f : FuncId} {r : List Ms → List Ms → PV} (k : ∀ a b, okL a → okL b → PFun P0 f [encM false a, encM false b] (r a b)) (args : List PV)
    (hd : (match args with | [x, y] => (⟨isL x ∧ isL y, r (decMs x) (decMs y)⟩ : EV) | _ => .no).D) : PFun P0 f args (match args with | [x, y] => (⟨isL x ∧ isL y, r (decMs x) (decMs y)⟩ : EV) | _ => .no).V := by
  split at hd
  · obtain ⟨h1, h2⟩ := isL_le hd.1
    obtain ⟨h3, h4⟩ := isL_le hd.2
    exact pcalls.args (k _ _ h2 h4) (.cons h1 (.cons h3 .nil))
  · exact hd.elim
@[simp] theorem TC_dom14 : TC.dom 14 = false := rfl
def TE0 : Tab := TD.add 14 fun a _ => m2 (fun m n => bo (decide (m = n))) a
theorem same14_ok (m n : Ms) (hm : okM m) (hn : okM n) : PFun P0 14 [.agg (rowM m), .agg (rowM n)] (bo (decide (m = n))) := by
  rw [← sameR_eq hm hn]; exact rsame14_ok m n hm hn
theorem TE0_ok : TE0.ok P0 := Tab.add_fun TD_ok Try.call14 (m2_fun same14_ok)
@[simp] theorem TE0_dom14 : TE0.dom 14 = true := rfl
@[simp] theorem TE0_ev14 (a : List PV) (σ : Heap) : TE0.ev 14 a σ = m2 (fun m n => bo (decide (m = n))) a := rfl
set_option maxRecDepth 4000 in
theorem sameAll17_ok (a b : List Ms) (ha : okL a) (hb : okL b) : PFun P0 17 [encM false a, encM false b] (bo (decide (a = b))) := by
  refine pcalls_body Try.func17 rfl rfl rfl (by show 2 ≤ _; decide) (pwp_go TE0_ok ?_)
  by_cases hlen : a.length = b.length
  · simp [hlen]
    refine pwp_loop (fun N fr σ => ∃ k : Nat, N = a.length - k ∧ k ≤ a.length ∧ fr 0 = encM false a ∧ fr 1 = encM false b ∧ fr 5 = num k ∧ a.take k = b.take k)
      (N := a.length) ⟨0, by simp⟩ ?_
    rintro N fr σ ⟨k, rfl, hk, e0, e1, e5, hi⟩
    refine pwp_go TE0_ok ?_
    by_cases hlt : k < a.length
    · have hlt' : k < b.length := by omega
      have hx := IAx_encM (b := false) .i64 hlt (ha.1 _ (List.getElem_mem hlt)).1
      have hy := IAx_encM (b := false) .i64 hlt' (hb.1 _ (List.getElem_mem hlt')).1
      have oa := ha.1 _ (List.getElem_mem hlt)
      have ob := hb.1 _ (List.getElem_mem hlt')
      have hL := fun σ => Lx_rowM (m := a[k]) σ oa.1
      have hL' := fun σ => Lx_rowM (m := b[k]) σ ob.1
      have wk := wrap_succ (k := k) (by have := ha.2; omega)
      simp [e0, e1, e5, hlt]
      refine pwp_drawT TE0_ok 9 mixed (by kernel_rfl) ?_
      by_cases he : a[k] = b[k]
      · simp [e0, e1, e5, hlt, hlt', hx, hy, hL, hL', oa, ob, he, wk]
        refine ⟨a.length - (k + 1), by omega, k + 1, rfl, by omega, by omega, ?_⟩
        rw [List.take_succ_eq_append_getElem hlt, List.take_succ_eq_append_getElem hlt', hi, he]
      · have hne : ¬ a = b := fun e => he (by subst e; rfl)
        simp [e0, e1, e5, hlt, hlt', hx, hy, hL, hL', oa, ob, he, wk, hne]
    · have : a = b := by
        rw [← List.take_of_length_le (l := a) (i := k) (by omega), hi, List.take_of_length_le (by omega)]
      subst this
      simp [e0, e1, e5, hlt]
  · have hne : ¬ a = b := fun e => hlen (by rw [e])
    have hI : ¬ ((a.length : Int) = b.length) := by omega
    simp [hlen, hne, hI]

def TE : Tab := TE0.add 17 fun args _ => match args with | [x, y] => (⟨isL x ∧ isL y, bo (decide (decMs x = decMs y))⟩ : EV) | _ => .no
theorem TE_ok : TE.ok P0 := Tab.add_fun TE0_ok Try.call17 (ll_fun (r := fun a b => bo (decide (a = b))) sameAll17_ok)
@[simp] theorem TE_dom17 : TE.dom 17 = true := rfl
@[simp] theorem TE_ev17 (x y : PV) (σ : Heap) : TE.ev 17 [x, y] σ = ⟨isL x ∧ isL y, bo (decide (decMs x = decMs y))⟩ := rfl
def okT (t : Td) : Prop := okL t.pl ∧ okL t.rc ∧ okL t.dn
deriving instance DecidableEq for Td
theorem sameTrade13_ok (a b : Td) (ha : okT a) (hb : okT b) : PFun P0 13 [.agg (tdC a), .agg (tdC b)] (bo (decide (a = b))) := by
  refine pcalls_body Try.func13 rfl rfl rfl (by show 2 ≤ _; decide) (pwp_go TE_ok ?_)
  obtain ⟨a1, a2, a3⟩ := ha
  obtain ⟨b1, b2, b3⟩ := hb
  have e : decide (a = b) = (a.nx == b.nx && decide (a.pl = b.pl) && decide (a.rc = b.rc) && decide (a.dn = b.dn)) := by
    rw [Bool.eq_iff_iff]; cases a; cases b; simp [and_assoc]
  rw [e]
  simp (config := { contextual := true }) [tdC, a1, a2, a3, b1, b2, b3]
end Go.Proofs.Ytnjbcaakdfofcaa

/-
  Trade: plain law of Check; the reference's done; one table.
-/
set_option linter.unusedSimpArgs false
set_option linter.unusedVariables false
namespace Go.Proofs.Ytnjbcaakdfofcaa
open Go.Lo

def allN (p : Nat → Bool) (n : Nat) : Bool := (List.range n).all p
theorem allN_bad {p : Nat → Bool} {n k : Nat} (hk : k < n) (h : p k = false) : allN p n = false := by
  unfold allN; rw [List.all_eq_false]; exact ⟨k, List.mem_range.2 hk, by rw [h]; simp⟩
theorem allN_iff {p : Nat → Bool} {n : Nat} : allN p n = true ↔ ∀ i, i < n → p i = true := by
  unfold allN; simp [List.all_eq_true]
def hasR (l : List Ms) (m : Ms) : Bool := l.any fun o => o.fr == m.fr && o.no == m.no
def hasN (l : List Ms) (no : Int) : Bool := l.any fun o => o.no == no
def plB (id : Int) (l : List Ms) (i : Nat) : Bool := ofR (l.getD i m0) && begR (l.getD i m0) && (l.getD i m0).fr == id && (l.getD i m0).no == (i : Int)
def rcB (id : Int) (l : List Ms) (i : Nat) : Bool := ofR (l.getD i m0) && begR (l.getD i m0) && (l.getD i m0).to == id && !hasR (l.take i) (l.getD i m0)
def dnB (pl l : List Ms) (i : Nat) : Bool := ofR (l.getD i m0) && decide ((l.getD i m0).no < pl.length) && decide (l.getD i m0 = ansR (pl.getD (l.getD i m0).no.toNat m0)) && !hasN (l.take i) (l.getD i m0).no
/-- The lengths are right. -/
def hdB (t : Td) (id : Int) : Bool := firmR id && t.nx == (t.pl.length : Int) && decide ((t.pl.length : Int) ≤ 4096) && decide ((t.rc.length : Int) ≤ 4096) && decide ((t.dn.length : Int) ≤ 4096)
def chk (t : Td) (id : Int) : Bool := hdB t id && allN (plB id t.pl) t.pl.length && allN (rcB id t.rc) t.rc.length && allN (dnB t.pl t.dn) t.dn.length
def chkE (t : Td) (id : Int) : Int := if chk t id then 0 else 480
theorem getD_lt {l : List Ms} {k : Nat} (h : k < l.length) : l.getD k m0 = l[k] := by simp [h]

set_option maxRecDepth 4000 in
theorem done41_ok (l : List Ms) (x : Int) (hl : okL l) : PFun P0 41 [encM false l, num x] (bo (hasN l x)) := by
  refine pcalls_body Try.func41 rfl rfl rfl (by show 2 ≤ _; decide) (pwp_go TE_ok ?_)
  simp
  refine pwp_loop (fun N fr σ => ∃ k : Nat, N = l.length - k ∧ k ≤ l.length ∧ fr 0 = encM false l ∧ fr 1 = num x ∧ fr 5 = num k ∧ ∀ i, (h : i < l.length) → i < k → (l[i].no == x) = false)
    (N := l.length) ⟨0, by simp⟩ ?_
  rintro N fr σ ⟨k, rfl, hk, e0, e1, e5, hi⟩
  refine pwp_go TE_ok ?_
  by_cases hlt : k < l.length
  · have hx := IAx_encM (b := false) .i64 hlt (hl.1 _ (List.getElem_mem hlt)).1
    have wk := wrap_succ (k := k) (by have := hl.2; omega)
    have hr := rowM_len (hl.1 _ (List.getElem_mem hlt)).1
    cases he : (l[k].no == x) with
    | true =>
      have : hasN l x = true := any_yes hlt he
      have he' : l[k].no = x := by simpa using he
      simp [e0, e1, e5, hlt, hx, hr, he, he', this, rowM]
    | false =>
      have he' : ¬ l[k].no = x := by simpa using he
      simp [e0, e1, e5, hlt, hx, hr, he, he', wk, rowM]
      exact ⟨l.length - (k + 1), by omega, k + 1, rfl, by omega, by omega, fun i h1 h2 => by
        by_cases e : i = k
        · subst e; simpa using he
        · simpa using hi i h1 (by omega)⟩
  · have : hasN l x = false := by
      unfold hasN; rw [List.any_eq_false]
      intro m hm
      obtain ⟨i, h1, rfl⟩ := List.getElem_of_mem hm
      rw [hi i h1 (by omega)]; simp
    simp [e0, e1, e5, hlt, this]
def li (r : List Ms → Int → PV) : List PV → EV
  | [x, .lit (.int .i64 n)] => ⟨isL x, r (decMs x) n⟩
  | _ => .no
@[simp] theorem li_mk (r : List Ms → Int → PV) (x : PV) (n : Int) : li r [x, num n] = ⟨isL x, r (decMs x) n⟩ := rfl
theorem li_fun {f : FuncId} {r : List Ms → Int → PV} (k : ∀ l n, okL l → PFun P0 f [encM false l, num n] (r l n)) (args : List PV) (hd : (li r args).D) : PFun P0 f args (li r args).V := by
  unfold li at hd ⊢
  split at hd
  · obtain ⟨h1, h2⟩ := isL_le hd
    exact pcalls.args (k _ _ h2) (.cons h1 (.cons (.refl _) .nil))
  · exact hd.elim
/-! ### Trades as arguments -/
def decT : List PV → Td
  | [.lit (.int _ n), a, b, c] => ⟨n, decMs a, decMs b, decMs c⟩
  | _ => ⟨0, [], [], []⟩
def isT : List PV → Prop
  | [.lit (.int .i64 _), a, b, c] => isL a ∧ isL b ∧ isL c
  | _ => False
@[simp] theorem decT_mk (n : Int) (a b c : PV) : decT [num n, a, b, c] = ⟨n, decMs a, decMs b, decMs c⟩ := rfl
@[simp] theorem isT_mk (n : Int) (a b c : PV) : isT [num n, a, b, c] = (isL a ∧ isL b ∧ isL c) := rfl
@[simp] theorem td_eta (t : Td) : Td.mk t.nx t.pl t.rc t.dn = t := rfl
@[simp] theorem decT_tdC (t : Td) : decT (tdC t) = t := by unfold tdC; rw [decT_mk]; simp
@[simp] theorem isT_tdC (t : Td) : isT (tdC t) = okT t := by unfold tdC; rw [isT_mk]; simp [okT]
theorem isT_le {cs : List PV} (h : isT cs) : PLeL cs (tdC (decT cs)) ∧ okT (decT cs) := by
  unfold isT at h
  split at h
  · obtain ⟨h1, h2, h3⟩ := h
    obtain ⟨p1, q1⟩ := isL_le h1
    obtain ⟨p2, q2⟩ := isL_le h2
    obtain ⟨p3, q3⟩ := isL_le h3
    exact ⟨.cons (.refl _) (.cons p1 (.cons p2 (.cons p3 .nil))), q1, q2, q3⟩
  · exact h.elim
def tt (r : Td → Td → PV) : List PV → EV
  | [.agg c, .agg d] => ⟨isT c ∧ isT d, r (decT c) (decT d)⟩
  | _ => .no
@[simp] theorem tt_mk (r : Td → Td → PV) (c d : List PV) : tt r [.agg c, .agg d] = ⟨isT c ∧ isT d, r (decT c) (decT d)⟩ := rfl
theorem tt_fun {f : FuncId} {r : Td → Td → PV} (k : ∀ t u, okT t → okT u → PFun P0 f [.agg (tdC t), .agg (tdC u)] (r t u)) (args : List PV) (hd : (tt r args).D) : PFun P0 f args (tt r args).V := by
  unfold tt at hd ⊢
  split at hd
  · obtain ⟨h1, h2⟩ := isT_le hd.1
    obtain ⟨h3, h4⟩ := isT_le hd.2
    exact pcalls.args (k _ _ h2 h4) (.cons (.agg h1) (.cons (.agg h3) .nil))
  · exact hd.elim
def ti (r : Td → Int → PV) : List PV → EV
  | [.agg c, .lit (.int .i64 n)] => ⟨isT c, r (decT c) n⟩
  | _ => .no
@[simp] theorem ti_mk (r : Td → Int → PV) (c : List PV) (n : Int) : ti r [.agg c, num n] = ⟨isT c, r (decT c) n⟩ := rfl
theorem ti_fun {f : FuncId} {r : Td → Int → PV} (k : ∀ t n, okT t → PFun P0 f [.agg (tdC t), num n] (r t n)) (args : List PV) (hd : (ti r args).D) : PFun P0 f args (ti r args).V := by
  unfold ti at hd ⊢
  split at hd
  · obtain ⟨h1, h2⟩ := isT_le hd
    exact pcalls.args (k _ _ h2) (.cons (.agg h1) (.cons (.refl _) .nil))
  · exact hd.elim
def TF : Tab := ((TE.add 13 fun a _ => tt (fun t u => bo (decide (t = u))) a).add 37 fun a _ => m2 (fun m n => bo (sameT m n)) a).add 41 fun a _ => li (fun l n => bo (hasN l n)) a
theorem TF_ok : TF.ok P0 := Tab.add_fun (Tab.add_fun (Tab.add_fun TE_ok Try.call13 (tt_fun sameTrade13_ok)) Try.call37 (m2_fun same37_ok)) Try.call41 (li_fun done41_ok)
@[simp] theorem TF_dom13 : TF.dom 13 = true := rfl
@[simp] theorem TF_dom14 : TF.dom 14 = true := rfl
@[simp] theorem TF_dom17 : TF.dom 17 = true := rfl
@[simp] theorem TF_dom27 : TF.dom 27 = true := rfl
@[simp] theorem TF_dom28 : TF.dom 28 = true := rfl
@[simp] theorem TF_dom30 : TF.dom 30 = true := rfl
@[simp] theorem TF_dom31 : TF.dom 31 = true := rfl
@[simp] theorem TF_dom32 : TF.dom 32 = true := rfl
@[simp] theorem TF_dom37 : TF.dom 37 = true := rfl
@[simp] theorem TF_dom38 : TF.dom 38 = true := rfl
@[simp] theorem TF_dom39 : TF.dom 39 = true := rfl
@[simp] theorem TF_dom40 : TF.dom 40 = true := rfl
@[simp] theorem TF_dom41 : TF.dom 41 = true := rfl
@[simp] theorem TF_ev13 (a : List PV) (σ : Heap) : TF.ev 13 a σ = tt (fun t u => bo (decide (t = u))) a := rfl
@[simp] theorem TF_ev14 (a : List PV) (σ : Heap) : TF.ev 14 a σ = m2 (fun m n => bo (decide (m = n))) a := rfl
@[simp] theorem TF_ev17 (x y : PV) (σ : Heap) : TF.ev 17 [x, y] σ = ⟨isL x ∧ isL y, bo (decide (decMs x = decMs y))⟩ := rfl
@[simp] theorem TF_ev27 (a : List PV) (σ : Heap) : TF.ev 27 a σ = m1 (fun m => bo (ofR m)) a := rfl
@[simp] theorem TF_ev28 (a : List PV) (σ : Heap) : TF.ev 28 a σ = m1 (fun m => bo (begR m)) a := rfl
@[simp] theorem TF_ev30 (a : List PV) (σ : Heap) : TF.ev 30 a σ = m1 (fun m => bo (ofR m)) a := rfl
@[simp] theorem TF_ev31 (a : List PV) (σ : Heap) : TF.ev 31 a σ = m1 (fun m => bo (begR m)) a := rfl
@[simp] theorem TF_ev32 (a : List PV) (σ : Heap) : TF.ev 32 a σ = i1 (fun x => bo (firmR x)) a := rfl
@[simp] theorem TF_ev37 (a : List PV) (σ : Heap) : TF.ev 37 a σ = m2 (fun m n => bo (sameT m n)) a := rfl
@[simp] theorem TF_ev38 (a : List PV) (σ : Heap) : TF.ev 38 a σ = m1 (fun m => .agg (rowM (ansT m))) a := rfl
@[simp] theorem TF_ev39 (a : List PV) (σ : Heap) : TF.ev 39 a σ = i1 (fun x => bo (firmR x)) a := rfl
@[simp] theorem TF_ev40 (a : List PV) (σ : Heap) : TF.ev 40 a σ = m1 (fun m => .agg (rowM (ansR m))) a := rfl
@[simp] theorem TF_ev41 (a : List PV) (σ : Heap) : TF.ev 41 a σ = li (fun l n => bo (hasN l n)) a := rfl
end Go.Proofs.Ytnjbcaakdfofcaa

/-
  Trade: the reference's Check.
-/
set_option linter.unusedSimpArgs false
set_option linter.unusedVariables false
namespace Go.Proofs.Ytnjbcaakdfofcaa
open Go.Lo

theorem pwp_gen {P : Program} {rd : Bool} {n : Nat} {c : Code} {Q : PX → Fr → Heap → Prop} {fr : Fr} {σ : Heap} {I : Fr → Heap → Prop} (h : I fr σ) (k : ∀ fr σ, I fr σ → pwp P rd n c Q fr σ) : pwp P rd n c Q fr σ := k _ _ h
@[simp] theorem frzN_encM (n : Nat) (σ : Heap) (l : List Ms) (b : Bool) : frzN n σ (encM b l) = encM b l := by
  have any : ∀ n, frzN n σ .any = .any := fun n => by cases n <;> rfl
  have hS : ∀ n k m, frzN n σ (lenS k m) = lenS k m := fun n k m => by
    cases n with
    | zero => rfl
    | succ n => simp [lenS, frzN, any]
  have hM : ∀ n m, (rowM m).map (frzN n σ) = rowM m := fun n m => by
    simp only [rowM, List.map_cons, frzN_num, hS, sealC, List.map_map, Function.comp_def]
  cases n with
  | zero => rfl
  | succ n => simp only [encM, frzN, List.map_map, Function.comp_def, hM]
@[simp] theorem rowM_0 (m : Ms) (h : 0 < (rowM m).length) : (rowM m)[0] = num m.kd := rfl
@[simp] theorem rowM_1 (m : Ms) (h : 1 < (rowM m).length) : (rowM m)[1] = num m.fr := rfl
@[simp] theorem rowM_2 (m : Ms) (h : 2 < (rowM m).length) : (rowM m)[2] = num m.to := rfl
@[simp] theorem rowM_3 (m : Ms) (h : 3 < (rowM m).length) : (rowM m)[3] = num m.no := rfl
@[simp] theorem rowM_4 (m : Ms) (h : 4 < (rowM m).length) : (rowM m)[4] = num m.it := rfl
@[simp] theorem rowM_5 (m : Ms) (h : 5 < (rowM m).length) : (rowM m)[5] = num m.am := rfl
@[simp] theorem rowM_6 (m : Ms) (h : 6 < (rowM m).length) : (rowM m)[6] = num m.dy := rfl
@[simp] theorem rowM_7 (m : Ms) (h : 7 < (rowM m).length) : (rowM m)[7] = num m.lb := rfl
@[simp] theorem all1_rowM (m : Ms) : all1 (rowM m) = True := by simp [rowM, all1_seal]
theorem Slx_encM0 {σ : Heap} (l : List Ms) (hl : okL l) (k' : IntKind) (y : Nat) (h2 : y ≤ l.length) : Slx (some (none, 43, true)) σ (encM false l) none (some (.lit (.int k' (y : Int)))) none = ⟨True, encM false (l.take y)⟩ := by
  have hr : ∀ r ∈ l.map rowM, r.length = 43 := fun r hr => by
    obtain ⟨m, hm, rfl⟩ := List.mem_map.1 hr
    exact rowM_len (hl.1 m hm).1
  have h3 : (y : Int) ≤ (l.length : Int) := by omega
  simp [encM, Slx_rows, h3, List.map_take]
  exact fun m hm => rowM_len (hl.1 m hm).1
theorem okL_take {l : List Ms} (h : okL l) (n : Nat) : okL (l.take n) := ⟨fun m hm => h.1 m (List.mem_of_mem_take hm), by have := h.2; rw [List.length_take]; omega⟩
theorem ofR_no {m : Ms} (h : ofR m = true) : 0 ≤ m.no ∧ m.no ≤ 4095 := by
  simp only [ofR, inR, Bool.and_eq_true, decide_eq_true_eq] at h
  omega
theorem okM_ansR {m : Ms} (h : okM m) : okM (ansR m) := h
theorem okM_ansT {m : Ms} (h : okM m) : okM (ansT m) := h
set_option maxRecDepth 8000 in
set_option maxHeartbeats 4000000 in
theorem rcheck16_ok (t : Td) (id : Int) (ht : okT t) : PFun P0 16 [.agg (tdC t), num id] (num (chkE t id)) := by
  refine pcalls_body Try.func16 rfl rfl rfl (by show 2 ≤ _; decide) (pwp_goK TF_ok [1] ?_)
  obtain ⟨o1, o2, o3⟩ := ht
  obtain ⟨nx, pl, rc, dn⟩ := t
  simp only at o1 o2 o3
  simp [tdC]
  intro id2
  refine pwpT_go (pwp_frz 1 (Heap.empty.set id2 (.cells [num nx, encM false pl, encM false rc, encM false dn])) (Frz.set Frz.none (by simp)) ?_)
  refine pwp_gen (I := fun fr σ => fr 1 = num id ∧ fr 2 = .ref [num nx, encM false pl, encM false rc, encM false dn] ∧ fr 4 = num 0) ?_ ?_
  · simp
  rintro fr σ ⟨e1, e2, e4⟩
  refine pwp_go TF_ok ?_
  cases hh : hdB ⟨nx, pl, rc, dn⟩ id with
  | false =>
    have hc : chkE ⟨nx, pl, rc, dn⟩ id = 480 := by simp [chkE, chk, hh]
    unfold hdB at hh
    simp only at hh
    simp [e1, e2, e4, hc]
    intro g1 g2 g3 g4 g5
    simp [g1, g2, g3, g4, g5] at hh
  | true =>
    have hh' := hh
    simp only [hdB, Bool.and_eq_true, beq_iff_eq, decide_eq_true_eq] at hh'
    obtain ⟨⟨⟨⟨f1, rfl⟩, f2⟩, f3⟩, f4⟩ := hh'
    have hl1 : pl.length ≤ 4096 := by omega
    have hl2 : rc.length ≤ 4096 := by omega
    have hl3 : dn.length ≤ 4096 := by omega
    have n2 : ¬ ((4096 : Int) < pl.length) := by omega
    have n3 : ¬ ((4096 : Int) < rc.length) := by omega
    have n4 : ¬ ((4096 : Int) < dn.length) := by omega
    simp [e1, e2, e4, f1, n2, n3, n4]
    refine pwp_loop (fun N fr σ => ∃ k : Nat, N = pl.length - k ∧ k ≤ pl.length ∧ fr 1 = num id ∧ fr 2 = .ref [num pl.length, encM false pl, encM false rc, encM false dn] ∧ fr 4 = num 0 ∧ fr 5 = num k ∧ ∀ i, i < k → plB id pl i = true)
      (N := pl.length) ?_ ?_
    · exact ⟨0, by simp [e1, e2, e4]⟩
    clear e1 e2 e4 fr σ
    rintro N fr σ ⟨k, rfl, hk, e1, e2, e4, e5, hi⟩
    refine pwp_go TF_ok ?_
    by_cases hlt : k < pl.length
    · have om := o1.1 _ (List.getElem_mem hlt)
      have hx := IAx_encM (b := false) .i64 hlt om.1
      have hL := fun σ => Lx_rowM (m := pl[k]) σ om.1
      have hr := rowM_len om.1
      have wk := wrap_succ (k := k) (by omega)
      have ht : List.take 43 (rowM pl[k]) = rowM pl[k] := List.take_of_length_le (by omega)
      obtain ⟨m, hm⟩ : ∃ m, pl[k] = m := ⟨_, rfl⟩
      have hp : plB id pl k = (ofR m && begR m && m.fr == id && m.no == (k : Int)) := by unfold plB; rw [getD_lt hlt, hm]
      rw [hm] at om hx hL hr ht
      cases hpb : plB id pl k with
      | false =>
        have hc : chkE ⟨pl.length, pl, rc, dn⟩ id = 480 := by
          have := allN_bad (p := plB id pl) hlt hpb
          simp [chkE, chk, this]
        rw [hp] at hpb
        simp (config := { contextual := true }) [e1, e2, e4, e5, hlt, hx, hL, hr, ht, om, hc, zM_len, setR_zM]
        intro id3 _ q1 q2 q3 q4
        simp [q1, q2, q3, q4] at hpb
      | true =>
        have hpb' := hpb
        rw [hp] at hpb
        simp only [Bool.and_eq_true, beq_iff_eq] at hpb
        obtain ⟨⟨⟨q1, q2⟩, q3⟩, q4⟩ := hpb
        simp (config := { contextual := true }) [e1, e2, e4, e5, hlt, hx, hL, hr, ht, om, q1, q2, q3, q4, wk, zM_len, setR_zM]
        exact fun _ _ => ⟨pl.length - (k + 1), by omega, k + 1, rfl, by omega, by omega, fun i h1 => by
          by_cases e : i = k
          · subst e; exact hpb'
          · exact hi i (by omega)⟩
    · have P1 : allN (plB id pl) pl.length = true := allN_iff.2 fun i h => hi i (by omega)
      clear hi hk
      simp [e1, e2, e4, e5, hlt]
      refine pwp_loop (fun N fr σ => ∃ k : Nat, N = rc.length - k ∧ k ≤ rc.length ∧ fr 1 = num id ∧ fr 2 = .ref [num pl.length, encM false pl, encM false rc, encM false dn] ∧ fr 4 = num 0 ∧ fr 7 = num k ∧ ∀ i, i < k → rcB id rc i = true)
        (N := rc.length) ?_ ?_
      · exact ⟨0, by simp [e1, e2, e4]⟩
      clear e1 e2 e4 e5 hlt fr σ k
      rintro N fr σ ⟨k, rfl, hk, e1, e2, e4, e7, hi⟩
      refine pwp_go TF_ok ?_
      by_cases hlt : k < rc.length
      · have om := o2.1 _ (List.getElem_mem hlt)
        have hx := IAx_encM (b := false) .i64 hlt om.1
        have hL := fun σ => Lx_rowM (m := rc[k]) σ om.1
        have hr := rowM_len om.1
        have wk := wrap_succ (k := k) (by omega)
        have ht : List.take 43 (rowM rc[k]) = rowM rc[k] := List.take_of_length_le (by omega)
        obtain ⟨m, hm⟩ : ∃ m, rc[k] = m := ⟨_, rfl⟩
        have hp : rcB id rc k = (ofR m && begR m && m.to == id && !hasR (rc.take k) m) := by unfold rcB; rw [getD_lt hlt, hm]
        rw [hm] at om hx hL hr ht
        cases hq : ofR m && begR m && m.to == id with
        | false =>
          have hc : chkE ⟨pl.length, pl, rc, dn⟩ id = 480 := by
            have := allN_bad (p := rcB id rc) hlt (by rw [hp, hq]; rfl)
            simp [chkE, chk, this]
          simp (config := { contextual := true }) [e1, e2, e4, e7, hlt, hx, hL, hr, ht, om, hc, zM_len, setR_zM]
          intro id3 _ q1 q2 q3
          simp [q1, q2, q3] at hq
        | true =>
          have hq' := hq
          simp only [Bool.and_eq_true, beq_iff_eq] at hq
          obtain ⟨⟨q1, q2⟩, q3⟩ := hq
          rw [hq', Bool.true_and] at hp
          simp (config := { contextual := true }) [e1, e2, e4, e7, hlt, hx, hL, hr, ht, om, q1, q2, q3, zM_len, setR_zM]
          intro id8 h8
          refine pwp_loop (fun N fr σ => ∃ j : Nat, N = k - j ∧ j ≤ k ∧ fr 1 = num id ∧ fr 2 = .ref [num pl.length, encM false pl, encM false rc, encM false dn] ∧ fr 4 = num 0 ∧ fr 7 = num k ∧ fr 8 = .ptr id8 0 ∧ σ id8 = some (.cells (rowM m)) ∧ fr 9 = num j ∧ ∀ i, (h : i < rc.length) → i < j → (rc[i].fr == m.fr && rc[i].no == m.no) = false)
            (N := k) ?_ ?_
          · exact ⟨0, by simp [e1, e2, e4, e7]⟩
          clear e1 e2 e4 e7 h8 fr σ
          rintro N fr σ ⟨j, rfl, hj, e1, e2, e4, e7, e8, s8, e9, hi2⟩
          refine pwp_go TF_ok ?_
          by_cases hjk : j < k
          · have hjl : j < rc.length := by omega
            have oj := o2.1 _ (List.getElem_mem hjl)
            have hxj := IAx_encM (b := false) .i64 hjl oj.1
            have hrj := rowM_len oj.1
            have wj := wrap_succ (k := j) (by omega)
            simp [e1, e2, e4, e7, e8, e9, hjk]
            refine pwp_drawT TF_ok 19 mixed (by kernel_rfl) ?_
            cases c1 : rc[j].fr == m.fr with
            | false =>
              simp [e1, e2, e4, e7, e8, s8, e9, hjk, hxj, hr, hrj, c1, wj]
              refine ⟨k - (j + 1), by omega, j + 1, rfl, by omega, by omega, fun i h1 h2 h3 => ?_⟩
              by_cases e : i = j
              · subst e; rw [h3] at c1; simp at c1
              · have := hi2 i h1 (by omega)
                rw [h3] at this; simpa using this
            | true =>
              have c1' : rc[j].fr = m.fr := by simpa using c1
              cases c2 : rc[j].no == m.no with
              | false =>
                have c2' : ¬ rc[j].no = m.no := by simpa using c2
                simp [e1, e2, e4, e7, e8, s8, e9, hjk, hxj, hr, hrj, c1, c2, c1', c2', wj]
                refine ⟨k - (j + 1), by omega, j + 1, rfl, by omega, by omega, fun i h1 h2 h3 => ?_⟩
                by_cases e : i = j
                · subst e; exact c2'
                · have := hi2 i h1 (by omega)
                  rw [h3] at this; simpa using this
              | true =>
                have c2' : rc[j].no = m.no := by simpa using c2
                have hH : hasR (rc.take k) m = true := by
                  unfold hasR
                  refine List.any_eq_true.2 ⟨rc[j], List.mem_take_iff_getElem.2 ⟨j, by omega, rfl⟩, by rw [c1, c2]; rfl⟩
                have hc : chkE ⟨pl.length, pl, rc, dn⟩ id = 480 := by
                  have := allN_bad (p := rcB id rc) hlt (by rw [hp, hH]; rfl)
                  simp [chkE, chk, this]
                simp [e1, e2, e4, e7, e8, s8, e9, hjk, hxj, hr, hrj, c1, c2, c1', c2', hc]
          · have hH : hasR (rc.take k) m = false := by
              unfold hasR; rw [List.any_eq_false]
              intro o ho
              obtain ⟨i, h1, rfl⟩ := List.mem_take_iff_getElem.1 ho
              rw [hi2 i (by omega) (by omega)]; simp
            rw [hH] at hp
            simp [e1, e2, e4, e7, e8, e9, hjk, wk]
            exact ⟨rc.length - (k + 1), by omega, k + 1, rfl, by omega, by omega, fun i h1 => by
              by_cases e : i = k
              · subst e; exact hp
              · exact hi i (by omega)⟩
      · have P2 : allN (rcB id rc) rc.length = true := allN_iff.2 fun i h => hi i (by omega)
        clear hi hk
        simp [e1, e2, e4, e7, hlt]
        refine pwp_loop (fun N fr σ => ∃ k : Nat, N = dn.length - k ∧ k ≤ dn.length ∧ fr 1 = num id ∧ fr 2 = .ref [num pl.length, encM false pl, encM false rc, encM false dn] ∧ fr 4 = num 0 ∧ fr 10 = num k ∧ ∀ i, i < k → dnB pl dn i = true)
          (N := dn.length) ?_ ?_
        · exact ⟨0, by simp [e1, e2, e4]⟩
        clear e1 e2 e4 e7 hlt fr σ k
        rintro N fr σ ⟨k, rfl, hk, e1, e2, e4, e10, hi⟩
        refine pwp_go TF_ok ?_
        by_cases hlt : k < dn.length
        · have om := o3.1 _ (List.getElem_mem hlt)
          have hx := IAx_encM (b := false) .i64 hlt om.1
          have hL := fun σ => Lx_rowM (m := dn[k]) σ om.1
          have hr := rowM_len om.1
          have wk := wrap_succ (k := k) (by omega)
          have ht : List.take 43 (rowM dn[k]) = rowM dn[k] := List.take_of_length_le (by omega)
          obtain ⟨m, hm⟩ : ∃ m, dn[k] = m := ⟨_, rfl⟩
          have hp : dnB pl dn k = (ofR m && decide (m.no < pl.length) && decide (m = ansR (pl.getD m.no.toNat m0)) && !hasN (dn.take k) m.no) := by unfold dnB; rw [getD_lt hlt, hm]
          rw [hm] at om hx hL hr ht
          have bad : dnB pl dn k = false → chkE ⟨pl.length, pl, rc, dn⟩ id = 480 := fun h => by
            have := allN_bad (p := dnB pl dn) hlt h
            simp [chkE, chk, this]
          simp (config := { contextual := true }) [e1, e2, e4, e10, hlt, hx, hL, hr, ht, om, zM_len, setR_zM]
          intro id11 h11
          refine pwp_drawT TF_ok 31 mixed (by kernel_rfl) ?_
          cases c1 : ofR m with
          | false =>
            have hc := bad (by rw [hp, c1]; rfl)
            simp [e1, e2, e4, e10, hr, ht, om, c1, hc]
          | true =>
          obtain ⟨n, hn⟩ : ∃ n : Nat, m.no = n := ⟨m.no.toNat, by have := ofR_no c1; omega⟩
          by_cases c2 : n < pl.length
          · have op := o1.1 _ (List.getElem_mem c2)
            have hxp := IAx_encM (b := false) .i64 c2 op.1
            have hLp := fun σ => Lx_rowM (m := pl[n]) σ op.1
            have hg : pl.getD m.no.toNat m0 = pl[n] := by rw [hn, Int.toNat_natCast, getD_lt c2]
            have oa := okM_ansR op
            have hsl := fun σ => Slx_encM0 (σ := σ) dn o3 .i64 k (by omega)
            have otk := okL_take o3 k
            have c2i : ¬ ((pl.length : Int) ≤ n) := by omega
            by_cases c3 : m = ansR pl[n]
            · have c3' : (decide (m = ansR pl[n])) = true := by simpa using c3
              cases c4 : hasN (dn.take k) m.no with
              | true =>
                have hc := bad (by rw [hp, c4]; simp)
                rw [hn] at c4
                simp [e1, e2, e4, e10, h11, hr, ht, om, c1, hn, c2, c2i, hxp, hLp, op, oa, c3', c4, hsl, otk, hc]
              | false =>
                have hpt : dnB pl dn k = true := by rw [hp, c4, c1, hg, c3']; simp [hn, c2]
                rw [hn] at c4
                simp [e1, e2, e4, e10, h11, hr, ht, om, c1, hn, c2, c2i, hxp, hLp, op, oa, c3', c4, hsl, otk, wk]
                exact ⟨dn.length - (k + 1), by omega, k + 1, rfl, by omega, by omega, fun i h1 => by
                  by_cases e : i = k
                  · subst e; exact hpt
                  · exact hi i (by omega)⟩
            · have c3' : (decide (m = ansR pl[n])) = false := by simpa using c3
              have hc := bad (by rw [hp, hg, c3']; simp)
              simp [e1, e2, e4, e10, h11, hr, ht, om, c1, hn, c2, c2i, hxp, hLp, op, oa, c3', hsl, otk, hc]
          · have hc := bad (by rw [hp, hn]; simp [show ¬ n < pl.length from c2])
            have c2i : (pl.length : Int) ≤ n := by omega
            simp [e1, e2, e4, e10, h11, hr, ht, om, c1, hn, c2i, hc]
        · have P3 : allN (dnB pl dn) dn.length = true := allN_iff.2 fun i h => hi i (by omega)
          have hc : chkE ⟨pl.length, pl, rc, dn⟩ id = 0 := by simp [chkE, chk, hh, P1, P2, P3]
          simp [e1, e2, e4, e10, hlt, hc]
end Go.Proofs.Ytnjbcaakdfofcaa

/-
  Trade: slices.Clone; Place and Take as plain functions.
-/
set_option linter.unusedSimpArgs false
set_option linter.unusedVariables false
namespace Go.Proofs.Ytnjbcaakdfofcaa
open Go.Lo

theorem und22 : P0.underlying 22 = some (.slice 30) := by kernel_rfl
@[simp] theorem elemOk22 : elemOk P0 22 = true := by kernel_rfl
theorem rows_len {l : List Ms} (hl : okL l) : ∀ r ∈ l.map rowM, r.length = 43 := fun r hr => by
  obtain ⟨m, hm, rfl⟩ := List.mem_map.1 hr
  exact rowM_len (hl.1 m hm).1
theorem rows_one {l : List Ms} (hl : okL l) : ∀ r ∈ l.map rowM, r.length = 43 ∧ ∀ c ∈ r, isCell1 c = true := fun r hr => by
  refine ⟨rows_len hl r hr, ?_⟩
  obtain ⟨m, hm, rfl⟩ := List.mem_map.1 hr
  rw [← all1_iff, all1_rowM]; trivial
/-- A list of one's own, in new memory. -/
def CloneK (l : List Ms) (σ : Heap) (o : Out) (σ' : Heap) : Prop := ∃ V, o = .val V ∧ Own 43 σ' V (l.map rowM) ∧ (∀ j, σ j ≠ none → σ' j = σ j) ∧ ∀ id k off len full, V = .msl id k off len full → σ id = none
theorem clone29_ok (l : List Ms) (hl : okL l) (σ : Heap) : pcalls P0 29 [encM false l] σ (CloneK l σ) := by
  refine pcalls_body Try.func29 rfl rfl rfl (by show 1 ≤ _; decide) (pwp_goK TF_ok [1] ?_)
  simp
  refine pwpT_go (pwp_region ?_)
  refine pops_quiet rfl rfl (qop_of_evc TF_ok (by simp [evc_evo])) ?_
  refine pops_gop (by simp [gval]) rfl (gop_sliceNil (b := false) (rows := l.map rowM) rfl (by simp [evc_evo]) (by simp) und22 (by simp [evc_evo]; rfl) (by simp) ?_)
  intro c hc
  refine pops_nil ?_
  simp
  cases c with
  | true =>
    have hl0 : l = [] := by
      cases l with
      | nil => rfl
      | cons a r => exact absurd (hc (by simp)) (by simp)
    subst hl0
    simp
    exact ⟨_, rfl, Own.nil _ _, fun _ _ => rfl, fun id k off len full e => by cases e⟩
  | false =>
    simp
    have hkeep : ∀ {σ' : Heap}, Keeps (.slice true []) σ σ' → ∀ j, σ j ≠ none → σ' j = σ j := fun h j hj => h j hj fun k off len full e => by cases e
    cases l with
    | nil =>
      have hz : zM ≠ [] := by intro e; have := congrArg List.length e; rw [zM_len] at this; simp at this
      simp only [APP, appendP, elem22, encM, List.map_nil, yv, zM_len]
      simp [hz]
      exact ⟨_, rfl, Own.full 43 _ (by simp), fun _ _ => rfl, fun id k off len full e => by cases e⟩
    | cons a r =>
      refine own_appendF (k := 43) (b := 168) (rows := []) (new := (a :: r).map rowM) (zs := zM) (Own.full 43 _ (by simp)) elem22 (by decide) zM_len (by decide) isl22 (yv_row (rows_len hl)) (rows_one hl) (by have := hl.2; simp at this ⊢; omega) ?_
      intro V σ' hV hK hid
      obtain ⟨v1, v2⟩ := hV.sv
      obtain ⟨id, e, _, hn⟩ := hid (by simp)
      simp [v1, v2]
      exact ⟨V, rfl, by simpa using hV, hkeep hK, fun id' k off len full e' => by rw [e] at e'; cases e'; exact hn⟩

/-- The first part of a copy that grows. -/
theorem app_first {l : List Ms} (hl : okL l) {σ : Heap} {C : PV → Heap → Prop} {t : TgV C} (hC : ∀ V σ', Own 43 σ' V (l.map rowM) → (∀ j, σ j ≠ none → σ' j = σ j) → (∀ j cs, σ j = some (.cells cs) → cs ≠ [] → ∀ k off len full, V ≠ .msl j k off len full) → C V σ') :
    APP P0 σ 22 22 (.slice true []) (encM false l) C t := by
  refine own_appendF (k := 43) (b := 168) (rows := []) (new := l.map rowM) (zs := zM) (Own.full 43 _ (by simp)) elem22 (by decide) zM_len (by decide) isl22 (yv_row (rows_len hl)) (rows_one hl) (by have := hl.2; simp at this ⊢; omega) ?_
  intro V σ' hV hK hid
  have hkeep : ∀ j, σ j ≠ none → σ' j = σ j := fun j hj => hK j hj fun k off len full e => by cases e
  refine hC V σ' (by simpa using hV) hkeep fun j cs hj hne => ?_
  cases l with
  | nil => exact Own.ne hV (by rw [hkeep j (by rw [hj]; simp)]; exact hj) (by simpa using hne)
  | cons a r =>
    obtain ⟨id, e, _, hn⟩ := hid (by simp)
    intro k off len full e'
    rw [e] at e'; cases e'
    rw [hj] at hn; cases hn
theorem app_more {l : List Ms} {m : Ms} (hl : okL l) (hm : okM m) {σ : Heap} {V : PV} (hV : Own 43 σ V (l.map rowM)) {C : PV → Heap → Prop} {t : TgV C} (hC : ∀ id σ', frs σ id → σ' id = some (.cells ((l ++ [m]).map rowM).flatten) → Keeps V σ σ' → C (.msl id 43 0 (l.length + 1) false) σ') :
    APP P0 σ 22 22 V (.slice true [rowM m]) C t := by
  have h1 : ∀ r ∈ [rowM m], r.length = 43 ∧ ∀ c ∈ r, isCell1 c = true := fun r hr => by
    rw [List.mem_singleton.1 hr]
    exact ⟨rowM_len hm.1, by rw [← all1_iff, all1_rowM]; trivial⟩
  refine own_appendF (k := 43) (b := 168) (rows := l.map rowM) (new := [rowM m]) (zs := zM) hV elem22 (by decide) zM_len (by decide) isl22 (yv_row fun r hr => (h1 r hr).1) h1 (by have := hl.2; simp; omega) ?_
  intro V' σ' hV' hK hid
  obtain ⟨id, rfl, h2, h3⟩ := hid (by simp)
  have := hC id σ' h3 (by simpa using h2) hK
  simpa using this
theorem keepC {σ σ' : Heap} (hk : ∀ j, σ j ≠ none → σ' j = σ j) {id : Nat} {x : PObj} (h : σ id = some x) : σ' id = some x := by rw [hk id (by rw [h]; simp)]; exact h
theorem keepV {V : PV} {σ σ' : Heap} (hk : Keeps V σ σ') {id : Nat} {x : PObj} (h : σ id = some x) (hn : ∀ k off len full, V ≠ .msl id k off len full) : σ' id = some x := by rw [hk id (by rw [h]; simp) hn]; exact h
theorem frzN_rowM (n : Nat) (σ : Heap) (m : Ms) : (rowM m).map (frzN n σ) = rowM m := by
  have any : ∀ n, frzN n σ .any = .any := fun n => by cases n <;> rfl
  have hS : ∀ n k m, frzN n σ (lenS k m) = lenS k m := fun n k m => by
    cases n with
    | zero => rfl
    | succ n => simp [lenS, frzN, any]
  simp only [rowM, List.map_cons, frzN_num, hS, sealC, List.map_map, Function.comp_def]
theorem chunkM {l : List Ms} (hl : okL l) (n : Nat) (σ : Heap) (full : Bool) : PV.slice full (chunks 43 l.length ((l.map rowM).flatten.map (frzN n σ))) = encM full l := by
  have e : (l.map rowM).flatten.map (frzN n σ) = (l.map rowM).flatten := by
    rw [List.map_flatten, List.map_map]
    congr 1
    exact List.map_congr_left fun m _ => frzN_rowM n σ m
  have h := Go.Lo.chunks_flatten (l.map rowM) (rows_len hl)
  rw [List.length_map] at h
  rw [e, h]
  rfl
theorem chunkM' {l : List Ms} (hl : okL l) (n : Nat) (σ : Heap) (full : Bool) : PV.slice full (chunks 43 l.length ((l.map (List.map (frzN n σ) ∘ rowM)).flatten)) = encM full l := by
  rw [← chunkM hl n σ full, List.map_flatten, List.map_map]
theorem flat_len {l : List Ms} (hl : okL l) : (l.map rowM).flatten.length = l.length * 43 := by
  have := (flatten_getD (rows_len hl)).1
  simpa using this

/-! ### Place and Take -/
def t0 : Td := ⟨0, [], [], []⟩
def tdZ : List PV := [num 0, .lit (.slice none 0 0), .lit (.slice none 0 0), .lit (.slice none 0 0)]
theorem tdZ_le : PLeL tdZ (tdC t0) := .cons (.refl _) (.cons (PLe.nil false) (.cons (PLe.nil false) (.cons (PLe.nil false) .nil)))
theorem PLeL.refl' : ∀ l, PLeL l l
  | [] => .nil
  | _ :: l => .cons (.refl _) (PLeL.refl' l)
theorem z32_eq : z32 = sealC (List.replicate 32 0) := by simp [z32, sealC]
theorem zM_le : PLeL zM (rowM m0) := by
  have e : rowM m0 = [num 0, num 0, num 0, num 0, num 0, num 0, num 0, num 0, lenS 1 0, lenS 1 0, lenS 2 0] ++ z32 := by rw [z32_eq]; rfl
  rw [e]
  unfold zM
  exact .cons (.refl _) (.cons (.refl _) (.cons (.refl _) (.cons (.refl _) (.cons (.refl _) (.cons (.refl _) (.cons (.refl _) (.cons (.refl _) (.cons (PLe.nil false) (.cons (PLe.nil false) (.cons (PLe.nil false) (PLeL.refl' _)))))))))))
theorem okM_m0 : okM m0 := by simp [okM, m0]
theorem okT_t0 : okT t0 := ⟨okL_nil, okL_nil, okL_nil⟩
theorem okL_app {l : List Ms} {m : Ms} (h : okL l) (hm : okM m) (hl : l.length ≤ 4096) : okL (l ++ [m]) := by
  refine ⟨fun x hx => ?_, by simp; omega⟩
  rcases List.mem_append.1 hx with hx | hx
  · exact h.1 x hx
  · rw [List.mem_singleton.1 hx]; exact hm
def plM (t : Td) (m : Ms) : Ms := { m with no := t.nx }
def plT (t : Td) (m : Ms) : Td := { t with nx := t.nx + 1, pl := t.pl ++ [plM t m] }
def placeN (t : Td) (m : Ms) : Td × Ms × Int :=
  if chk t m.fr then (if t.nx = 4096 then (t0, m0, 2) else if ofR (plM t m) && begR (plM t m) then (plT t m, plM t m, 0) else (t0, m0, 480)) else (t0, m0, 480)
def placeV (t : Td) (m : Ms) : PV := .tup [.agg (tdC (placeN t m).1), .agg (rowM (placeN t m).2.1), num (placeN t m).2.2]
theorem pfun_wk {f : FuncId} {args : List PV} {r r' : PV} (h : PFun P0 f args r) (hle : PLe r r') : PFun P0 f args r' :=
  pcalls.wk (h.mono fun o _ e => ⟨r, e, hle⟩)
theorem placeZ_le (e : Int) : PLe (.tup [.agg tdZ, .agg zM, num e]) (.tup [.agg (tdC t0), .agg (rowM m0), num e]) := .tup (.cons (.agg tdZ_le) (.cons (.agg zM_le) (.cons (.refl _) .nil)))
def takeN (t : Td) (m : Ms) (id : Int) : Td × List Ms × Bool × Int :=
  if chk t id then
    if ofR m && m.to == id then
      if begR m then
        match t.rc.find? (fun o => o.fr == m.fr && o.no == m.no) with
        | some o => if o = m then (t, [ansR m], false, 0) else (t0, [], false, 480)
        | none => if t.rc.length = 4096 then (t0, [], false, 2) else ({ t with rc := t.rc ++ [m] }, [ansR m], true, 0)
      else if m.no < t.pl.length ∧ m = ansR (t.pl.getD m.no.toNat m0) then
        if hasN t.dn m.no then (t, [], false, 0) else ({ t with dn := t.dn ++ [m] }, [], true, 0)
      else (t0, [], false, 480)
    else (t0, [], false, 480)
  else (t0, [], false, 480)
def takeV (t : Td) (m : Ms) (id : Int) : PV := .tup [.agg (tdC (takeN t m id).1), encM false (takeN t m id).2.1, bo (takeN t m id).2.2.1, num (takeN t m id).2.2.2]
theorem chk_lens {t : Td} {id : Int} (h : chk t id = true) : t.nx = (t.pl.length : Int) ∧ t.pl.length ≤ 4096 ∧ t.rc.length ≤ 4096 ∧ t.dn.length ≤ 4096 := by
  simp only [chk, hdB, Bool.and_eq_true, beq_iff_eq, decide_eq_true_eq] at h
  obtain ⟨⟨⟨⟨⟨⟨⟨_, h1⟩, h2⟩, h3⟩, h4⟩, _⟩, _⟩, _⟩ := h
  exact ⟨h1, by omega, by omega, by omega⟩
theorem okT_place {t : Td} {m : Ms} (ht : okT t) (hm : okM m) : okT (placeN t m).1 ∧ okM (placeN t m).2.1 := by
  unfold placeN
  split
  · rename_i hc
    obtain ⟨h1, h2, h3, h4⟩ := chk_lens hc
    split
    · exact ⟨okT_t0, okM_m0⟩
    · split
      · exact ⟨⟨okL_app ht.1 hm h2, ht.2.1, ht.2.2⟩, hm⟩
      · exact ⟨okT_t0, okM_m0⟩
  · exact ⟨okT_t0, okM_m0⟩
theorem okL_one {m : Ms} (hm : okM m) : okL [m] := ⟨fun x hx => by rw [List.mem_singleton.1 hx]; exact hm, by simp⟩
theorem okT_take {t : Td} {m : Ms} {id : Int} (ht : okT t) (hm : okM m) : okT (takeN t m id).1 ∧ okL (takeN t m id).2.1 := by
  have z : okT t0 ∧ okL [] := ⟨okT_t0, okL_nil⟩
  unfold takeN
  split
  · rename_i hc
    obtain ⟨h1, h2, h3, h4⟩ := chk_lens hc
    split
    · split
      · split
        · split
          · exact ⟨ht, okL_one (okM_ansR hm)⟩
          · exact z
        · split
          · exact z
          · exact ⟨⟨ht.1, okL_app ht.2.1 hm h3, ht.2.2⟩, okL_one (okM_ansR hm)⟩
      · split
        · split
          · exact ⟨ht, okL_nil⟩
          · exact ⟨⟨ht.1, ht.2.1, okL_app ht.2.2 hm h4⟩, okL_nil⟩
        · exact z
    · exact z
  · exact z
end Go.Proofs.Ytnjbcaakdfofcaa

/-
  Trade: the reference's Place.
-/
set_option linter.unusedSimpArgs false
set_option linter.unusedVariables false
namespace Go.Proofs.Ytnjbcaakdfofcaa
open Go.Lo

def TG : Tab := TF.add 16 fun a _ => ti (fun t n => num (chkE t n)) a
theorem TG_ok : TG.ok P0 := Tab.add_fun TF_ok Try.call16 (ti_fun rcheck16_ok)
@[simp] theorem TG_dom16 : TG.dom 16 = true := rfl
@[simp] theorem TG_dom14 : TG.dom 14 = true := rfl
@[simp] theorem TG_dom30 : TG.dom 30 = true := rfl
@[simp] theorem TG_dom31 : TG.dom 31 = true := rfl
@[simp] theorem TG_dom40 : TG.dom 40 = true := rfl
@[simp] theorem TG_dom41 : TG.dom 41 = true := rfl
@[simp] theorem TG_ev14 (a : List PV) (σ : Heap) : TG.ev 14 a σ = m2 (fun m n => bo (decide (m = n))) a := rfl
@[simp] theorem TG_ev16 (a : List PV) (σ : Heap) : TG.ev 16 a σ = ti (fun t n => num (chkE t n)) a := rfl
@[simp] theorem TG_ev30 (a : List PV) (σ : Heap) : TG.ev 30 a σ = m1 (fun m => bo (ofR m)) a := rfl
@[simp] theorem TG_ev31 (a : List PV) (σ : Heap) : TG.ev 31 a σ = m1 (fun m => bo (begR m)) a := rfl
@[simp] theorem TG_ev40 (a : List PV) (σ : Heap) : TG.ev 40 a σ = m1 (fun m => .agg (rowM (ansR m))) a := rfl
@[simp] theorem TG_ev41 (a : List PV) (σ : Heap) : TG.ev 41 a σ = li (fun l n => bo (hasN l n)) a := rfl

@[simp] theorem places24 : places P0 24 = some [(0, 1), (1, 1), (2, 1), (3, 1)] := by kernel_rfl
theorem places30 : (places P0 30).isSome = true := by kernel_rfl
@[simp] theorem Bx30 : Bx (some zM) (places P0 30) (ixi P0 30) [] = ⟨True, .agg zM⟩ := by
  have := places30
  cases h : places P0 30 with
  | none => rw [h] at this; cases this
  | some pl => simp
@[simp] theorem all1_zM : all1 zM = True := by
  have : all1 z32 = True := by rw [z32_eq]; exact all1_seal _
  simp [zM, this]
@[simp] theorem take_zM : List.take 43 zM = zM := List.take_of_length_le (by rw [zM_len]; omega)
theorem setR_no (m : Ms) (x : Int) : setR (rowM m) 3 [num x] = rowM { m with no := x } := by simp [setR, rowM]
theorem take_rowM {m : Ms} (h : okM m) : List.take 43 (rowM m) = rowM m := List.take_of_length_le (by rw [rowM_len h.1]; omega)
set_option maxRecDepth 8000 in
set_option maxHeartbeats 4000000 in
theorem rplace12_ok (t : Td) (m : Ms) (ht : okT t) (hm : okM m) : PFun P0 12 [.agg (tdC t), .agg (rowM m)] (placeV t m) := by
  refine pcalls.wk (pcalls_body Try.func12 rfl rfl rfl (by show 2 ≤ _; decide) (pwp_goK TG_ok [1, 13] ?_))
  obtain ⟨o1, o2, o3⟩ := ht
  obtain ⟨nx, pl, rc, dn⟩ := t
  simp only at o1 o2 o3
  have hr := rowM_len hm.1
  simp [tdC, hr]
  intro id2 id3 a1 id4 a2 a3 id5 a4 a5 a6
  refine pwpT_go (pwp_frz 1 ((Heap.empty.set id2 (.cells [num nx, encM false pl, encM false rc, encM false dn])).set id3 (.cells (rowM m))) (Frz.set (Frz.set Frz.none (by simp [a1, a2, a3, a4, a5, a6])) (by simp [a1, a2, a3, a4, a5, a6])) ?_)
  refine pwp_gen (I := fun fr σ => fr 2 = .ref [num nx, encM false pl, encM false rc, encM false dn] ∧ fr 3 = .ref (rowM m) ∧ fr 4 = .ptr id4 0 ∧ fr 5 = .ptr id5 0 ∧ σ id4 = some (.cells tdZ) ∧ σ id5 = some (.cells zM)) ?_ ?_
  · simp [a1, a2, a3, a4, a5, a6, frzN_rowM, tdZ]
  have h54 : Apart id5 id4 := by assumption
  clear a1 a2 a3 a4 a5 a6
  rintro fr σ ⟨e2, e3, e4, e5, s4, s5⟩
  refine pwp_go TG_ok ?_
  have zl : tdZ.length = 4 := rfl
  have z0 : setR tdZ 0 tdZ = tdZ := rfl
  cases hc : chk ⟨nx, pl, rc, dn⟩ m.fr with
  | false =>
    have hce : chkE ⟨nx, pl, rc, dn⟩ m.fr = 480 := by simp [chkE, hc]
    have hv : placeV ⟨nx, pl, rc, dn⟩ m = .tup [.agg (tdC t0), .agg (rowM m0), num 480] := by simp [placeV, placeN, hc]
    simp [e2, e3, e4, e5, s4, s5, h54, hr, o1, o2, o3, hce, hv, zM_len, setR_zM, tdZ]
    exact placeZ_le 480
  | true =>
    obtain ⟨q1, q2, q3, q4⟩ := chk_lens hc
    simp only at q1 q2 q3 q4
    have hce : chkE ⟨nx, pl, rc, dn⟩ m.fr = 0 := by simp [chkE, hc]
    have oy : okM { m with no := nx } := hm
    have hry := rowM_len oy.1
    have hty := take_rowM oy
    by_cases hl : nx = 4096
    · subst hl
      have hv : placeV ⟨4096, pl, rc, dn⟩ m = .tup [.agg (tdC t0), .agg (rowM m0), num 2] := by simp [placeV, placeN, hc]
      simp [-NEW_def, e2, e3, e4, e5, s4, s5, h54, hr, o1, o2, o3, hce, hv, zM_len, setR_zM, take_rowM hm]
      refine fun id8 h8 => ?_
      have b4 := frs.ne (show frs σ id8 from h8) s4
      have b5 := frs.ne (show frs σ id8 from h8) s5
      simp [e2, e3, e4, e5, s4, s5, b4, b5, h54, hr, o1, o2, o3, hce, hv, zM_len, setR_zM, take_rowM hm, tdZ]
      exact placeZ_le 2
    · have hle : pl.length < 4096 := by omega
      have wn : IntKind.i64.wrap (nx + 1) = nx + 1 := wrap_i64 (by omega) (by omega)
      obtain ⟨y, hy⟩ : ∃ y, { m with no := nx } = y := ⟨_, rfl⟩
      have hpm : plM ⟨nx, pl, rc, dn⟩ m = y := hy
      have hsy := setR_no m nx
      rw [hy] at oy hry hty hsy
      have bad : (ofR y && begR y) = false → placeV ⟨nx, pl, rc, dn⟩ m = .tup [.agg (tdC t0), .agg (rowM m0), num 480] := fun hq => by
        rw [placeV, placeN, if_pos hc, if_neg hl, hpm, hq]; rfl
      simp [-NEW_def, e2, e3, e4, e5, s4, s5, h54, hr, o1, o2, o3, hce, hl, zM_len, setR_zM, take_rowM hm]
      refine fun id8 h8 => ?_
      have b4 := frs.ne (show frs σ id8 from h8) s4
      have b5 := frs.ne (show frs σ id8 from h8) s5
      cases c1 : ofR y with
      | false =>
        have hv := bad (by rw [c1]; rfl)
        simp [e2, e3, e4, e5, s4, s5, b4, b5, h54, hr, hsy, hry, hty, oy, o1, o2, o3, hce, hv, hl, c1, zM_len, setR_zM, take_rowM hm, tdZ]
        exact placeZ_le 480
      | true =>
      cases c2 : begR y with
      | false =>
        have hv := bad (by rw [c2]; simp)
        simp [e2, e3, e4, e5, s4, s5, b4, b5, h54, hr, hsy, hry, hty, oy, o1, o2, o3, hce, hv, hl, c1, c2, zM_len, setR_zM, take_rowM hm, tdZ]
        exact placeZ_le 480
      | true =>
        have hv : placeV ⟨nx, pl, rc, dn⟩ m = .tup [.agg (tdC ⟨nx + 1, pl ++ [y], rc, dn⟩), .agg (rowM y), num 0] := by
          rw [placeV, placeN, if_pos hc, if_neg hl, hpm, c1, c2]; simp [plT, hpm]
        simp [-NEW_def, e2, e3, e4, e5, s4, s5, b4, b5, h8, h54, hr, hsy, hry, hty, oy, o1, o2, o3, hce, hl, c1, c2, zM_len, setR_zM, take_rowM hm]
        refine fun id9 h9 => ?_
        have h9 : frs ((σ.set id8 (.cells (rowM m))).set id8 (.cells (rowM y))) id9 := h9
        simp at h9
        obtain ⟨b98, f9⟩ := h9
        have b94 := f9.ne s4
        have b95 := f9.ne s5
        simp [e2, e3, e4, e5, s4, s5, b4, b5, b98, b94, b95, h54, hr, hsy, hry, hty, oy, o1, o2, o3, hce, hl, c1, c2, wn, zM_len, setR_zM, take_rowM hm]
        refine pwpT_go (pwp_gen (I := fun fr σ => fr 2 = .ref [num nx, encM false pl, encM false rc, encM false dn] ∧ fr 4 = .ptr id4 0 ∧ fr 5 = .ptr id5 0 ∧ fr 8 = .ptr id8 0 ∧ fr 9 = .ptr id9 0 ∧ σ id4 = some (.cells tdZ) ∧ σ id5 = some (.cells zM) ∧ σ id8 = some (.cells (rowM y)) ∧ σ id9 = some (.cells [num (nx + 1), encM false pl, encM false rc, encM false dn])) ?_ ?_)
        · simp [e2, e4, e5, s4, s5, b4, b5, b98, b94, b95, h54]
        clear e2 e3 e4 e5 s4 s5 f9 h8
        rintro fr σ ⟨e2, e4, e5, e8, e9, s4, s5, s8, s9⟩
        refine pwp_drawX TG_ok 6 [3] [.r 0, .r 1, .r 2, .r 4, .r 5, .e 3, .c 4, .c 5] mixed (by kernel_rfl) ?_
        simp [e2, e4, e5, e8, e9, s4, s5, s8, s9, b4, b5, b98, b94, b95, hry, hty]
        refine app_first o1 ?_
        intro V σ1 hV hk hne
        obtain ⟨v1, v2⟩ := hV.sv
        have k4 := keepC hk s4
        have k5 := keepC hk s5
        have k8 := keepC hk s8
        have k9 := keepC hk s9
        simp [e2, e4, e5, e8, e9, k4, k5, k8, k9, b4, b5, b98, b94, b95, hry, hty, v1, v2]
        refine app_more o1 oy hV ?_
        intro id σ2 hid hc2 hk2
        have c4 := hid.ne k4
        have c5 := hid.ne k5
        have c8 := hid.ne k8
        have c9 := hid.ne k9
        have rne : rowM y ≠ [] := by simp [rowM]
        have zne : zM ≠ [] := by simp [zM]
        have l4 := keepV hk2 k4 (hne id4 _ s4 (by simp [tdZ]))
        have l5 := keepV hk2 k5 (hne id5 _ s5 zne)
        have l8 := keepV hk2 k8 (hne id8 _ s8 rne)
        have l9 := keepV hk2 k9 (hne id9 _ s9 (by simp))
        simp [e2, e4, e5, e8, e9, l4, l5, l8, l9, b4, b5, b98, b94, b95, hry, hty]
        obtain ⟨L, hL⟩ : ∃ L, pl ++ [y] = L := ⟨_, rfl⟩
        have oL : okL L := by rw [← hL]; exact okL_app o1 oy (by omega)
        have hLl : pl.length + 1 = L.length := by rw [← hL]; simp
        rw [hL] at hc2 hv
        refine pwpT_go (pwp_frz 2 (((Heap.empty.set id9 (.cells [num (nx + 1), .msl id 43 0 (pl.length + 1) false, encM false rc, encM false dn])).set id8 (.cells (rowM y))).set id (.cells (L.map rowM).flatten)) (Frz.set (Frz.set (Frz.set Frz.none (by simp)) (by simp [l8, b98])) (by simp [c9, hc2])) ?_)
        refine pwp_gen (I := fun fr σ => fr 4 = .ptr id4 0 ∧ fr 5 = .ptr id5 0 ∧ fr 8 = .ref (rowM y) ∧ fr 9 = .ref [num (nx + 1), encM false L, encM false rc, encM false dn] ∧ σ id4 = some (.cells tdZ) ∧ σ id5 = some (.cells zM)) ?_ ?_
        · simp [e4, e5, e8, e9, l4, l5, b4, b5, b98, b94, b95, c4, c5, c8, c9, frzN_rowM, flat_len oL, hLl, chunkM' oL]
        clear e2 e4 e5 e8 e9 l4 l5 l8 l9 k4 k5 k8 k9 s4 s5 s8 s9
        rintro fr σ ⟨e4, e5, e8, e9, s4, s5⟩
        refine pwp_drawX TG_ok 3 [2] [.r 0, .r 1, .e 2, .c 1] mixed (by kernel_rfl) ?_
        simp [e4, e5, e8, e9, s4, s5, h54, hry, hty, zM_len, setR_zM, hv, tdZ]
        exact .refl _
end Go.Proofs.Ytnjbcaakdfofcaa

/-
  Trade: the reference's Take.
-/
set_option linter.unusedSimpArgs false
set_option linter.unusedVariables false
namespace Go.Proofs.Ytnjbcaakdfofcaa
open Go.Lo

def mFN (m : Ms) (o : Ms) : Bool := o.fr == m.fr && o.no == m.no
theorem find_at {p : Ms → Bool} : ∀ {l : List Ms} {k : Nat} (h : k < l.length), (∀ i (h : i < l.length), i < k → p l[i] = false) → p l[k] = true → l.find? p = some l[k] := by
  intro l
  induction l with
  | nil => intro k h; simp at h
  | cons a l ih =>
    intro k h hi hk
    cases k with
    | zero => simp at hk ⊢; simp [hk]
    | succ k =>
      have h0 := hi 0 (by simp) (by omega)
      simp only [List.getElem_cons_zero] at h0
      rw [List.find?_cons, h0]
      simp only [List.getElem_cons_succ] at hk ⊢
      exact ih (by simpa using h) (fun i h1 h2 => by have := hi (i + 1) (by simpa using h1) (by omega); simpa using this) hk
theorem find_no {p : Ms → Bool} {l : List Ms} (hi : ∀ i (h : i < l.length), p l[i] = false) : l.find? p = none := by
  rw [List.find?_eq_none]
  intro x hx
  obtain ⟨i, h, rfl⟩ := List.getElem_of_mem hx
  rw [hi i h]; simp
theorem takeZ_le (e : Int) : PLe (.tup [.agg [num 0, .lit (.slice none 0 0), .lit (.slice none 0 0), .lit (.slice none 0 0)], .lit (.slice none 0 0), bo false, num e]) (.tup [.agg (tdC t0), encM false [], bo false, num e]) :=
  .tup (.cons (.agg tdZ_le) (.cons (PLe.nil false) (.cons (.refl _) (.cons (.refl _) .nil))))
theorem takeY_le (t : Td) (m : Ms) (b : Bool) : PLe (.tup [.agg (tdC t), .slice true [rowM m], bo b, num 0]) (.tup [.agg (tdC t), encM false [m], bo b, num 0]) :=
  .tup (.cons (.refl _) (.cons (PLe.unfull _ _) (.cons (.refl _) (.cons (.refl _) .nil))))
theorem takeN_le (t : Td) (b : Bool) : PLe (.tup [.agg (tdC t), .lit (.slice none 0 0), bo b, num 0]) (.tup [.agg (tdC t), encM false [], bo b, num 0]) :=
  .tup (.cons (.refl _) (.cons (PLe.nil false) (.cons (.refl _) (.cons (.refl _) .nil))))
def takeU (a : Td × List Ms × Bool × Int) : PV := .tup [.agg (tdC a.1), encM false a.2.1, bo a.2.2.1, num a.2.2.2]
theorem takeV_eq {t : Td} {m : Ms} {id : Int} {a : Td × List Ms × Bool × Int} (h : takeN t m id = a) : takeV t m id = takeU a := by rw [← h]; rfl
@[simp] theorem takeU_mk (t : Td) (l : List Ms) (b : Bool) (e : Int) : takeU (t, l, b, e) = .tup [.agg (tdC t), encM false l, bo b, num e] := rfl

set_option maxRecDepth 8000 in
set_option maxHeartbeats 4000000 in
theorem rtake22_ok (t : Td) (m : Ms) (id : Int) (ht : okT t) (hm : okM m) : PFun P0 22 [.agg (tdC t), .agg (rowM m), num id] (takeV t m id) := by
  refine pcalls.wk (pcalls_body Try.func22 rfl rfl rfl (by show 3 ≤ _; decide) (pwp_goK TG_ok [1, 18, 24] ?_))
  obtain ⟨o1, o2, o3⟩ := ht
  obtain ⟨nx, pl, rc, dn⟩ := t
  simp only at o1 o2 o3
  have hr := rowM_len hm.1
  have hty := take_rowM hm
  simp [tdC, hr]
  intro id3 id4 a1 id6 a2 a3
  refine pwpT_go (pwp_frz 1 ((Heap.empty.set id3 (.cells [num nx, encM false pl, encM false rc, encM false dn])).set id4 (.cells (rowM m))) (Frz.set (Frz.set Frz.none (by simp [a1, a2, a3])) (by simp [a1, a2, a3])) ?_)
  refine pwp_gen (I := fun fr σ => fr 2 = num id ∧ fr 3 = .ref [num nx, encM false pl, encM false rc, encM false dn] ∧ fr 4 = .ref (rowM m) ∧ fr 6 = .ptr id6 0 ∧ σ id6 = some (.cells tdZ)) ?_ ?_
  · simp [a1, a2, a3, frzN_rowM, tdZ]
  clear a1 a2 a3
  rintro fr σ ⟨e2, e3, e4, e6, s6⟩
  refine pwp_go TG_ok ?_
  cases hc : chk ⟨nx, pl, rc, dn⟩ id with
  | false =>
    have hce : chkE ⟨nx, pl, rc, dn⟩ id = 480 := by simp [chkE, hc]
    have hv := takeV_eq (t := ⟨nx, pl, rc, dn⟩) (m := m) (id := id) (a := (t0, [], false, 480)) (by simp [takeN, hc])
    simp [e2, e3, e4, e6, s6, o1, o2, o3, hce, hv, tdZ]
    exact takeZ_le 480
  | true =>
  obtain ⟨q1, q2, q3, q4⟩ := chk_lens hc
  simp only at q1 q2 q3 q4
  have hce : chkE ⟨nx, pl, rc, dn⟩ id = 0 := by simp [chkE, hc]
  cases hf : ofR m && m.to == id with
  | false =>
    have hv := takeV_eq (t := ⟨nx, pl, rc, dn⟩) (m := m) (id := id) (a := (t0, [], false, 480)) (by simp only [takeN, hc, hf]; rfl)
    simp [-NEW_def, e2, e3, e4, e6, s6, o1, o2, o3, hce, hv, hm, hr, hty, tdZ]
    refine ⟨fun _ => takeZ_le 480, fun h1 h2 => ?_⟩
    exfalso
    simp [h1, h2] at hf
  | true =>
    have hf' := hf
    simp only [Bool.and_eq_true, beq_iff_eq] at hf
    obtain ⟨f1, f2⟩ := hf
    simp [-NEW_def, e2, e3, e4, e6, s6, o1, o2, o3, hce, hm, hr, hty, f1, f2, tdZ]
    refine fun id11 h11 => ?_
    have b11 := frs.ne (show frs σ id11 from h11) s6
    have base : takeN ⟨nx, pl, rc, dn⟩ m id = ((if begR m then
        match rc.find? (mFN m) with
        | some o => if o = m then (⟨nx, pl, rc, dn⟩, [ansR m], false, 0) else (t0, [], false, 480)
        | none => if rc.length = 4096 then (t0, [], false, 2) else (⟨nx, pl, rc ++ [m], dn⟩, [ansR m], true, 0)
      else if m.no < pl.length ∧ m = ansR (pl.getD m.no.toNat m0) then
        if hasN dn m.no then (⟨nx, pl, rc, dn⟩, [], false, 0) else (⟨nx, pl, rc, dn ++ [m]⟩, [], true, 0)
      else (t0, [], false, 480)) : Td × List Ms × Bool × Int) := by
      rw [takeN, if_pos hc, if_pos hf']; rfl
    cases hb : begR m with
    | true =>
      rw [if_pos hb] at base
      simp [e2, e3, e4, e6, s6, b11, hm, hr, hty, hb, tdZ]
      refine pwp_loop (fun N fr σ => ∃ k : Nat, N = rc.length - k ∧ k ≤ rc.length ∧ fr 3 = .ref [num nx, encM false pl, encM false rc, encM false dn] ∧ fr 4 = .ref (rowM m) ∧ fr 6 = .ptr id6 0 ∧ fr 11 = .ptr id11 0 ∧ fr 12 = num k ∧ σ id6 = some (.cells tdZ) ∧ σ id11 = some (.cells [num nx, encM false pl, encM false rc, encM false dn]) ∧ ∀ i (h : i < rc.length), i < k → mFN m rc[i] = false)
        (N := rc.length) ?_ ?_
      · exact ⟨0, by simp [e3, e4, e6, s6, b11]⟩
      clear e2 e3 e4 e6 s6 h11 fr σ
      rintro N fr σ ⟨k, rfl, hk, e3, e4, e6, e11, e12, s6, s11, hi⟩
      refine pwp_go TG_ok ?_
      by_cases hlt : k < rc.length
      · have om := o2.1 _ (List.getElem_mem hlt)
        have hx := IAx_encM (b := false) .i64 hlt om.1
        have hL := fun σ => Lx_rowM (m := rc[k]) σ om.1
        have hrk := rowM_len om.1
        have wk := wrap_succ (k := k) (by omega)
        have htk := take_rowM om
        simp [e3, e4, e6, e11, e12, hlt]
        refine pwp_drawT TG_ok 19 mixed (by kernel_rfl) ?_
        cases hp : mFN m rc[k] with
        | false =>
          have hp' := hp
          unfold mFN at hp'
          by_cases c1 : rc[k].fr = m.fr
          · by_cases c2 : rc[k].no = m.no
            · simp [c1, c2] at hp'
            · simp [e3, e4, e6, e11, e12, s6, s11, hlt, hx, hr, hrk, c1, c2, wk]
              exact ⟨rc.length - (k + 1), by omega, k + 1, rfl, by omega, by omega, fun i h1 h2 => by
                by_cases e : i = k
                · subst e; exact hp
                · exact hi i h1 (by omega)⟩
          · simp [e3, e4, e6, e11, e12, s6, s11, hlt, hx, hr, hrk, c1, wk]
            exact ⟨rc.length - (k + 1), by omega, k + 1, rfl, by omega, by omega, fun i h1 h2 => by
              by_cases e : i = k
              · subst e; exact hp
              · exact hi i h1 (by omega)⟩
        | true =>
          have hfd := find_at hlt hi hp
          rw [hfd] at base
          simp only at base
          simp only [mFN, Bool.and_eq_true, beq_iff_eq] at hp
          obtain ⟨c1, c2⟩ := hp
          simp [e3, e4, e6, e11, e12, hlt, hx, hr, hrk, c1, c2]
          refine pwp_drawT TG_ok 7 mixed (by kernel_rfl) ?_
          by_cases c3 : rc[k] = m
          · rw [if_pos c3] at base
            have hv := takeV_eq base
            have oa := okM_ansR hm
            have hra := rowM_len oa.1
            rw [c3] at hx
            simp [e3, e4, e6, e11, e12, hlt, hx, hr, hty, hm]
            refine pwp_drawX TG_ok 5 [4] [.r 0, .r 1, .r 2, .r 3, .e 4, .c 3] mixed (by kernel_rfl) ?_
            simp [e3, e4, e6, e11, e12, s6, s11, hr, hty, hm, hra, hv, tdZ]
            exact takeY_le ⟨nx, pl, rc, dn⟩ _ false
          · rw [if_neg c3] at base
            have hv := takeV_eq base
            simp [e3, e4, e6, e11, e12, s6, hlt, hx, hr, hrk, hty, htk, hm, om, c3, hv, tdZ]
            exact takeZ_le 480
      · have hfd := find_no (p := mFN m) (l := rc) fun i h => hi i h (by omega)
        rw [hfd] at base
        simp only at base
        have hkk : k = rc.length := by omega
        subst hkk
        by_cases hl : rc.length = 4096
        · rw [if_pos hl] at base
          have hv := takeV_eq base
          have hlI : (rc.length : Int) = 4096 := by omega
          simp [e3, e4, e6, e11, e12, s6, hlt, hlI, hv, tdZ]
          exact takeZ_le 2
        rw [if_neg hl] at base
        have hlI : ¬ (rc.length : Int) = 4096 := by omega
        simp [e3, e4, e6, e11, e12, s6, hlt, hlI]
        refine pwp_drawX TG_ok 6 [3] [.r 0, .r 1, .r 2, .r 4, .r 5, .e 3, .c 4, .c 5] mixed (by kernel_rfl) ?_
        simp [e3, e4, e6, e11, s6, s11, b11, hr, hty]
        refine app_first o2 ?_
        intro V σ1 hV hk hne
        obtain ⟨v1, v2⟩ := hV.sv
        have k6 := keepC hk s6
        have k11 := keepC hk s11
        simp [e3, e4, e6, e11, k6, k11, b11, hr, hty, v1, v2]
        refine app_more o2 hm hV ?_
        intro id9 σ2 hid hc2 hk2
        have c6 := hid.ne k6
        have c11 := hid.ne k11
        have l6 := keepV hk2 k6 (hne id6 _ s6 (by simp [tdZ]))
        have l11 := keepV hk2 k11 (hne id11 _ s11 (by simp))
        simp [e3, e4, e6, e11, l6, l11, b11, hr, hty]
        obtain ⟨L, hL⟩ : ∃ L, rc ++ [m] = L := ⟨_, rfl⟩
        have oL : okL L := by rw [← hL]; exact okL_app o2 hm (by omega)
        have hLl : rc.length + 1 = L.length := by rw [← hL]; simp
        rw [hL] at hc2 base
        have hv := takeV_eq base
        refine pwpT_go (pwp_frz 2 ((Heap.empty.set id11 (.cells [num nx, encM false pl, .msl id9 43 0 (rc.length + 1) false, encM false dn])).set id9 (.cells (L.map rowM).flatten)) (Frz.set (Frz.set Frz.none (by simp)) (by simp [c11, hc2])) ?_)
        refine pwp_gen (I := fun fr σ => fr 4 = .ref (rowM m) ∧ fr 6 = .ptr id6 0 ∧ fr 11 = .ref [num nx, encM false pl, encM false L, encM false dn] ∧ σ id6 = some (.cells tdZ)) ?_ ?_
        · simp [e4, e6, e11, l6, b11, c6, c11, frzN_rowM, flat_len oL, hLl, chunkM' oL]
        clear e3 e4 e6 e11 s6 s11 l6 l11 k6 k11
        rintro fr σ ⟨e4, e6, e11, s6⟩
        refine pwp_drawX TG_ok 5 [4] [.r 0, .r 1, .r 2, .r 3, .e 4, .c 3] mixed (by kernel_rfl) ?_
        have oa := okM_ansR hm
        have hra := rowM_len oa.1
        simp [e4, e6, e11, s6, hr, hty, hm, hra, hv, tdZ]
        exact takeY_le ⟨nx, pl, L, dn⟩ _ true
    | false =>
      rw [hb] at base
      simp only [Bool.false_eq_true, if_false] at base
      simp [e2, e3, e4, e6, s6, b11, hm, hr, hty, hb, tdZ]
      refine pwpT_go (pwp_gen (I := fun fr σ => fr 3 = .ref [num nx, encM false pl, encM false rc, encM false dn] ∧ fr 4 = .ref (rowM m) ∧ fr 6 = .ptr id6 0 ∧ fr 11 = .ptr id11 0 ∧ σ id6 = some (.cells tdZ) ∧ σ id11 = some (.cells [num nx, encM false pl, encM false rc, encM false dn])) ?_ ?_)
      · simp [e3, e4, e6, s6, b11]
      clear e2 e3 e4 e6 s6 h11
      rintro fr σ ⟨e3, e4, e6, e11, s6, s11⟩
      refine pwp_drawT TG_ok 17 mixed (by kernel_rfl) ?_
      obtain ⟨n, hn⟩ : ∃ n : Nat, m.no = n := ⟨m.no.toNat, by have := ofR_no f1; omega⟩
      by_cases c2 : n < pl.length
      · have op := o1.1 _ (List.getElem_mem c2)
        have hxp := IAx_encM (b := false) .i64 c2 op.1
        have hLp := fun σ => Lx_rowM (m := pl[n]) σ op.1
        have hg : pl.getD m.no.toNat m0 = pl[n] := by rw [hn, Int.toNat_natCast, getD_lt c2]
        have oa := okM_ansR op
        have c2i : ¬ ((pl.length : Int) ≤ n) := by omega
        rw [hg] at base
        by_cases c3 : m = ansR pl[n]
        · have c3' : (decide (m = ansR pl[n])) = true := by simpa using c3
          rw [if_pos ⟨by rw [hn]; omega, c3⟩] at base
          cases hd : hasN dn m.no with
          | true =>
            rw [hd] at base
            simp only [if_true] at base
            have hv := takeV_eq base
            rw [hn] at hd
            simp [e3, e4, e6, e11, s6, s11, hr, hty, hm, hn, c2, c2i, hxp, hLp, op, oa, c3', o3, hd, hv, tdZ]
            exact takeN_le ⟨nx, pl, rc, dn⟩ false
          | false =>
            rw [hd] at base
            simp only [Bool.false_eq_true, if_false] at base
            rw [hn] at hd
            simp [e3, e4, e6, e11, s6, s11, hr, hty, hm, hn, c2, c2i, hxp, hLp, op, oa, c3', o3, hd, tdZ]
            refine pwp_drawX TG_ok 6 [3] [.r 0, .r 1, .r 2, .r 4, .r 5, .e 3, .c 4, .c 5] mixed (by kernel_rfl) ?_
            simp [e3, e4, e6, e11, s6, s11, b11, hr, hty]
            refine app_first o3 ?_
            intro V σ1 hV hk hne
            obtain ⟨v1, v2⟩ := hV.sv
            have k6 := keepC hk s6
            have k11 := keepC hk s11
            simp [e3, e4, e6, e11, k6, k11, b11, hr, hty, v1, v2]
            refine app_more o3 hm hV ?_
            intro id9 σ2 hid hc2 hk2
            have c6 := hid.ne k6
            have c11 := hid.ne k11
            have l6 := keepV hk2 k6 (hne id6 _ s6 (by simp [tdZ]))
            have l11 := keepV hk2 k11 (hne id11 _ s11 (by simp))
            simp [e3, e4, e6, e11, l6, l11, b11, hr, hty]
            obtain ⟨L, hL⟩ : ∃ L, dn ++ [m] = L := ⟨_, rfl⟩
            have oL : okL L := by rw [← hL]; exact okL_app o3 hm (by omega)
            have hLl : dn.length + 1 = L.length := by rw [← hL]; simp
            rw [hL] at hc2 base
            have hv := takeV_eq base
            refine pwpT_go (pwp_frz 2 ((Heap.empty.set id11 (.cells [num nx, encM false pl, encM false rc, .msl id9 43 0 (dn.length + 1) false])).set id9 (.cells (L.map rowM).flatten)) (Frz.set (Frz.set Frz.none (by simp)) (by simp [c11, hc2])) ?_)
            refine pwp_gen (I := fun fr σ => fr 4 = .ref (rowM m) ∧ fr 6 = .ptr id6 0 ∧ fr 11 = .ref [num nx, encM false pl, encM false rc, encM false L] ∧ σ id6 = some (.cells tdZ)) ?_ ?_
            · simp [e4, e6, e11, l6, b11, c6, c11, frzN_rowM, flat_len oL, hLl, chunkM' oL]
            clear e3 e4 e6 e11 s6 s11 l6 l11 k6 k11
            rintro fr σ ⟨e4, e6, e11, s6⟩
            refine pwp_go TG_ok ?_
            simp [e4, e6, e11, s6, hr, hty, hv, tdZ]
            exact takeN_le ⟨nx, pl, rc, L⟩ true
        · have c3' : (decide (m = ansR pl[n])) = false := by simpa using c3
          rw [if_neg fun h => c3 h.2] at base
          have hv := takeV_eq base
          simp [e3, e4, e6, e11, s6, hr, hty, hm, hn, c2, c2i, hxp, hLp, op, oa, c3', hv, tdZ]
          exact takeZ_le 480
      · rw [if_neg fun h => c2 (by have := h.1; omega)] at base
        have hv := takeV_eq base
        have c2i : (pl.length : Int) ≤ n := by omega
        simp [e3, e4, e6, e11, s6, hr, hty, hm, hn, c2i, hv, tdZ]
        exact takeZ_le 480
end Go.Proofs.Ytnjbcaakdfofcaa

/-
  Trade: the reference's Waiting.
-/
set_option linter.unusedSimpArgs false
set_option linter.unusedVariables false
namespace Go.Proofs.Ytnjbcaakdfofcaa
open Go.Lo

def waitB (t : Td) (id : Int) (m : Ms) : Bool := m.fr == id && !hasN t.dn m.no
def waitN (t : Td) (id : Int) : List Ms := t.pl.filter (waitB t id)
theorem okL_filter {l : List Ms} (p : Ms → Bool) (h : okL l) : okL (l.filter p) := ⟨fun m hm => h.1 m (List.mem_filter.1 hm).1, Nat.le_trans (List.length_filter_le _ _) h.2⟩
theorem own_msl {L : List Ms} (h : okL L) {id n : Nat} {σ : Heap} (hn : n = L.length) (hs : σ id = some (.cells (L.map rowM).flatten)) : Own 43 σ (.msl id 43 0 n false) (L.map rowM) := by
  subst hn
  exact ⟨rows_len h, .inr (.inl ⟨id, false, by simp, hs⟩)⟩
theorem filter_take {l : List Ms} {p : Ms → Bool} {k : Nat} (h : k < l.length) : (l.take (k + 1)).filter p = (l.take k).filter p ++ if p l[k] then [l[k]] else [] := by
  rw [List.take_succ_eq_append_getElem h, List.filter_append]
  cases hp : p l[k] <;> simp [List.filter_cons, hp]
set_option maxRecDepth 8000 in
set_option maxHeartbeats 4000000 in
theorem rwait19_ok (t : Td) (id : Int) (ht : okT t) : PFun P0 19 [.agg (tdC t), num id] (encM false (waitN t id)) := by
  refine pcalls_own (k := 43) (pcalls_body Try.func19 rfl rfl rfl (by show 2 ≤ _; decide) (pwp_goK TG_ok [1] ?_))
  obtain ⟨o1, o2, o3⟩ := ht
  obtain ⟨nx, pl, rc, dn⟩ := t
  simp only at o1 o2 o3
  simp [tdC]
  intro id2
  refine pwpT_go (pwp_frz 1 (Heap.empty.set id2 (.cells [num nx, encM false pl, encM false rc, encM false dn])) (Frz.set Frz.none (by simp)) ?_)
  refine pwp_gen (I := fun fr σ => fr 1 = num id ∧ fr 2 = .ref [num nx, encM false pl, encM false rc, encM false dn]) ?_ ?_
  · simp
  rintro fr σ ⟨e1, e2⟩
  refine pwp_go TG_ok ?_
  simp [e1, e2]
  have hl1 := o1.2
  refine pwp_loop (fun N fr σ => ∃ (k : Nat) (V : PV), N = pl.length - k ∧ k ≤ pl.length ∧ fr 1 = num id ∧ fr 2 = .ref [num nx, encM false pl, encM false rc, encM false dn] ∧ fr 5 = V ∧ Own 43 σ V (((pl.take k).filter (waitB ⟨nx, pl, rc, dn⟩ id)).map rowM) ∧ fr 6 = num k)
    (N := pl.length) ?_ ?_
  · exact ⟨0, .slice true [], by simp [e1, e2]; exact Own.full 43 σ (by simp)⟩
  clear e1 e2 fr σ
  rintro N fr σ ⟨k, V, rfl, hk, e1, e2, e5, hV, e6⟩
  refine pwp_go TG_ok ?_
  by_cases hlt : k < pl.length
  · have om := o1.1 _ (List.getElem_mem hlt)
    have hx := IAx_encM (b := false) .i64 hlt om.1
    have hL := fun σ => Lx_rowM (m := pl[k]) σ om.1
    have hrk := rowM_len om.1
    have wk := wrap_succ (k := k) (by omega)
    have htk := take_rowM om
    have hft := filter_take (p := waitB ⟨nx, pl, rc, dn⟩ id) hlt
    simp [e1, e2, e5, e6, hlt]
    refine pwp_drawT TG_ok 19 mixed (by kernel_rfl) ?_
    cases hw : waitB ⟨nx, pl, rc, dn⟩ id pl[k] with
    | false =>
      rw [hw] at hft
      simp only [Bool.false_eq_true, if_false, List.append_nil] at hft
      have hw' := hw
      simp only [waitB] at hw'
      by_cases c1 : pl[k].fr = id
      · have c2 : hasN dn pl[k].no = true := by simpa [c1] using hw'
        simp [e1, e2, e5, e6, hlt, hx, hrk, c1, c2, o3, wk]
        exact ⟨pl.length - (k + 1), by omega, k + 1, rfl, by omega, by rw [hft]; exact hV, rfl⟩
      · simp [e1, e2, e5, e6, hlt, hx, hrk, c1, o3, wk]
        exact ⟨pl.length - (k + 1), by omega, k + 1, rfl, by omega, by rw [hft]; exact hV, rfl⟩
    | true =>
      rw [hw] at hft
      simp only [if_true] at hft
      simp only [waitB, Bool.and_eq_true, beq_iff_eq, Bool.not_eq_true'] at hw
      obtain ⟨c1, c2⟩ := hw
      obtain ⟨v1, v2⟩ := hV.sv
      simp [e1, e2, e5, e6, hlt, hx, hrk, htk, c1, c2, o3, v1, v2]
      refine app_more (okL_filter _ (okL_take o1 k)) om hV ?_
      intro id9 σ2 _ hc2 _
      rw [← hft] at hc2
      have ol := okL_filter (waitB ⟨nx, pl, rc, dn⟩ id) (okL_take o1 (k + 1))
      have hO := own_msl (n := ((pl.take k).filter (waitB ⟨nx, pl, rc, dn⟩ id)).length + 1) ol (by rw [hft]; simp) hc2
      simp [e1, e2, e5, e6, wk]
      exact ⟨pl.length - (k + 1), by omega, k + 1, rfl, by omega, hO, rfl⟩
  · have hkk : k = pl.length := by omega
    subst hkk
    rw [List.take_length] at hV
    obtain ⟨v1, v2⟩ := hV.sv
    simp [e1, e2, e5, e6, v1, v2]
    exact hV
end Go.Proofs.Ytnjbcaakdfofcaa

/-
  Trade: Waiting.
-/
set_option linter.unusedSimpArgs false
set_option linter.unusedVariables false
namespace Go.Proofs.Ytnjbcaakdfofcaa
open Go.Lo

def nK (x : Int) : PV := .lit (.int .i64 x)
theorem und3 : P0.underlying 3 = some (.int .i64) := by kernel_rfl
theorem nK_ok : KeyOk P0 3 nK := keyOk_int und3
theorem zeroL4 : zeroL P0 4 = some (.bool false) := by kernel_rfl
theorem hasN_take {l : List Ms} {k : Nat} (h : k < l.length) (x : Int) : hasN (l.take (k + 1)) x = (hasN (l.take k) x || l[k].no == x) := by
  unfold hasN
  rw [List.take_succ_eq_append_getElem h, List.any_append]
  simp
def setN (l : List Ms) (ks : List Int) : Prop := ∀ x, x ∈ ks ↔ hasN l x = true
theorem setN_nil : setN [] [] := fun x => by simp [hasN]
theorem setN_add {l : List Ms} {k : Nat} (h : k < l.length) {ks : List Int} (hs : setN (l.take k) ks) : setN (l.take (k + 1)) (addK ks l[k].no) := fun x => by
  rw [mem_addK, hs x, hasN_take h]
  simp only [Bool.or_eq_true, beq_iff_eq]
  constructor
  · rintro (rfl | h)
    · exact .inr rfl
    · exact .inl h
  · rintro (h | h)
    · exact .inr h
    · exact .inl h.symm
set_option maxRecDepth 8000 in
set_option maxHeartbeats 4000000 in
theorem wait18_ok (t : Td) (id : Int) (ht : okT t) : PFun P0 18 [.agg (tdC t), num id] (encM false (waitN t id)) := by
  refine pcalls_own (k := 43) (pcalls_body Try.func18 rfl rfl rfl (by show 2 ≤ _; decide) (pwp_goK TG_ok [1] ?_))
  obtain ⟨o1, o2, o3⟩ := ht
  obtain ⟨nx, pl, rc, dn⟩ := t
  simp only at o1 o2 o3
  simp [tdC]
  intro id2
  refine pwpT_go (pwp_frz 1 (Heap.empty.set id2 (.cells [num nx, encM false pl, encM false rc, encM false dn])) (Frz.set Frz.none (by simp)) ?_)
  refine pwp_gen (I := fun fr σ => fr 1 = num id ∧ fr 2 = .ref [num nx, encM false pl, encM false rc, encM false dn] ∧ fr 4 = .lit (.slice none 0 0)) ?_ ?_
  · simp
  rintro fr σ ⟨e1, e2, e4⟩
  refine pwp_go TG_ok ?_
  simp [e1, e2, e4]
  refine popsT_makeMap TG_ok rfl fun idm hidm => ?_
  simp [e1, e2, e4]
  have hl1 := o1.2
  have hl3 := o3.2
  refine pwp_loop (fun N fr σ => ∃ (k : Nat) (ks : List Int), N = dn.length - k ∧ k ≤ dn.length ∧ fr 1 = num id ∧ fr 2 = .ref [num nx, encM false pl, encM false rc, encM false dn] ∧ fr 4 = .lit (.slice none 0 0) ∧ fr 5 = .map idm ∧ fr 12 = encM false dn ∧ fr 13 = num dn.length ∧ fr 14 = num k ∧ σ idm = some (.map (setM nK ks)) ∧ setN (dn.take k) ks)
    (N := dn.length) ?_ ?_
  · exact ⟨0, [], by simp [e1, e2, e4, setM, setN_nil]⟩
  clear e1 e2 e4 hidm fr σ
  rintro N fr σ ⟨k, ks, rfl, hk, e1, e2, e4, e5, e12, e13, e14, sm, hs⟩
  refine pwp_go TG_ok ?_
  by_cases hlt : k < dn.length
  · have om := o3.1 _ (List.getElem_mem hlt)
    have hx := IAx_encM (b := false) .i64 hlt om.1
    have hL := fun σ => Lx_rowM (m := dn[k]) σ om.1
    have hrk := rowM_len om.1
    have wk := wrap_succ (k := k) (by omega)
    have htk := take_rowM om
    simp [-NEW_def, e1, e2, e4, e5, e12, e13, e14, hlt, hx, hrk, htk, zM_len]
    refine fun id7 h7 => ?_
    have b7 := frs.ne (show frs σ id7 from h7) sm
    simp [e1, e2, e4, e5, e12, e13, e14, hrk, htk, zM_len, setR_zM]
    refine popsT_mapUpdate TG_ok (p := .map idm) (q := nK dn[k].no) (r := .lit (.bool true)) rfl (by simp [e5]) (by simp) (by simp) (by simp [e5]) (by simp [nK]) (by simp) ?_
    refine updP_set nK_ok mapT59 (ks := ks) (by simp [b7, sm]) dn[k].no ?_
    simp [e1, e2, e4, e5, e12, e13, e14, wk]
    exact ⟨dn.length - (k + 1), by omega, k + 1, rfl, by omega, by omega, _, rfl, setN_add hlt hs⟩
  · have hkk : k = dn.length := by omega
    subst hkk
    rw [List.take_length] at hs
    simp [e1, e2, e4, e5, e12, e13, e14]
    refine pwp_loop (fun N fr σ => ∃ (k : Nat) (V : PV), N = pl.length - k ∧ k ≤ pl.length ∧ fr 1 = num id ∧ fr 2 = .ref [num nx, encM false pl, encM false rc, encM false dn] ∧ fr 4 = V ∧ Own 43 σ V (((pl.take k).filter (waitB ⟨nx, pl, rc, dn⟩ id)).map rowM) ∧ fr 5 = .map idm ∧ fr 23 = encM false pl ∧ fr 24 = num pl.length ∧ fr 25 = num k ∧ σ idm = some (.map (setM nK ks)))
      (N := pl.length) ?_ ?_
    · refine ⟨0, .lit (.slice none 0 0), ?_⟩
      simp [e1, e2, e4, e5, sm]
      exact Own.nil _ _
    clear e1 e2 e4 e5 e12 e13 e14 sm fr σ
    rintro N fr σ ⟨k, V, rfl, hk, e1, e2, e4, hV, e5, e23, e24, e25, sm⟩
    refine pwp_go TG_ok ?_
    by_cases hlt : k < pl.length
    · have om := o1.1 _ (List.getElem_mem hlt)
      have hx := IAx_encM (b := false) .i64 hlt om.1
      have hrk := rowM_len om.1
      have wk := wrap_succ (k := k) (by omega)
      have htk := take_rowM om
      have hft := filter_take (p := waitB ⟨nx, pl, rc, dn⟩ id) hlt
      obtain ⟨m, hm⟩ : ∃ m, pl[k] = m := ⟨_, rfl⟩
      rw [hm] at om hx hrk htk hft
      simp [-NEW_def, e1, e2, e4, e5, e23, e24, e25, hlt, hx, hrk, htk, zM_len]
      refine fun id9 h9 => ?_
      have b9 := frs.ne (show frs σ id9 from h9) sm
      simp [e1, e2, e4, e5, e23, e24, e25, hrk, htk, zM_len, setR_zM]
      have hlk := evLook_set (σ := σ.set id9 (.cells (rowM m))) nK_ok mapT59 zeroL4 (ks := ks) (id := idm) (by simp [b9, sm]) m.no
      cases c1 : m.fr == id with
      | false =>
        have c1' : ¬ m.fr = id := by simpa using c1
        have hw : waitB ⟨nx, pl, rc, dn⟩ id m = false := by simp [waitB, c1]
        refine popsT_lookupG TG_ok (g := false) (V := .lit undef) (p := .map idm) (q := nK m.no) rfl (by simp [c1']) (fun h => by cases h) ?_
        simp [e1, e2, e4, e5, e23, e24, e25, c1', wk]
        rw [hw] at hft
        simp only [Bool.false_eq_true, if_false, List.append_nil] at hft
        exact ⟨pl.length - (k + 1), by omega, k + 1, rfl, by omega, by rw [hft]; exact hV.new h9, by omega, by simp [b9, sm]⟩
      | true =>
        have c1' : m.fr = id := by simpa using c1
        have hmem : decide (m.no ∈ ks) = hasN dn m.no := by rw [Bool.eq_iff_iff]; simpa using hs m.no
        rw [hmem] at hlk
        refine popsT_lookupG TG_ok (g := true) (V := bo (hasN dn m.no)) (p := .map idm) (q := nK m.no) rfl (by simp [c1']) (fun _ => ⟨by simp [e5], by simp [e5], by simp [nK], hlk⟩) ?_
        cases c2 : hasN dn m.no with
        | true =>
          have hw : waitB ⟨nx, pl, rc, dn⟩ id m = false := by simp [waitB, c2]
          rw [hw] at hft
          simp only [Bool.false_eq_true, if_false, List.append_nil] at hft
          simp [e1, e2, e4, e5, e23, e24, e25, c1', wk]
          exact ⟨pl.length - (k + 1), by omega, k + 1, rfl, by omega, by rw [hft]; exact hV.new h9, by omega, by simp [b9, sm]⟩
        | false =>
          have hw : waitB ⟨nx, pl, rc, dn⟩ id m = true := by simp [waitB, c1, c2]
          rw [hw] at hft
          simp only [if_true] at hft
          obtain ⟨v1, v2⟩ := hV.sv
          simp [e1, e2, e4, e5, e23, e24, e25, c1', hrk, htk, v1, v2]
          refine app_more (okL_filter _ (okL_take o1 k)) om (hV.new h9) ?_
          intro idn σ2 _ hc2 hk2
          rw [← hft] at hc2
          have ol := okL_filter (waitB ⟨nx, pl, rc, dn⟩ id) (okL_take o1 (k + 1))
          have hO := own_msl (n := ((pl.take k).filter (waitB ⟨nx, pl, rc, dn⟩ id)).length + 1) ol (by rw [hft]; simp) hc2
          have hsm2 : σ2 idm = some (.map (setM nK ks)) := keepV hk2 (by simp [b9, sm]) fun k' off len full e => by
            obtain ⟨_, ⟨h1, _⟩ | ⟨j, full', h1, hj⟩ | h1⟩ := hV <;> rw [h1] at e <;> cases e
            rw [sm] at hj; cases hj
          simp [e1, e2, e4, e5, e23, e24, e25, wk]
          exact ⟨pl.length - (k + 1), by omega, k + 1, rfl, by omega, hO, by omega, hsm2⟩
    · have hkk : k = pl.length := by omega
      subst hkk
      rw [List.take_length] at hV
      obtain ⟨v1, v2⟩ := hV.sv
      simp [e1, e2, e4, e5, e23, e24, e25, v1, v2]
      exact hV
end Go.Proofs.Ytnjbcaakdfofcaa

/-
  Trade: Check.
-/
set_option linter.unusedSimpArgs false
set_option linter.unusedVariables false
namespace Go.Proofs.Ytnjbcaakdfofcaa
open Go.Lo

@[simp] theorem TF_dom33 : TF.dom 33 = false := rfl
@[simp] theorem TF_dom34 : TF.dom 34 = false := rfl
@[simp] theorem TF_dom35 : TF.dom 35 = false := rfl
@[simp] theorem TF_dom36 : TF.dom 36 = false := rfl
set_option maxRecDepth 8000 in
theorem all33_ok {l : List Ms} (hl : okL l) {g : FuncId} {cap : List PV} (he : Enters P0 g) (hg : TF.dom g = false) (I : Nat → Heap → Prop) (ok : Nat → Bool)
    (hI : ∀ k σ id x, I k σ → frs σ id → I k (σ.set id x))
    (hstep : ∀ k (h : k < l.length) σ, I k σ → pcalls P0 g ([] ++ [num k, .agg (rowM l[k])] ++ cap) σ fun o σ' => o = .val (bo (ok k)) ∧ (ok k = true → I (k + 1) σ'))
    (σ : Heap) (h0 : I 0 σ) : pcalls P0 33 [encM false l, .fn (.func g) [] cap] σ fun o σ' => o = .val (bo (allN ok l.length && decide ((l.length : Int) ≤ 4096))) ∧ (allN ok l.length = true → I l.length σ') := by
  refine pcalls_body Try.func33 rfl rfl rfl (by show 2 ≤ _; decide) (pwp_go TF_ok ?_)
  simp
  refine pwp_loop (fun N fr σ => ∃ k : Nat, N = l.length - k ∧ k ≤ l.length ∧ fr 0 = encM false l ∧ fr 1 = .fn (.func g) [] cap ∧ fr 7 = encM false l ∧ fr 8 = num l.length ∧ fr 9 = num k ∧ I k σ ∧ ∀ i, i < k → ok i = true)
    (N := l.length) ?_ ?_
  · exact ⟨0, by simp [h0]⟩
  rintro N fr σ ⟨k, rfl, hk, e0, e1, e7, e8, e9, hIk, hi⟩
  refine pwp_go TF_ok ?_
  have hl2 := hl.2
  by_cases hlt : k < l.length
  · have om := hl.1 _ (List.getElem_mem hlt)
    have hx := IAx_encM (b := false) .i64 hlt om.1
    have hrk := rowM_len om.1
    have wk := wrap_succ (k := k) (by omega)
    have htk := take_rowM om
    simp [-NEW_def, e0, e1, e7, e8, e9, hlt, hx, hrk, htk, zM_len]
    refine fun id6 h6 => ?_
    simp [e0, e1, e7, e8, e9, hrk, htk, zM_len, setR_zM, hg]
    refine popsT_callv TF_ok (args := [num k, .agg (rowM l[k])]) he (first := []) (cap := cap) (by simp [e1]) (by simp [e1]) (hstep k hlt _ (hI k σ id6 _ hIk h6)) hg rfl (by simp) (by simp [e9, hrk, htk]) ?_
    rintro o' σ' ⟨rfl, hn⟩
    cases ho : ok k with
    | false =>
      have ha := allN_bad hlt ho
      simp [ha]
    | true =>
      have hn := hn ho
      simp [e0, e1, e7, e8, e9, wk]
      exact ⟨l.length - (k + 1), by omega, k + 1, rfl, by omega, by omega, hn, fun i h => by
        by_cases e : i = k
        · subst e; exact ho
        · exact hi i (by omega)⟩
  · have hkk : k = l.length := by omega
    subst hkk
    have ha : allN ok l.length = true := allN_iff.2 hi
    simp [e0, e1, e7, e8, e9, ha, hIk]
theorem c34_ok (m : Ms) (i id : Int) (hm : okM m) : PFun P0 34 [num i, .agg (rowM m), .ref [num id]] (bo (ofR m && begR m && m.fr == id && m.no == i)) := by
  refine pcalls_body Try.func34 rfl rfl rfl (by show 3 ≤ _; decide) (pwp_go TF_ok ?_)
  have hr := rowM_len hm.1
  have hty := take_rowM hm
  simp (config := { contextual := true }) [hr, hty, hm]

@[simp] theorem inf58 : inf P0 58 = some (1, false) := by kernel_rfl
@[simp] theorem inf59 : inf P0 59 = some (1, false) := by kernel_rfl
@[simp] theorem inf64 : inf P0 64 = some (2, true) := by kernel_rfl
@[simp] theorem ixi64 : ixi P0 64 = none := by kernel_rfl
@[simp] theorem zero64 : zeroP P0 64 = some [num 0, num 0] := by kernel_rfl
@[simp] theorem places64 : places P0 64 = some [(0, 1), (1, 1)] := by kernel_rfl
@[simp] theorem zero58 : zeroP P0 58 = some [.lit (.map none)] := by kernel_rfl
@[simp] theorem zero59 : zeroP P0 59 = some [.lit (.map none)] := by kernel_rfl
theorem mapT58 : mapT P0 58 = some (64, 4) := by kernel_rfl
theorem eq64 : eqS P0 64 = some [(0, .int .i64), (1, .int .i64)] := by kernel_rfl
theorem keyT64 : keyT P0 64 = true := by kernel_rfl
def oK (x : Int × Int) : PV := .agg [num x.1, num x.2]
theorem oK_ok : KeyOk P0 64 oK where
  t := keyT64
  eq a b := by
    show evEq P0 64 _ _ = _
    unfold evEq
    rw [eq64]
    obtain ⟨a1, a2⟩ := a
    obtain ⟨b1, b2⟩ := b
    simp [litFit, litEq]
    rw [Bool.eq_iff_iff]; simp
  plain a := rfl
set_option maxRecDepth 8000 in
theorem c35_ok (m : Ms) (i id : Int) (hm : okM m) {σ : Heap} {idm : Nat} {ks : List (Int × Int)} (sm : σ idm = some (.map (setM oK ks))) : pcalls P0 35 [num i, .agg (rowM m), .ref [.map idm], .ref [num id]] σ fun o σ' =>
    o = .val (bo (ofR m && begR m && m.to == id && !decide ((m.fr, m.no) ∈ ks))) ∧ σ' idm = some (.map (setM oK (addK ks (m.fr, m.no)))) ∧ ∀ j x, j ≠ idm → σ j = some x → σ' j = some x := by
  refine pcalls_body Try.func35 rfl rfl rfl (by show 4 ≤ _; decide) (pwp_go TF_ok ?_)
  have hr := rowM_len hm.1
  have hty := take_rowM hm
  simp [-NEW_def, hr, hty, hm]
  intro id5 h5
  have b5 := frs.ne (show frs σ id5 from h5) sm
  simp [-NEW_def, hr, hty, hm]
  intro id7 h7
  have h7 : frs (σ.set id5 (.cells (rowM m))) id7 := h7
  simp at h7
  obtain ⟨b75, f7⟩ := h7
  have b7 := f7.ne sm
  simp [hr, hty, hm, b75]
  have hlk := evLook_set (σ := (σ.set id5 (.cells (rowM m))).set id7 (.cells [num m.fr, num m.no])) oK_ok mapT58 zeroL4 (ks := ks) (id := idm) (by simp [b5, b7, sm]) (m.fr, m.no)
  refine popsT_lookup TF_ok (p := .map idm) (q := oK (m.fr, m.no)) rfl (by simp) (by simp) (by simp) (by simp [oK]) hlk ?_
  simp [hr, hty, hm, b75]
  refine popsT_mapUpdate TF_ok (p := .map idm) (q := oK (m.fr, m.no)) (r := .lit (.bool true)) rfl (by simp) (by simp) (by simp) (by simp) (by simp [oK]) (by simp) ?_
  refine updP_set oK_ok mapT58 (ks := ks) (by simp [b5, b7, sm]) (m.fr, m.no) ?_
  simp (config := { contextual := true }) [hr, hty, hm, b75, b5, b7]
  refine ⟨by congr, fun j x hj hx => ?_⟩
  have n7 := f7.ne hx
  have n5 := frs.ne (show frs σ id5 from h5) hx
  simp [n7, n5]
def c36B (pl : List Ms) (m : Ms) (ks : List Int) : Bool := ofR m && decide (m.no < pl.length) && sameT m (ansT (pl.getD m.no.toNat m0)) && !decide (m.no ∈ ks)
set_option maxRecDepth 8000 in
theorem c36_ok (m : Ms) (i nx : Int) (pl rc dn : List Ms) (hm : okM m) (o1 : okL pl) {σ : Heap} {idm : Nat} {ks : List Int} (sm : σ idm = some (.map (setM nK ks))) :
    pcalls P0 36 [num i, .agg (rowM m), .ref [.map idm], .ref [num nx, encM false pl, encM false rc, encM false dn]] σ fun o σ' =>
    o = .val (bo (c36B pl m ks)) ∧ σ' idm = some (.map (setM nK (addK ks m.no))) ∧ ∀ j x, j ≠ idm → σ j = some x → σ' j = some x := by
  refine pcalls_body Try.func36 rfl rfl rfl (by show 4 ≤ _; decide) (pwp_go TF_ok ?_)
  have hr := rowM_len hm.1
  have hty := take_rowM hm
  simp [-NEW_def, hr, hty, hm]
  intro id5 h5
  have b5 := frs.ne (show frs σ id5 from h5) sm
  simp [-NEW_def, hr, hty, hm]
  have hlk := evLook_set (σ := σ.set id5 (.cells (rowM m))) nK_ok mapT59 zeroL4 (ks := ks) (id := idm) (by simp [b5, sm]) m.no
  refine popsT_lookup TF_ok (p := .map idm) (q := nK m.no) rfl (by simp) (by simp) (by simp) (by simp [nK]) hlk ?_
  simp [hr, hty, hm]
  refine popsT_mapUpdate TF_ok (p := .map idm) (q := nK m.no) (r := .lit (.bool true)) rfl (by simp) (by simp) (by simp) (by simp) (by simp [nK]) (by simp) ?_
  refine updP_set nK_ok mapT59 (ks := ks) (by simp [b5, sm]) m.no ?_
  simp [hr, hty, hm, b5]
  refine pwp_drawT TF_ok 25 mixed (by kernel_rfl) ?_
  have fin : ∀ j x, ¬ j = idm → σ j = some x → SameId j id5 → PObj.cells (rowM m) = x := fun j x hj hx e => absurd (Eq.symm e) (frs.ne (show frs σ id5 from h5) hx)
  unfold c36B
  cases c1 : ofR m with
  | false => simp (config := { contextual := true }) [hr, hty, hm, b5, c1]; exact fin
  | true =>
  obtain ⟨n, hn⟩ : ∃ n : Nat, m.no = n := ⟨m.no.toNat, by have := ofR_no c1; omega⟩
  by_cases c2 : n < pl.length
  · have op := o1.1 _ (List.getElem_mem c2)
    have hxp := IAx_encM (b := false) .i64 c2 op.1
    have hLp := fun σ => Lx_rowM (m := pl[n]) σ op.1
    have hg : pl.getD m.no.toNat m0 = pl[n] := by rw [hn, Int.toNat_natCast, getD_lt c2]
    have oa := okM_ansT op
    rw [hg]
    simp (config := { contextual := true }) [hr, hty, hm, b5, c1, hn, c2, hxp, hLp, op, oa]
    exact fin
  · simp (config := { contextual := true }) [hr, hty, hm, b5, c1, hn, c2]
    exact fin
end Go.Proofs.Ytnjbcaakdfofcaa

/-
  Trade: Check, joined.
-/
set_option linter.unusedSimpArgs false
set_option linter.unusedVariables false
namespace Go.Proofs.Ytnjbcaakdfofcaa
open Go.Lo

theorem ansT_ansR {p : Ms} (h : begR p = true) : ansT p = ansR p := by
  simp only [begR, Bool.or_eq_true, beq_iff_eq] at h
  unfold ansT ansR
  rcases h with h | h <;> rw [h] <;> rfl
theorem ofR_rest {m : Ms} (h : ofR m = true) (hm : okM m) : m.l1 = 0 ∧ m.l2 = 0 ∧ m.l3 = 0 ∧ m.sl = List.replicate 32 0 := by
  simp only [ofR, Bool.and_eq_true, beq_iff_eq, sealZ, List.all_eq_true] at h
  obtain ⟨⟨_, ⟨h1, h2⟩, h3⟩, h4⟩ := h
  refine ⟨h1, h2, h3, ?_⟩
  rw [← hm.1]
  exact List.eq_replicate_iff.2 ⟨rfl, fun x hx => h4 x hx⟩
theorem same_ans {m p : Ms} (hm : okM m) (hp : okM p) (h1 : ofR m = true) (h2 : ofR p = true) (h3 : begR p = true) : sameT m (ansT p) = decide (m = ansR p) := by
  rw [ansT_ansR h3, ← sameR_eq hm (okM_ansR hp)]
  obtain ⟨a1, a2, a3, a4⟩ := ofR_rest h1 hm
  obtain ⟨b1, b2, b3, b4⟩ := ofR_rest h2 hp
  have e : (ansR p).l1 = 0 ∧ (ansR p).l2 = 0 ∧ (ansR p).l3 = 0 ∧ (ansR p).sl = List.replicate 32 0 := ⟨b1, b2, b3, b4⟩
  unfold sameR
  rw [a1, a2, a3, a4, e.1, e.2.1, e.2.2.1, e.2.2.2, sealE_refl]
  simp
theorem plB_parts {id : Int} {l : List Ms} (h : allN (plB id l) l.length = true) {n : Nat} (hn : n < l.length) : ofR l[n] = true ∧ begR l[n] = true ∧ l[n].fr = id ∧ l[n].no = (n : Int) := by
  have := allN_iff.1 h n hn
  unfold plB at this
  rw [getD_lt hn] at this
  simp only [Bool.and_eq_true, beq_iff_eq] at this
  exact ⟨this.1.1.1, this.1.1.2, this.1.2, this.2⟩
def setP (l : List Ms) (ks : List (Int × Int)) : Prop := ∀ m, decide ((m.fr, m.no) ∈ ks) = hasR l m
theorem setP_nil : setP [] [] := fun m => by simp [hasR]
theorem setP_add {l : List Ms} {k : Nat} (h : k < l.length) {ks : List (Int × Int)} (hs : setP (l.take k) ks) : setP (l.take (k + 1)) (addK ks (l[k].fr, l[k].no)) := fun m => by
  have e : hasR (l.take (k + 1)) m = (hasR (l.take k) m || (l[k].fr == m.fr && l[k].no == m.no)) := by
    unfold hasR
    rw [List.take_succ_eq_append_getElem h, List.any_append]; simp
  rw [e, ← hs m, Bool.eq_iff_iff]
  simp only [decide_eq_true_eq, mem_addK, Bool.or_eq_true, Bool.and_eq_true, beq_iff_eq, Prod.mk.injEq]
  constructor
  · rintro (⟨h1, h2⟩ | h)
    · exact .inr ⟨h1.symm, h2.symm⟩
    · exact .inl h
  · rintro (h | ⟨h1, h2⟩)
    · exact .inr h
    · exact .inl ⟨h1.symm, h2.symm⟩
@[simp] theorem frzN_map (n : Nat) (σ : Heap) (id : Nat) : frzN n σ (.map id) = .map id := by cases n <;> rfl
set_option maxRecDepth 8000 in
set_option maxHeartbeats 4000000 in
theorem check15_ok (t : Td) (id : Int) (ht : okT t) : PFun P0 15 [.agg (tdC t), num id] (num (chkE t id)) := by
  refine pcalls_body Try.func15 rfl rfl rfl (by show 2 ≤ _; decide) (pwp_goK TF_ok [2] ?_)
  obtain ⟨o1, o2, o3⟩ := ht
  obtain ⟨nx, pl, rc, dn⟩ := t
  simp only at o1 o2 o3
  simp [tdC]
  intro id2 id3 b32
  refine popsT_makeMap TF_ok rfl fun idm hm => ?_
  simp at hm
  simp [b32]
  refine popsT_makeMap TF_ok rfl fun idn hn => ?_
  simp at hn
  simp (config := { contextual := true }) [b32, hm, hn]
  intro id5 h5a h5b h5c h5d id6 h6a h6b h6c h6d h6e
  refine pwpT_go (pwp_frz 1 ((((Heap.empty.set id2 (.cells [num nx, encM false pl, encM false rc, encM false dn])).set id3 (.cells [num id])).set id5 (.cells [.map idm])).set id6 (.cells [.map idn]))
    (Frz.set (Frz.set (Frz.set (Frz.set Frz.none (by simp [b32, hm, hn, h5a, h5b, h5c, h5d, h6a, h6b, h6c, h6d, h6e])) (by simp [b32, hm, hn, h5a, h5b, h5c, h5d, h6a, h6b, h6c, h6d, h6e])) (by simp [b32, hm, hn, h5a, h5b, h5c, h5d, h6a, h6b, h6c, h6d, h6e])) (by simp [b32, hm, hn, h5a, h5b, h5c, h5d, h6a, h6b, h6c, h6d, h6e])) ?_)
  refine pwp_gen (I := fun fr σ => fr 2 = .ref [num nx, encM false pl, encM false rc, encM false dn] ∧ fr 3 = .ref [num id] ∧ fr 5 = .ref [.map idm] ∧ fr 6 = .ref [.map idn] ∧ σ idm = some (.map []) ∧ σ idn = some (.map [])) ?_ ?_
  · simp [b32, hm, hn, h5a, h5b, h5c, h5d, h6a, h6b, h6c, h6d, h6e]
  have hnm : idn ≠ idm := by first | exact hn.1 | exact hn.2.1 | simp_all
  rintro fr σ ⟨e2, e3, e5, e6, sm, sn⟩
  refine pwp_go TF_ok ?_
  cases g1 : firmR id && nx == (pl.length : Int) with
  | false =>
    have hc : chkE ⟨nx, pl, rc, dn⟩ id = 480 := by simp [chkE, chk, hdB, g1]
    simp [e2, e3, e5, e6, g1]
    refine popsT_skip TF_ok rfl (by simp [g1]) rfl ?_
    simp [e2, e3, e5, e6, g1]
    refine popsT_skip TF_ok rfl (by simp) rfl ?_
    simp [e2, e3, e5, e6, g1]
    refine popsT_skip TF_ok rfl (by simp) rfl ?_
    simp [e2, e3, e5, e6, hc]
  | true =>
  have g1' := g1
  simp only [Bool.and_eq_true, beq_iff_eq] at g1
  obtain ⟨f1, rfl⟩ := g1
  simp [e2, e3, e5, e6, f1]
  have A1 := all33_ok o1 (g := 34) (cap := [.ref [num id]]) Try.call34 rfl (fun _ σ => σ idm = some (.map []) ∧ σ idn = some (.map [])) (plB id pl)
    (fun k σ id' x h hf => by simp [frs.ne hf h.1, frs.ne hf h.2, h.1, h.2])
    (fun k h σ hI => ((c34_ok pl[k] k id (o1.1 _ (List.getElem_mem h))).calls).mono fun o σ' ⟨q1, q2⟩ => by
      subst q2
      refine ⟨?_, fun _ => hI⟩
      rw [q1]; unfold plB; rw [getD_lt h]) σ ⟨sm, sn⟩
  refine popsT_callG TF_ok Try.call33 (by simp [f1]) A1 rfl rfl (by simp [e2]) (by simp [e2, e3]) ?_
  rintro o' σ1 ⟨rfl, k1⟩
  simp only
  cases b1 : allN (plB id pl) pl.length && decide ((pl.length : Int) ≤ 4096) with
  | false =>
    have hc : chkE ⟨pl.length, pl, rc, dn⟩ id = 480 := by
      have : chk ⟨pl.length, pl, rc, dn⟩ id = false := by
        rcases (Bool.and_eq_false_iff.1 b1) with h | h <;> simp [chk, hdB, h]
      simp [chkE, this]
    simp [e2, e3, e5, e6, f1]
    refine popsT_skip TF_ok rfl (by simp) rfl ?_
    simp [e2, e3, e5, e6, f1]
    refine popsT_skip TF_ok rfl (by simp) rfl ?_
    simp [e2, e3, e5, e6, hc]
  | true =>
  have b1' := b1
  simp only [Bool.and_eq_true, decide_eq_true_eq] at b1
  obtain ⟨p1, p2⟩ := b1
  obtain ⟨sm1, sn1⟩ := k1 p1
  simp [e2, e3, e5, e6, f1]
  have A2 := all33_ok o2 (g := 35) (cap := [.ref [.map idm], .ref [num id]]) Try.call35 rfl (fun k σ => (∃ ks, σ idm = some (.map (setM oK ks)) ∧ setP (rc.take k) ks) ∧ σ idn = some (.map [])) (rcB id rc)
    (fun k σ id' x h hf => by
      obtain ⟨⟨ks, h1, h2⟩, h3⟩ := h
      exact ⟨⟨ks, by simp [frs.ne hf h1, h1], h2⟩, by simp [frs.ne hf h3, h3]⟩)
    (fun k h σ hI => by
      obtain ⟨⟨ks, h1, h2⟩, h3⟩ := hI
      refine (c35_ok rc[k] k id (o2.1 _ (List.getElem_mem h)) h1).mono fun o σ' ⟨q1, q2, q3⟩ => ⟨?_, fun _ => ⟨⟨_, q2, setP_add h h2⟩, q3 idn _ hnm h3⟩⟩
      rw [q1]; unfold rcB; rw [getD_lt h, h2]) σ1 ⟨⟨[], by simpa [setM] using sm1, by simpa using setP_nil⟩, sn1⟩
  refine popsT_callG TF_ok Try.call33 (by simp [f1]) A2 rfl rfl (by simp [e2]) (by simp [e2, e3, e5]) ?_
  rintro o' σ2 ⟨rfl, k2⟩
  simp only
  cases b2 : allN (rcB id rc) rc.length && decide ((rc.length : Int) ≤ 4096) with
  | false =>
    have hc : chkE ⟨pl.length, pl, rc, dn⟩ id = 480 := by
      have : chk ⟨pl.length, pl, rc, dn⟩ id = false := by
        rcases (Bool.and_eq_false_iff.1 b2) with h | h <;> simp [chk, hdB, h]
      simp [chkE, this]
    simp [e2, e3, e5, e6, f1]
    refine popsT_skip TF_ok rfl (by simp) rfl ?_
    simp [e2, e3, e5, e6, hc]
  | true =>
  have b2' := b2
  simp only [Bool.and_eq_true, decide_eq_true_eq] at b2
  obtain ⟨r1, r2⟩ := b2
  obtain ⟨_, sn2⟩ := k2 r1
  simp [e2, e3, e5, e6, f1]
  have A3 := all33_ok o3 (g := 36) (cap := [.ref [.map idn], .ref [num pl.length, encM false pl, encM false rc, encM false dn]]) Try.call36 rfl (fun k σ => ∃ ks, σ idn = some (.map (setM nK ks)) ∧ setN (dn.take k) ks) (dnB pl dn)
    (fun k σ id' x h hf => by
      obtain ⟨ks, h1, h2⟩ := h
      exact ⟨ks, by simp [frs.ne hf h1, h1], h2⟩)
    (fun k h σ hI => by
      obtain ⟨ks, h1, h2⟩ := hI
      have om := o3.1 _ (List.getElem_mem h)
      refine (c36_ok dn[k] k pl.length pl rc dn om o1 h1).mono fun o σ' ⟨q1, q2, q3⟩ => ⟨?_, fun _ => ⟨_, q2, setN_add h h2⟩⟩
      rw [q1]
      have hm : decide (dn[k].no ∈ ks) = hasN (dn.take k) dn[k].no := by rw [Bool.eq_iff_iff]; simpa using h2 dn[k].no
      unfold c36B dnB
      rw [getD_lt h, hm]
      cases c1 : ofR dn[k] with
      | false => rfl
      | true =>
      by_cases c2 : dn[k].no < pl.length
      · obtain ⟨n, hn⟩ : ∃ n : Nat, dn[k].no = n := ⟨dn[k].no.toNat, by have := ofR_no c1; omega⟩
        have hnl : n < pl.length := by omega
        obtain ⟨w1, w2, w3, w4⟩ := plB_parts p1 hnl
        have := same_ans om (o1.1 _ (List.getElem_mem hnl)) c1 w1 w2
        rw [hn, Int.toNat_natCast, getD_lt hnl, this]
      · simp [c2]) σ2 ⟨[], by simpa [setM] using sn2, by simpa using setN_nil⟩
  refine popsT_callG TF_ok Try.call33 (by simp [f1]) A3 rfl rfl (by simp [e2]) (by simp [e2, e6]) ?_
  rintro o' σ3 ⟨rfl, k3⟩
  simp only
  cases b3 : allN (dnB pl dn) dn.length && decide ((dn.length : Int) ≤ 4096) with
  | false =>
    have hc : chkE ⟨pl.length, pl, rc, dn⟩ id = 480 := by
      have : chk ⟨pl.length, pl, rc, dn⟩ id = false := by
        rcases (Bool.and_eq_false_iff.1 b3) with h | h <;> simp [chk, hdB, h]
      simp [chkE, this]
    simp [e2, e3, e5, e6, hc]
  | true =>
    simp only [Bool.and_eq_true, decide_eq_true_eq] at b3
    have hc : chkE ⟨pl.length, pl, rc, dn⟩ id = 0 := by
      have : chk ⟨pl.length, pl, rc, dn⟩ id = true := by simp [chk, hdB, f1, p1, p2, r1, r2, b3.1, b3.2]
      simp [chkE, this]
    simp [e2, e3, e5, e6, hc]
end Go.Proofs.Ytnjbcaakdfofcaa

/-
  Trade: Place.
-/
set_option linter.unusedSimpArgs false
set_option linter.unusedVariables false
namespace Go.Proofs.Ytnjbcaakdfofcaa
open Go.Lo

def TH : Tab := ((TF.add 15 fun a _ => ti (fun t n => num (chkE t n)) a).add 16 fun a _ => ti (fun t n => num (chkE t n)) a).add 18 fun a _ => ti (fun t n => encM false (waitN t n)) a
theorem TH_ok : TH.ok P0 := Tab.add_fun (Tab.add_fun (Tab.add_fun TF_ok Try.call15 (ti_fun check15_ok)) Try.call16 (ti_fun rcheck16_ok)) Try.call18 (ti_fun wait18_ok)
@[simp] theorem TH_dom15 : TH.dom 15 = true := rfl
@[simp] theorem TH_dom27 : TH.dom 27 = true := rfl
@[simp] theorem TH_dom28 : TH.dom 28 = true := rfl
@[simp] theorem TH_dom37 : TH.dom 37 = true := rfl
@[simp] theorem TH_dom38 : TH.dom 38 = true := rfl
@[simp] theorem TH_ev15 (a : List PV) (σ : Heap) : TH.ev 15 a σ = ti (fun t n => num (chkE t n)) a := rfl
@[simp] theorem TH_ev27 (a : List PV) (σ : Heap) : TH.ev 27 a σ = m1 (fun m => bo (ofR m)) a := rfl
@[simp] theorem TH_ev28 (a : List PV) (σ : Heap) : TH.ev 28 a σ = m1 (fun m => bo (begR m)) a := rfl
@[simp] theorem TH_ev37 (a : List PV) (σ : Heap) : TH.ev 37 a σ = m2 (fun m n => bo (sameT m n)) a := rfl
@[simp] theorem TH_ev38 (a : List PV) (σ : Heap) : TH.ev 38 a σ = m1 (fun m => .agg (rowM (ansT m))) a := rfl
/-- What is returned may still stand in memory. -/
def FK (r : PV) (o : Out) (σ' : Heap) : Prop := ∃ k σf, Frz σf σ' ∧ ∃ r', frzO k σf o = .val r' ∧ PLe r' r
theorem FK_fun {f : FuncId} {args : List PV} {r : PV} (h : pcalls P0 f args Heap.empty (FK r)) : PFun P0 f args r := by
  refine pcalls.wk (pcalls_frz (h.mono fun o σ' hK => ?_))
  obtain ⟨k, σf, h1, r', h2, h3⟩ := hK
  exact ⟨k, σf, h1, r', h2, h3⟩
theorem FK_ret {r v : PV} {σ : Heap} (h : PLe v r) : FK r (.val v) σ := ⟨0, Heap.empty, Frz.none, v, rfl, h⟩
theorem FK_frz {r v : PV} {σ : Heap} (k : Nat) (σf : Heap) (hf : Frz σf σ) (h : PLe (frzN k σf v) r) : FK r (.val v) σ := ⟨k, σf, hf, _, rfl, h⟩

set_option maxRecDepth 8000 in
set_option maxHeartbeats 4000000 in
theorem place11_ok (t : Td) (m : Ms) (ht : okT t) (hm : okM m) : PFun P0 11 [.agg (tdC t), .agg (rowM m)] (placeV t m) := by
  refine FK_fun (pcalls_body Try.func11 rfl rfl rfl (by show 2 ≤ _; decide) (pwp_goK TH_ok [1] ?_))
  obtain ⟨o1, o2, o3⟩ := ht
  obtain ⟨nx, pl, rc, dn⟩ := t
  simp only at o1 o2 o3
  have hr := rowM_len hm.1
  simp [tdC, hr]
  intro id2 id3 a1 id4 a2 a3 id5 a4 a5 a6
  refine pwpT_go (pwp_frz 1 ((Heap.empty.set id2 (.cells [num nx, encM false pl, encM false rc, encM false dn])).set id3 (.cells (rowM m))) (Frz.set (Frz.set Frz.none (by simp [a1, a2, a3, a4, a5, a6])) (by simp [a1, a2, a3, a4, a5, a6])) ?_)
  refine pwp_gen (I := fun fr σ => fr 2 = .ref [num nx, encM false pl, encM false rc, encM false dn] ∧ fr 3 = .ref (rowM m) ∧ fr 4 = .ptr id4 0 ∧ fr 5 = .ptr id5 0 ∧ σ id4 = some (.cells tdZ) ∧ σ id5 = some (.cells zM)) ?_ ?_
  · simp [a1, a2, a3, a4, a5, a6, frzN_rowM, tdZ]
  have h54 : Apart id5 id4 := by assumption
  clear a1 a2 a3 a4 a5 a6
  rintro fr σ ⟨e2, e3, e4, e5, s4, s5⟩
  refine pwp_go TH_ok ?_
  cases hc : chk ⟨nx, pl, rc, dn⟩ m.fr with
  | false =>
    have hce : chkE ⟨nx, pl, rc, dn⟩ m.fr = 480 := by simp [chkE, hc]
    have hv : placeV ⟨nx, pl, rc, dn⟩ m = .tup [.agg (tdC t0), .agg (rowM m0), num 480] := by simp [placeV, placeN, hc]
    simp [e2, e3, e4, e5, s4, s5, h54, hr, o1, o2, o3, hce, hv]
    refine pwp_drawX TH_ok 5 [3, 4] [.r 0, .r 1, .r 2, .e 3, .c 1, .c 2, .e 4, .c 2] mixed (by kernel_rfl) ?_
    simp [e2, e3, e4, e5, s4, s5, h54, zM_len, setR_zM, tdZ]
    rw [hv]
    exact FK_ret (placeZ_le 480)
  | true =>
    obtain ⟨q1, q2, q3, q4⟩ := chk_lens hc
    simp only at q1 q2 q3 q4
    have hce : chkE ⟨nx, pl, rc, dn⟩ m.fr = 0 := by simp [chkE, hc]
    have oy : okM { m with no := nx } := hm
    have hry := rowM_len oy.1
    have hty := take_rowM oy
    by_cases hl : nx = 4096
    · subst hl
      have hv : placeV ⟨4096, pl, rc, dn⟩ m = .tup [.agg (tdC t0), .agg (rowM m0), num 2] := by simp [placeV, placeN, hc]
      simp [e2, e3, e4, e5, s4, s5, h54, hr, o1, o2, o3, hce, hv]
      refine pwp_drawX TH_ok 3 [2] [.r 0, .r 1, .e 2, .c 1] mixed (by kernel_rfl) ?_
      simp [e2, e3, e4, e5, s4, s5, h54, zM_len, setR_zM, tdZ]
      rw [hv]
      exact FK_ret (placeZ_le 2)
    · have hle : pl.length < 4096 := by omega
      have wn : IntKind.i64.wrap (nx + 1) = nx + 1 := wrap_i64 (by omega) (by omega)
      obtain ⟨y, hy⟩ : ∃ y, { m with no := nx } = y := ⟨_, rfl⟩
      have hpm : plM ⟨nx, pl, rc, dn⟩ m = y := hy
      have hsy := setR_no m nx
      rw [hy] at oy hry hty hsy
      have bad : (ofR y && begR y) = false → placeV ⟨nx, pl, rc, dn⟩ m = .tup [.agg (tdC t0), .agg (rowM m0), num 480] := fun hq => by
        rw [placeV, placeN, if_pos hc, if_neg hl, hpm, hq]; rfl
      simp [-NEW_def, e2, e3, e4, e5, s4, s5, h54, hr, o1, o2, o3, hce, hl, zM_len, setR_zM, take_rowM hm]
      refine fun id8 h8 => ?_
      have b4 := frs.ne (show frs σ id8 from h8) s4
      have b5 := frs.ne (show frs σ id8 from h8) s5
      cases c1 : ofR y with
      | false =>
        have hv := bad (by rw [c1]; rfl)
        simp [e2, e3, e4, e5, s4, s5, b4, b5, h54, hr, hsy, hry, hty, oy, o1, o2, o3, hce, hl, c1, zM_len, setR_zM, take_rowM hm]
        refine pwp_drawX TH_ok 3 [2] [.r 0, .r 1, .e 2, .c 1] mixed (by kernel_rfl) ?_
        simp [e2, e3, e4, e5, s4, s5, b4, b5, h54, zM_len, setR_zM, tdZ]
        rw [hv]
        exact FK_ret (placeZ_le 480)
      | true =>
      cases c2 : begR y with
      | false =>
        have hv := bad (by rw [c2]; simp)
        simp [e2, e3, e4, e5, s4, s5, b4, b5, h54, hr, hsy, hry, hty, oy, o1, o2, o3, hce, hl, c1, c2, zM_len, setR_zM, take_rowM hm]
        refine pwp_drawX TH_ok 3 [2] [.r 0, .r 1, .e 2, .c 1] mixed (by kernel_rfl) ?_
        simp [e2, e3, e4, e5, s4, s5, b4, b5, h54, zM_len, setR_zM, tdZ]
        rw [hv]
        exact FK_ret (placeZ_le 480)
      | true =>
        have hv : placeV ⟨nx, pl, rc, dn⟩ m = .tup [.agg (tdC ⟨nx + 1, pl ++ [y], rc, dn⟩), .agg (rowM y), num 0] := by
          rw [placeV, placeN, if_pos hc, if_neg hl, hpm, c1, c2]; simp [plT, hpm]
        have zl : tdZ.length = 4 := rfl
        have zs : ∀ a b c d, setR tdZ 0 [a, b, c, d] = [a, b, c, d] := fun _ _ _ _ => rfl
        simp [e2, e3, e4, e5, s4, s5, b4, b5, h54, hr, hsy, hry, hty, oy, o1, o2, o3, hce, hl, c1, c2, wn, zM_len, setR_zM, take_rowM hm, zl, zs]
        refine pwpT_go (pwp_gen (I := fun fr σ => fr 2 = .ref [num nx, encM false pl, encM false rc, encM false dn] ∧ fr 4 = .ptr id4 0 ∧ fr 5 = .ptr id5 0 ∧ fr 8 = .ptr id8 0 ∧ σ id4 = some (.cells [num (nx + 1), encM false pl, encM false rc, encM false dn]) ∧ σ id5 = some (.cells zM) ∧ σ id8 = some (.cells (rowM y))) ?_ ?_)
        · simp [e2, e4, e5, s4, s5, b4, b5, h54]
        clear e2 e3 e4 e5 s4 s5 h8
        rintro fr σ ⟨e2, e4, e5, e8, s4, s5, s8⟩
        refine pwp_drawX TH_ok 5 [2] [.r 0, .r 1, .r 3, .r 4, .e 2, .c 3, .c 4] mixed (by kernel_rfl) ?_
        simp [e2, e4, e5, e8, s4, s5, s8, b4, b5, hry, hty]
        refine eE_call Try.call29 (clone29_ok pl o1 σ) rfl (by simp) (by simp) ?_
        rintro o' σ1 ⟨V, rfl, hV, hk, hne⟩
        refine ⟨V, rfl, ?_⟩
        obtain ⟨v1, v2⟩ := hV.sv
        have k4 := keepC hk s4
        have k5 := keepC hk s5
        have k8 := keepC hk s8
        have nV : ∀ {j x}, σ j = some x → ∀ k off len full, V ≠ .msl j k off len full := fun hj k off len full e => by
          have := hne _ k off len full e
          rw [hj] at this; cases this
        simp [e2, e4, e5, e8, k4, k5, k8, b4, b5, hry, hty, v1, v2]
        refine app_more o1 oy hV ?_
        intro id σ2 hid hc2 hk2
        have c4 := hid.ne k4
        have c5 := hid.ne k5
        have c8 := hid.ne k8
        have l4 := keepV hk2 k4 (nV s4)
        have l5 := keepV hk2 k5 (nV s5)
        have l8 := keepV hk2 k8 (nV s8)
        simp [e2, e4, e5, e8, l4, l5, l8, b4, b5, hry, hty]
        refine pwp_drawX TH_ok 3 [2] [.r 0, .r 1, .e 2, .c 1] mixed (by kernel_rfl) ?_
        simp [e2, e4, e5, e8, l4, l5, l8, b4, b5, h54, hry, hty, zM_len, setR_zM]
        obtain ⟨L, hL⟩ : ∃ L, pl ++ [y] = L := ⟨_, rfl⟩
        have oL : okL L := by rw [← hL]; exact okL_app o1 oy (by omega)
        have hLl : pl.length + 1 = L.length := by rw [← hL]; simp
        rw [hL] at hc2 hv
        rw [hv]
        refine FK_frz 3 (Heap.empty.set id (.cells (L.map rowM).flatten)) (Frz.set Frz.none (by simp [c4, c5, hc2])) ?_
        simp [frzN_rowM, flat_len oL, hLl, chunkM' oL, tdC]
        exact .refl _
end Go.Proofs.Ytnjbcaakdfofcaa

/-
  Trade: Take.
-/
set_option linter.unusedSimpArgs false
set_option linter.unusedVariables false
namespace Go.Proofs.Ytnjbcaakdfofcaa
open Go.Lo

theorem f43_ok (o m : Ms) (ho : okM o) (hm : okM m) : PFun P0 43 [.agg (rowM o), .ref (rowM m)] (bo (mFN m o)) := by
  refine pcalls_body Try.func43 rfl rfl rfl (by show 2 ≤ _; decide) (pwp_go TH_ok ?_)
  have hr := rowM_len ho.1
  have hr2 := rowM_len hm.1
  unfold mFN
  simp (config := { contextual := true }) [hr, hr2]
theorem f45_ok (o m : Ms) (ho : okM o) (hm : okM m) : PFun P0 45 [.agg (rowM o), .ref (rowM m)] (bo (o.no == m.no)) := by
  refine pcalls_body Try.func45 rfl rfl rfl (by show 2 ≤ _; decide) (pwp_go TH_ok ?_)
  have hr := rowM_len ho.1
  have hr2 := rowM_len hm.1
  simp (config := { contextual := true }) [hr, hr2]
def mr (r : Ms → Ms → PV) : List PV → EV
  | [.agg c, .ref d] => ⟨isM c ∧ isM d, r (decM c) (decM d)⟩
  | _ => .no
@[simp] theorem mr_mk (r : Ms → Ms → PV) (c d : List PV) : mr r [.agg c, .ref d] = ⟨isM c ∧ isM d, r (decM c) (decM d)⟩ := rfl
theorem mr_fun {f : FuncId} {r : Ms → Ms → PV} (k : ∀ m n, okM m → okM n → PFun P0 f [.agg (rowM m), .ref (rowM n)] (r m n)) (args : List PV) (hd : (mr r args).D) : PFun P0 f args (mr r args).V := by
  unfold mr at hd ⊢
  split at hd
  · obtain ⟨h1, h2⟩ := isM_le hd.1
    obtain ⟨h3, h4⟩ := isM_le hd.2
    exact pcalls.args (k _ _ h2 h4) (.cons (.agg h1) (.cons (.ref h3) .nil))
  · exact hd.elim
def TI : Tab := (TH.add 43 fun a _ => mr (fun o m => bo (mFN m o)) a).add 45 fun a _ => mr (fun o m => bo (o.no == m.no)) a
theorem TI_ok : TI.ok P0 := Tab.add_fun (Tab.add_fun TH_ok Try.call43 (mr_fun f43_ok)) Try.call45 (mr_fun f45_ok)
@[simp] theorem TI_dom43 : TI.dom 43 = true := rfl
@[simp] theorem TI_dom45 : TI.dom 45 = true := rfl
@[simp] theorem TI_dom42 : TI.dom 42 = false := rfl
@[simp] theorem TI_ev43 (a : List PV) (σ : Heap) : TI.ev 43 a σ = mr (fun o m => bo (mFN m o)) a := rfl
@[simp] theorem TI_ev45 (a : List PV) (σ : Heap) : TI.ev 45 a σ = mr (fun o m => bo (o.no == m.no)) a := rfl
def ixR (p : Ms → Bool) (l : List Ms) : Int := match l.findIdx? p with | some k => (k : Int) | none => -1
theorem ixR_at {p : Ms → Bool} {l : List Ms} {k : Nat} (h : k < l.length) (hi : ∀ i (h : i < l.length), i < k → p l[i] = false) (hk : p l[k] = true) : ixR p l = k := by
  have : l.findIdx? p = some k := List.findIdx?_eq_some_iff_getElem.2 ⟨h, hk, fun j hj => by rw [hi j (by omega) hj]; simp⟩
  unfold ixR; rw [this]
theorem ixR_no {p : Ms → Bool} {l : List Ms} (hi : ∀ i (h : i < l.length), p l[i] = false) : ixR p l = -1 := by
  have : l.findIdx? p = none := List.findIdx?_eq_none_iff.2 fun x hx => by
    obtain ⟨i, h, rfl⟩ := List.getElem_of_mem hx
    exact hi i h
  unfold ixR; rw [this]
set_option maxRecDepth 8000 in
theorem ix42_ok {l : List Ms} (hl : okL l) {g : FuncId} {cap : List PV} {p : Ms → Bool} (hg : TI.dom g = true) (hp : ∀ m σ, okM m → TI.ev g (.agg (rowM m) :: cap) σ = ⟨True, bo (p m)⟩) :
    PFun P0 42 [encM false l, .fn (.func g) [] cap] (num (ixR p l)) := by
  refine pcalls_body Try.func42 rfl rfl rfl (by show 2 ≤ _; decide) (pwp_go TI_ok ?_)
  simp
  refine pwp_loop (fun N fr σ => ∃ k : Nat, N = l.length - k ∧ k ≤ l.length ∧ fr 0 = encM false l ∧ fr 1 = .fn (.func g) [] cap ∧ fr 6 = encM false l ∧ fr 7 = num l.length ∧ fr 8 = num k ∧ ∀ i (h : i < l.length), i < k → p l[i] = false)
    (N := l.length) ?_ ?_
  · exact ⟨0, by simp⟩
  rintro N fr σ ⟨k, rfl, hk, e0, e1, e6, e7, e8, hi⟩
  refine pwp_go TI_ok ?_
  have hl2 := hl.2
  by_cases hlt : k < l.length
  · have om := hl.1 _ (List.getElem_mem hlt)
    have hx := IAx_encM (b := false) .i64 hlt om.1
    have hrk := rowM_len om.1
    have wk := wrap_succ (k := k) (by omega)
    have htk := take_rowM om
    have he := fun σ => hp l[k] σ om
    cases hpk : p l[k] with
    | true =>
      have := ixR_at hlt hi hpk
      simp [e0, e1, e6, e7, e8, hlt, hx, hrk, htk, hg, he, hpk, this]
    | false =>
      simp [e0, e1, e6, e7, e8, hlt, hx, hrk, htk, hg, he, hpk, wk]
      exact ⟨l.length - (k + 1), by omega, k + 1, rfl, by omega, by omega, fun i h1 h2 => by
        by_cases e : i = k
        · subst e; exact hpk
        · exact hi i h1 (by omega)⟩
  · have := ixR_no (p := p) (l := l) fun i h => hi i h (by omega)
    simp [e0, e1, e6, e7, e8, hlt, this]
theorem cont44_ok {l : List Ms} (hl : okL l) {g : FuncId} {cap : List PV} {p : Ms → Bool} (hg : TI.dom g = true) (hp : ∀ m σ, okM m → TI.ev g (.agg (rowM m) :: cap) σ = ⟨True, bo (p m)⟩) :
    PFun P0 44 [encM false l, .fn (.func g) [] cap] (bo (l.any p)) := by
  refine pcalls_body Try.func44 rfl rfl rfl (by show 2 ≤ _; decide) (pwp_go TI_ok ?_)
  simp
  refine popsT_call TI_ok Try.call42 ((ix42_ok hl hg hp).calls) rfl rfl (by simp) (by simp) ?_
  rintro o' σ' ⟨rfl, rfl⟩
  have e : decide (0 ≤ ixR p l) = l.any p := by
    unfold ixR
    cases h : l.findIdx? p with
    | none =>
      have h2 := List.findIdx?_eq_none_iff.1 h
      have : l.any p = false := by rw [List.any_eq_false]; exact fun x hx => by rw [h2 x hx]; simp
      rw [this]; rfl
    | some k =>
      obtain ⟨h1, h2, _⟩ := List.findIdx?_eq_some_iff_getElem.1 h
      rw [any_yes h1 h2]
      simp
  simp [e]
end Go.Proofs.Ytnjbcaakdfofcaa

/-
  Trade: Take, joined.
-/
set_option linter.unusedSimpArgs false
set_option linter.unusedVariables false
namespace Go.Proofs.Ytnjbcaakdfofcaa
open Go.Lo

@[simp] theorem TI_dom44 : TI.dom 44 = false := rfl
@[simp] theorem frzN_one (n : Nat) (σ : Heap) (b : Bool) (m : Ms) : frzN n σ (.slice b [rowM m]) = .slice b [rowM m] := frzN_encM n σ [m] b
@[simp] theorem TI_dom15 : TI.dom 15 = true := rfl
@[simp] theorem TI_dom27 : TI.dom 27 = true := rfl
@[simp] theorem TI_dom28 : TI.dom 28 = true := rfl
@[simp] theorem TI_dom37 : TI.dom 37 = true := rfl
@[simp] theorem TI_dom38 : TI.dom 38 = true := rfl
@[simp] theorem TI_ev15 (a : List PV) (σ : Heap) : TI.ev 15 a σ = ti (fun t n => num (chkE t n)) a := rfl
@[simp] theorem TI_ev27 (a : List PV) (σ : Heap) : TI.ev 27 a σ = m1 (fun m => bo (ofR m)) a := rfl
@[simp] theorem TI_ev28 (a : List PV) (σ : Heap) : TI.ev 28 a σ = m1 (fun m => bo (begR m)) a := rfl
@[simp] theorem TI_ev37 (a : List PV) (σ : Heap) : TI.ev 37 a σ = m2 (fun m n => bo (sameT m n)) a := rfl
@[simp] theorem TI_ev38 (a : List PV) (σ : Heap) : TI.ev 38 a σ = m1 (fun m => .agg (rowM (ansT m))) a := rfl
theorem rcB_parts {id : Int} {l : List Ms} (h : allN (rcB id l) l.length = true) {n : Nat} (hn : n < l.length) : ofR l[n] = true ∧ begR l[n] = true ∧ l[n].to = id ∧ hasR (l.take n) l[n] = false := by
  have := allN_iff.1 h n hn
  unfold rcB at this
  rw [getD_lt hn] at this
  simp only [Bool.and_eq_true, beq_iff_eq, Bool.not_eq_true'] at this
  exact ⟨this.1.1.1, this.1.1.2, this.1.2, this.2⟩
theorem chk_parts {t : Td} {id : Int} (h : chk t id = true) : hdB t id = true ∧ allN (plB id t.pl) t.pl.length = true ∧ allN (rcB id t.rc) t.rc.length = true ∧ allN (dnB t.pl t.dn) t.dn.length = true := by
  simp only [chk, Bool.and_eq_true] at h
  exact ⟨h.1.1.1, h.1.1.2, h.1.2, h.2⟩
/-- Both are valid: the numbers tell. -/
theorem same_dec {m p : Ms} (hm : okM m) (hp : okM p) (h1 : ofR m = true) (h2 : ofR p = true) : sameT m p = decide (m = p) := by
  rw [← sameR_eq hm hp]
  obtain ⟨a1, a2, a3, a4⟩ := ofR_rest h1 hm
  obtain ⟨b1, b2, b3, b4⟩ := ofR_rest h2 hp
  unfold sameR
  rw [a1, a2, a3, a4, b1, b2, b3, b4, sealE_refl]
  simp
set_option maxRecDepth 8000 in
set_option maxHeartbeats 8000000 in
theorem take21_ok (t : Td) (m : Ms) (id : Int) (ht : okT t) (hm : okM m) : PFun P0 21 [.agg (tdC t), .agg (rowM m), num id] (takeV t m id) := by
  refine FK_fun (pcalls_body Try.func21 rfl rfl rfl (by show 3 ≤ _; decide) (pwp_goK TI_ok [1] ?_))
  obtain ⟨o1, o2, o3⟩ := ht
  obtain ⟨nx, pl, rc, dn⟩ := t
  simp only at o1 o2 o3
  have hr := rowM_len hm.1
  have hty := take_rowM hm
  have zl : tdZ.length = 4 := rfl
  have zs : ∀ a b c d, setR tdZ 0 [a, b, c, d] = [a, b, c, d] := fun _ _ _ _ => rfl
  simp [tdC, hr]
  intro id3 id4 a1 id6 a2 a3
  refine pwpT_go (pwp_frz 1 ((Heap.empty.set id3 (.cells [num nx, encM false pl, encM false rc, encM false dn])).set id4 (.cells (rowM m))) (Frz.set (Frz.set Frz.none (by simp [a1, a2, a3])) (by simp [a1, a2, a3])) ?_)
  refine pwp_gen (I := fun fr σ => fr 2 = num id ∧ fr 3 = .ref [num nx, encM false pl, encM false rc, encM false dn] ∧ fr 4 = .ref (rowM m) ∧ fr 6 = .ptr id6 0 ∧ σ id6 = some (.cells tdZ)) ?_ ?_
  · simp [a1, a2, a3, frzN_rowM, tdZ]
  clear a1 a2 a3
  rintro fr σ ⟨e2, e3, e4, e6, s6⟩
  refine pwp_go TI_ok ?_
  cases hc : chk ⟨nx, pl, rc, dn⟩ id with
  | false =>
    have hce : chkE ⟨nx, pl, rc, dn⟩ id = 480 := by simp [chkE, hc]
    have hv := takeV_eq (t := ⟨nx, pl, rc, dn⟩) (m := m) (id := id) (a := (t0, [], false, 480)) (by simp [takeN, hc])
    simp [e2, e3, e4, e6, s6, o1, o2, o3, hce, tdZ]
    rw [hv]
    exact FK_ret (takeZ_le 480)
  | true =>
  obtain ⟨q1, q2, q3, q4⟩ := chk_lens hc
  simp only at q1 q2 q3 q4
  obtain ⟨_, P1, P2, P3⟩ := chk_parts hc
  simp only at P1 P2 P3
  have hce : chkE ⟨nx, pl, rc, dn⟩ id = 0 := by simp [chkE, hc]
  cases hf : ofR m && m.to == id with
  | false =>
    have hv := takeV_eq (t := ⟨nx, pl, rc, dn⟩) (m := m) (id := id) (a := (t0, [], false, 480)) (by simp only [takeN, hc, hf]; rfl)
    cases f1 : ofR m with
    | false =>
      simp [e2, e3, e4, e6, s6, o1, o2, o3, hce, hm, hr, hty, f1, tdZ]
      rw [hv]
      exact FK_ret (takeZ_le 480)
    | true =>
      have f2 : ¬ m.to = id := fun h => by rw [f1, h] at hf; simp at hf
      simp [e2, e3, e4, e6, s6, o1, o2, o3, hce, hm, hr, hty, f1, f2, tdZ]
      rw [hv]
      exact FK_ret (takeZ_le 480)
  | true =>
    have hf' := hf
    simp only [Bool.and_eq_true, beq_iff_eq] at hf
    obtain ⟨f1, f2⟩ := hf
    have base : takeN ⟨nx, pl, rc, dn⟩ m id = ((if begR m then
        match rc.find? (mFN m) with
        | some o => if o = m then (⟨nx, pl, rc, dn⟩, [ansR m], false, 0) else (t0, [], false, 480)
        | none => if rc.length = 4096 then (t0, [], false, 2) else (⟨nx, pl, rc ++ [m], dn⟩, [ansR m], true, 0)
      else if m.no < pl.length ∧ m = ansR (pl.getD m.no.toNat m0) then
        if hasN dn m.no then (⟨nx, pl, rc, dn⟩, [], false, 0) else (⟨nx, pl, rc, dn ++ [m]⟩, [], true, 0)
      else (t0, [], false, 480)) : Td × List Ms × Bool × Int) := by
      rw [takeN, if_pos hc, if_pos hf']; rfl
    simp [e2, e3, e4, e6, s6, o1, o2, o3, hce, hm, hr, hty, f1, f2]
    cases hb : begR m with
    | true =>
      rw [if_pos hb] at base
      have oa := okM_ansR hm
      have hra := rowM_len oa.1
      have haa := ansT_ansR hb
      simp [e2, e3, e4, e6, s6, hm, hr, hty]
      refine popsT_call TI_ok Try.call42 ((ix42_ok o2 (g := 43) (cap := [.ref (rowM m)]) (p := mFN m) rfl (fun o σ ho => by simp [ho, hm])).calls) rfl rfl (by simp [e3]) (by simp [e3, e4]) ?_
      rintro o' σ' ⟨rfl, rfl⟩
      cases hfd : rc.find? (mFN m) with
      | some o =>
        rw [hfd] at base
        simp only at base
        obtain ⟨h1, k, hk, hke, hbef⟩ := List.find?_eq_some_iff_getElem.1 hfd
        have hix := ixR_at (p := mFN m) hk (fun i h hik => by simpa using hbef i hik) (by rw [hke]; exact h1)
        have om := o2.1 _ (List.getElem_mem hk)
        have hx := IAx_encM (b := false) .i64 hk om.1
        have hrk := rowM_len om.1
        have htk := take_rowM om
        obtain ⟨w1, _⟩ := rcB_parts P2 hk
        have hsd := same_dec om hm w1 f1
        rw [hke] at om hx hrk htk hsd
        simp [e2, e3, e4, e6, s6, hix]
        refine pwp_drawT TI_ok 11 mixed (by kernel_rfl) ?_
        by_cases c3 : o = m
        · subst c3
          rw [if_pos rfl] at base
          have hv := takeV_eq base
          simp [e2, e3, e4, e6, s6, hm, hr, hty, hx, hk, hsd]
          refine pwp_drawX TI_ok 5 [4] [.r 0, .r 1, .r 2, .r 3, .e 4, .c 3] mixed (by kernel_rfl) ?_
          simp [e3, e4, e6, s6, hr, hty, hm, hra, haa, zl, zs]
          rw [hv]
          exact FK_ret (takeY_le ⟨nx, pl, rc, dn⟩ _ false)
        · rw [if_neg c3] at base
          have hv := takeV_eq base
          simp [e2, e3, e4, e6, s6, hm, om, hr, hty, hrk, htk, hx, hk, hsd, c3, tdZ]
          rw [hv]
          exact FK_ret (takeZ_le 480)
      | none =>
        rw [hfd] at base
        simp only at base
        have hix := ixR_no (p := mFN m) (l := rc) fun i h => by
          have := List.find?_eq_none.1 hfd _ (List.getElem_mem h)
          simpa using this
        simp [e2, e3, e4, e6, s6, hix]
        refine pwp_drawT TI_ok 11 mixed (by kernel_rfl) ?_
        simp [e2, e3, e4, e6, s6]
        by_cases hl : rc.length = 4096
        · rw [if_pos hl] at base
          have hv := takeV_eq base
          have hlI : (rc.length : Int) = 4096 := by omega
          simp [e2, e3, e4, e6, s6, hlI, tdZ]
          rw [hv]
          exact FK_ret (takeZ_le 2)
        rw [if_neg hl] at base
        have hlI : ¬ (rc.length : Int) = 4096 := by omega
        simp [e2, e3, e4, e6, s6, zl, zs, hlI]
        refine pwp_drawX TI_ok 5 [2] [.r 0, .r 1, .r 3, .r 4, .e 2, .c 3, .c 4] mixed (by kernel_rfl) ?_
        simp [e3, e4, e6, hr, hty]
        refine eE_call Try.call29 (clone29_ok rc o2 _) rfl (by simp) (by simp) ?_
        rintro o' σ1 ⟨V, rfl, hV, hk, hne⟩
        refine ⟨V, rfl, ?_⟩
        obtain ⟨v1, v2⟩ := hV.sv
        have k6 := keepC hk (show (σ'.set id6 (.cells [num nx, encM false pl, encM false rc, encM false dn])) id6 = some (.cells [num nx, encM false pl, encM false rc, encM false dn]) by simp)
        have nV : ∀ k off len full, V ≠ .msl id6 k off len full := fun k off len full e => by
          have := hne _ k off len full e
          simp at this
        simp [e3, e4, e6, k6, hr, hty, v1, v2]
        refine app_more o2 hm hV ?_
        intro id9 σ2 hid hc2 hk2
        have c6 := hid.ne k6
        have l6 := keepV hk2 k6 nV
        simp [e3, e4, e6, l6, hr, hty]
        refine pwp_drawX TI_ok 5 [4] [.r 0, .r 1, .r 2, .r 3, .e 4, .c 3] mixed (by kernel_rfl) ?_
        simp [e4, e6, l6, hr, hty, hm, hra, haa]
        obtain ⟨L, hL⟩ : ∃ L, rc ++ [m] = L := ⟨_, rfl⟩
        have oL : okL L := by rw [← hL]; exact okL_app o2 hm (by omega)
        have hLl : rc.length + 1 = L.length := by rw [← hL]; simp
        rw [hL] at hc2 base
        rw [takeV_eq base]
        refine FK_frz 3 (Heap.empty.set id9 (.cells (L.map rowM).flatten)) (Frz.set Frz.none (by simp [c6, hc2])) ?_
        simp [frzN_rowM, flat_len oL, hLl, chunkM' oL]
        exact takeY_le ⟨nx, pl, L, dn⟩ _ true
    | false =>
      rw [hb] at base
      simp only [Bool.false_eq_true, if_false] at base
      simp [e2, e3, e4, e6, s6, hm, hr, hty]
      obtain ⟨σ', hσ⟩ : ∃ σ', σ' = σ := ⟨σ, rfl⟩
      rw [← hσ] at s6
      rw [← hσ]
      refine pwpT_go (pwp_drawT TI_ok 17 mixed (by kernel_rfl) ?_)
      obtain ⟨n, hn⟩ : ∃ n : Nat, m.no = n := ⟨m.no.toNat, by have := ofR_no f1; omega⟩
      by_cases c2 : n < pl.length
      · have op := o1.1 _ (List.getElem_mem c2)
        have hxp := IAx_encM (b := false) .i64 c2 op.1
        have hLp := fun σ => Lx_rowM (m := pl[n]) σ op.1
        have hg : pl.getD m.no.toNat m0 = pl[n] := by rw [hn, Int.toNat_natCast, getD_lt c2]
        have oa := okM_ansT op
        have c2i : ¬ ((pl.length : Int) ≤ n) := by omega
        obtain ⟨w1, w2, w3, w4⟩ := plB_parts P1 c2
        have hsa := same_ans hm op f1 w1 w2
        rw [hg] at base
        by_cases c3 : m = ansR pl[n]
        · have c3' : (decide (m = ansR pl[n])) = true := by simpa using c3
          rw [c3'] at hsa
          rw [if_pos ⟨by rw [hn]; omega, c3⟩] at base
          simp [e3, e4, e6, s6, hr, hty, hm, hn, c2, c2i, hxp, hLp, op, oa, hsa, o3]
          refine popsT_call TI_ok Try.call44 ((cont44_ok o3 (g := 45) (cap := [.ref (rowM m)]) (p := fun o => o.no == m.no) rfl (fun o σ ho => by simp [ho, hm])).calls) rfl rfl (by simp [e3]) (by simp [e3, e4]) ?_
          rintro o' σ'' ⟨rfl, rfl⟩
          cases hd : hasN dn m.no with
          | true =>
            rw [hd] at base
            simp only [if_true] at base
            have hd' : (dn.any fun o => o.no == m.no) = true := hd
            rw [hd']
            simp [e3, e4, e6, s6, zl, zs]
            rw [takeV_eq base]
            exact FK_ret (takeN_le ⟨nx, pl, rc, dn⟩ false)
          | false =>
            rw [hd] at base
            simp only [Bool.false_eq_true, if_false] at base
            have hd' : (dn.any fun o => o.no == m.no) = false := hd
            rw [hd']
            rename_i σ''
            obtain ⟨σ', hσ'⟩ : ∃ σ', σ' = σ'' := ⟨σ'', rfl⟩
            rw [← hσ'] at s6
            rw [← hσ']
            simp [e2, e3, e4, e6, s6, zl, zs]
            refine pwp_drawX TI_ok 5 [2] [.r 0, .r 1, .r 3, .r 4, .e 2, .c 3, .c 4] mixed (by kernel_rfl) ?_
            simp [e3, e4, e6, hr, hty]
            refine eE_call Try.call29 (clone29_ok dn o3 _) rfl (by simp) (by simp) ?_
            rintro o' σ1 ⟨V, rfl, hV, hk, hne⟩
            refine ⟨V, rfl, ?_⟩
            obtain ⟨v1, v2⟩ := hV.sv
            have k6 := keepC hk (show (σ'.set id6 (.cells [num nx, encM false pl, encM false rc, encM false dn])) id6 = some (.cells [num nx, encM false pl, encM false rc, encM false dn]) by simp)
            have nV : ∀ k off len full, V ≠ .msl id6 k off len full := fun k off len full e => by
              have := hne _ k off len full e
              simp at this
            simp [e3, e4, e6, k6, hr, hty, v1, v2]
            refine app_more o3 hm hV ?_
            intro id9 σ2 hid hc2 hk2
            have c6 := hid.ne k6
            have l6 := keepV hk2 k6 nV
            simp [e3, e4, e6, l6, hr, hty]
            obtain ⟨L, hL⟩ : ∃ L, dn ++ [m] = L := ⟨_, rfl⟩
            have oL : okL L := by rw [← hL]; exact okL_app o3 hm (by omega)
            have hLl : dn.length + 1 = L.length := by rw [← hL]; simp
            rw [hL] at hc2 base
            rw [takeV_eq base]
            refine FK_frz 3 (Heap.empty.set id9 (.cells (L.map rowM).flatten)) (Frz.set Frz.none (by simp [c6, hc2])) ?_
            simp [frzN_rowM, flat_len oL, hLl, chunkM' oL]
            exact takeN_le ⟨nx, pl, rc, L⟩ true
        · have c3' : (decide (m = ansR pl[n])) = false := by simpa using c3
          rw [c3'] at hsa
          rw [if_neg fun h => c3 h.2] at base
          simp [e3, e4, e6, s6, hr, hty, hm, hn, c2, c2i, hxp, hLp, op, oa, hsa, tdZ]
          rw [takeV_eq base]
          exact FK_ret (takeZ_le 480)
      · rw [if_neg fun h => c2 (by have := h.1; omega)] at base
        have c2i : (pl.length : Int) ≤ n := by omega
        simp [e3, e4, e6, s6, hr, hty, hm, hn, c2i, tdZ]
        rw [takeV_eq base]
        exact FK_ret (takeZ_le 480)
end Go.Proofs.Ytnjbcaakdfofcaa

/-
  Trade: New, order; one table for the laws.
-/
set_option linter.unusedSimpArgs false
set_option linter.unusedVariables false
namespace Go.Proofs.Ytnjbcaakdfofcaa
open Go.Lo

theorem new20_ok : PFun P0 20 [] (.agg (tdC t0)) := by
  refine pcalls.wk (pcalls_body Try.func20 rfl rfl rfl (by show 0 ≤ _; decide) (pwp_go TI_ok ?_))
  simp
  exact PLe.agg tdZ_le
def ordM (a b : Int) : Ms := ⟨1, a, b, 77, 2, 5, 9, 0, 0, 0, 0, List.replicate 32 0⟩
theorem places30' : ∃ pl, places P0 30 = some pl ∧ pl[0]? = some (0, 1) ∧ pl[1]? = some (1, 1) ∧ pl[2]? = some (2, 1) ∧ pl[3]? = some (3, 1) ∧ pl[4]? = some (4, 1) ∧ pl[5]? = some (5, 1) ∧ pl[6]? = some (6, 1) ∧ pl[7]? = some (7, 1) :=
  ⟨[(0, 1), (1, 1), (2, 1), (3, 1), (4, 1), (5, 1), (6, 1), (7, 1), (8, 1), (9, 1), (10, 1), (11, 32)], by kernel_rfl, rfl, rfl, rfl, rfl, rfl, rfl, rfl, rfl⟩
theorem ordM_le (a0 a1 a2 a3 a4 a5 a6 a7 : Int) : PLeL ([num a0, num a1, num a2, num a3, num a4, num a5, num a6, num a7, .lit (.slice none 0 0), .lit (.slice none 0 0), .lit (.slice none 0 0)] ++ z32) (rowM ⟨a0, a1, a2, a3, a4, a5, a6, a7, 0, 0, 0, List.replicate 32 0⟩) := by
  have e : rowM ⟨a0, a1, a2, a3, a4, a5, a6, a7, 0, 0, 0, List.replicate 32 0⟩ = [num a0, num a1, num a2, num a3, num a4, num a5, num a6, num a7, lenS 1 0, lenS 1 0, lenS 2 0] ++ z32 := by rw [z32_eq]; rfl
  rw [e]
  exact .cons (.refl _) (.cons (.refl _) (.cons (.refl _) (.cons (.refl _) (.cons (.refl _) (.cons (.refl _) (.cons (.refl _) (.cons (.refl _) (.cons (PLe.nil false) (.cons (PLe.nil false) (.cons (PLe.nil false) (PLeL.refl' _)))))))))))
theorem order25_ok (a b : Int) : PFun P0 25 [num a, num b] (.agg (rowM (ordM a b))) := by
  refine pcalls.wk (pcalls_body Try.func25 rfl rfl rfl (by show 2 ≤ _; decide) (pwp_go TI_ok ?_))
  obtain ⟨pl, h, h0, h1, h2, h3, h4, h5, h6, h7⟩ := places30'
  have hz : all1 z32 := by rw [z32_eq, all1_seal]; trivial
  have l32 : z32.length = 32 := rfl
  simp (config := { contextual := true }) [h, h0, h1, h2, h3, h4, h5, h6, h7, zM, hz, l32, setR]
  exact PLe.agg (ordM_le 1 a b 77 2 5 9 0)

/-! ### One table -/
def n0 (r : PV) (args : List PV) : EV := match args with
  | [] => ⟨True, r⟩
  | _ => .no
@[simp] theorem n0_nil (r : PV) : n0 r [] = ⟨True, r⟩ := rfl
theorem n0_fun {f : FuncId} {r : PV} (k : PFun P0 f [] r) (args : List PV) (hd : (n0 r args).D) : PFun P0 f args (n0 r args).V := by
  unfold n0 at hd ⊢
  split at hd
  · exact k
  · exact hd.elim
def i2 (r : Int → Int → PV) (args : List PV) : EV := match args with
  | [.lit (.int .i64 x), .lit (.int .i64 y)] => ⟨True, r x y⟩
  | _ => .no
@[simp] theorem i2_mk (r : Int → Int → PV) (x y : Int) : i2 r [num x, num y] = ⟨True, r x y⟩ := rfl
theorem i2_fun {f : FuncId} {r : Int → Int → PV} (k : ∀ x y, PFun P0 f [num x, num y] (r x y)) (args : List PV) (hd : (i2 r args).D) : PFun P0 f args (i2 r args).V := by
  unfold i2 at hd ⊢
  split at hd
  · exact k _ _
  · exact hd.elim
def tm (r : Td → Ms → PV) : List PV → EV
  | [.agg c, .agg d] => ⟨isT c ∧ isM d, r (decT c) (decM d)⟩
  | _ => .no
@[simp] theorem tm_mk (r : Td → Ms → PV) (c d : List PV) : tm r [.agg c, .agg d] = ⟨isT c ∧ isM d, r (decT c) (decM d)⟩ := rfl
theorem tm_fun {f : FuncId} {r : Td → Ms → PV} (k : ∀ t m, okT t → okM m → PFun P0 f [.agg (tdC t), .agg (rowM m)] (r t m)) (args : List PV) (hd : (tm r args).D) : PFun P0 f args (tm r args).V := by
  unfold tm at hd ⊢
  split at hd
  · obtain ⟨h1, h2⟩ := isT_le hd.1
    obtain ⟨h3, h4⟩ := isM_le hd.2
    exact pcalls.args (k _ _ h2 h4) (.cons (.agg h1) (.cons (.agg h3) .nil))
  · exact hd.elim
def tmi (r : Td → Ms → Int → PV) : List PV → EV
  | [.agg c, .agg d, .lit (.int .i64 n)] => ⟨isT c ∧ isM d, r (decT c) (decM d) n⟩
  | _ => .no
@[simp] theorem tmi_mk (r : Td → Ms → Int → PV) (c d : List PV) (n : Int) : tmi r [.agg c, .agg d, num n] = ⟨isT c ∧ isM d, r (decT c) (decM d) n⟩ := rfl
theorem tmi_fun {f : FuncId} {r : Td → Ms → Int → PV} (k : ∀ t m n, okT t → okM m → PFun P0 f [.agg (tdC t), .agg (rowM m), num n] (r t m n)) (args : List PV) (hd : (tmi r args).D) : PFun P0 f args (tmi r args).V := by
  unfold tmi at hd ⊢
  split at hd
  · obtain ⟨h1, h2⟩ := isT_le hd.1
    obtain ⟨h3, h4⟩ := isM_le hd.2
    exact pcalls.args (k _ _ _ h2 h4) (.cons (.agg h1) (.cons (.agg h3) (.cons (.refl _) .nil)))
  · exact hd.elim
def TL0 : Tab := ((((((((((TF.add 15 fun a _ => ti (fun t n => num (chkE t n)) a).add 16 fun a _ => ti (fun t n => num (chkE t n)) a).add 18 fun a _ => ti (fun t n => encM false (waitN t n)) a).add 19 fun a _ => ti (fun t n => encM false (waitN t n)) a).add 11 fun a _ => tm placeV a).add 12 fun a _ => tm placeV a).add 21 fun a _ => tmi takeV a).add 22 fun a _ => tmi takeV a).add 20 fun a _ => n0 (.agg (tdC t0)) a).add 25 fun a _ => i2 (fun a b => .agg (rowM (ordM a b))) a)
theorem TL0_ok : TL0.ok P0 := Tab.add_fun (Tab.add_fun (Tab.add_fun (Tab.add_fun (Tab.add_fun (Tab.add_fun (Tab.add_fun (Tab.add_fun (Tab.add_fun (Tab.add_fun (TF_ok) Try.call15 (ti_fun check15_ok)) Try.call16 (ti_fun rcheck16_ok)) Try.call18 (ti_fun wait18_ok)) Try.call19 (ti_fun rwait19_ok)) Try.call11 (tm_fun place11_ok)) Try.call12 (tm_fun rplace12_ok)) Try.call21 (tmi_fun take21_ok)) Try.call22 (tmi_fun rtake22_ok)) Try.call20 (n0_fun new20_ok)) Try.call25 (i2_fun order25_ok)
def TL : Tab := TL0.add 9 fun a _ => match a with | [.agg c] => ⟨∃ t, c = tdC t ∧ okT0 t, bo (fewT (decT c))⟩ | _ => .no
theorem TL_ok : TL.ok P0 := Tab.add_fun TL0_ok Try.call9 fun args hd => by
  split at hd
  · obtain ⟨t, rfl, ht⟩ := hd
    rw [decT_tdC]
    exact few9_ok t ht
  · exact hd.elim
theorem TL_ev9 (n : Int) (a b c : List Ms) (h : okT0 ⟨n, a, b, c⟩) (σ : Heap) : TL.ev 9 [.agg [num n, encM false a, encM false b, encM false c]] σ = ⟨True, bo (fewT ⟨n, a, b, c⟩)⟩ := by
  show (⟨_, _⟩ : EV) = _
  rw [decT_mk]
  simp only [decMs_enc]
  congr 1
  exact eq_true ⟨⟨n, a, b, c⟩, rfl, h⟩
theorem TL_ev10 (m : Ms) (h : okM0 m) (σ : Heap) : TL.ev 10 [.agg (rowM m)] σ = ⟨True, bo (fewM m)⟩ := TD0_ev10 m h σ
theorem TL_ev26 (l : List Ms) (h : okL0 l) (σ : Heap) : TL.ev 26 [encM false l] σ = ⟨True, bo (fewL l)⟩ := TD_ev26 l h σ
@[simp] theorem TL_dom9 : TL.dom 9 = true := rfl
@[simp] theorem TL_dom10 : TL.dom 10 = true := rfl
@[simp] theorem TL_dom26 : TL.dom 26 = true := rfl
@[simp] theorem TL_dom11 : TL.dom 11 = true := rfl
@[simp] theorem TL_dom12 : TL.dom 12 = true := rfl
@[simp] theorem TL_dom13 : TL.dom 13 = true := rfl
@[simp] theorem TL_dom14 : TL.dom 14 = true := rfl
@[simp] theorem TL_dom15 : TL.dom 15 = true := rfl
@[simp] theorem TL_dom16 : TL.dom 16 = true := rfl
@[simp] theorem TL_dom17 : TL.dom 17 = true := rfl
@[simp] theorem TL_dom18 : TL.dom 18 = true := rfl
@[simp] theorem TL_dom19 : TL.dom 19 = true := rfl
@[simp] theorem TL_dom20 : TL.dom 20 = true := rfl
@[simp] theorem TL_dom21 : TL.dom 21 = true := rfl
@[simp] theorem TL_dom22 : TL.dom 22 = true := rfl
@[simp] theorem TL_dom25 : TL.dom 25 = true := rfl
@[simp] theorem TL_dom27 : TL.dom 27 = true := rfl
@[simp] theorem TL_dom28 : TL.dom 28 = true := rfl
@[simp] theorem TL_dom40 : TL.dom 40 = true := rfl
@[simp] theorem TL_dom38 : TL.dom 38 = true := rfl
@[simp] theorem TL_ev15 (a : List PV) (σ : Heap) : TL.ev 15 a σ = ti (fun t n => num (chkE t n)) a := rfl
@[simp] theorem TL_ev16 (a : List PV) (σ : Heap) : TL.ev 16 a σ = ti (fun t n => num (chkE t n)) a := rfl
@[simp] theorem TL_ev18 (a : List PV) (σ : Heap) : TL.ev 18 a σ = ti (fun t n => encM false (waitN t n)) a := rfl
@[simp] theorem TL_ev19 (a : List PV) (σ : Heap) : TL.ev 19 a σ = ti (fun t n => encM false (waitN t n)) a := rfl
@[simp] theorem TL_ev11 (a : List PV) (σ : Heap) : TL.ev 11 a σ = tm placeV a := rfl
@[simp] theorem TL_ev12 (a : List PV) (σ : Heap) : TL.ev 12 a σ = tm placeV a := rfl
@[simp] theorem TL_ev21 (a : List PV) (σ : Heap) : TL.ev 21 a σ = tmi takeV a := rfl
@[simp] theorem TL_ev22 (a : List PV) (σ : Heap) : TL.ev 22 a σ = tmi takeV a := rfl
@[simp] theorem TL_ev20 (a : List PV) (σ : Heap) : TL.ev 20 a σ = n0 (.agg (tdC t0)) a := rfl
@[simp] theorem TL_ev25 (a : List PV) (σ : Heap) : TL.ev 25 a σ = i2 (fun a b => .agg (rowM (ordM a b))) a := rfl
@[simp] theorem TL_ev13 (a : List PV) (σ : Heap) : TL.ev 13 a σ = tt (fun t u => bo (decide (t = u))) a := rfl
@[simp] theorem TL_ev14 (a : List PV) (σ : Heap) : TL.ev 14 a σ = m2 (fun m n => bo (decide (m = n))) a := rfl
@[simp] theorem TL_ev17 (x y : PV) (σ : Heap) : TL.ev 17 [x, y] σ = ⟨isL x ∧ isL y, bo (decide (decMs x = decMs y))⟩ := rfl
theorem fewL_ok {l : List Ms} (h : okL0 l) (hf : fewL l = true) : okL l ∧ l.length ≤ 20 := by
  simp only [fewL, Bool.and_eq_true, List.all_eq_true, decide_eq_true_eq] at hf
  exact ⟨⟨fun m hm => fewM_ok (h.1 m hm) (hf.1 m hm), by omega⟩, by omega⟩
theorem fewT_ok {t : Td} (h : okT0 t) (hf : fewT t = true) : okT t := by
  simp only [fewT, Bool.and_eq_true] at hf
  exact ⟨(fewL_ok h.1 hf.1.1).1, (fewL_ok h.2.1 hf.1.2).1, (fewL_ok h.2.2 hf.2).1⟩
@[simp] theorem isM_zM : isM zM = True := by
  have e : zM = num 0 :: num 0 :: num 0 :: num 0 :: num 0 :: num 0 :: num 0 :: num 0 :: .lit (.slice none 0 0) :: .lit (.slice none 0 0) :: .lit (.slice none 0 0) :: sealC (List.replicate 32 0) := by rw [← z32_eq]; rfl
  rw [e, isM_mk]; simp
@[simp] theorem decM_zM : decM zM = m0 := by
  have e : zM = num 0 :: num 0 :: num 0 :: num 0 :: num 0 :: num 0 :: num 0 :: num 0 :: .lit (.slice none 0 0) :: .lit (.slice none 0 0) :: .lit (.slice none 0 0) :: sealC (List.replicate 32 0) := by rw [← z32_eq]; rfl
  rw [e, decM_mk]; rfl
end Go.Proofs.Ytnjbcaakdfofcaa

/-
  Trade: the chapter's examples hold.
-/
set_option linter.unusedSimpArgs false
set_option linter.unusedVariables false
namespace Go.Proofs.Ytnjbcaakdfofcaa
open Go.Lo

theorem pwp_less {P : Program} {rd : Bool} {n : Nat} {c : Code} {Q : PX → Fr → Heap → Prop} {fr : Fr} {σ σ' : Heap} (hs : ∀ id o, σ' id = some o → σ id = some o) (h : pwp P rd n c Q fr σ') : pwp P rd n c Q fr σ :=
  pwp_state h fun G W A h2 h3 => ⟨G, h2.less hs, h3, (Evol.refl G W σ).less fun id hid => by
    obtain ⟨x, hx⟩ := some_of_ne hid
    rw [hs id x hx]; simp⟩
theorem apart_len {σ : Heap} {a b : Nat} {x y : List PV} (ha : σ a = some (.cells x)) (hb : σ b = some (.cells y)) (h : x.length ≠ y.length) : Apart a b := fun e => by
  subst e; rw [ha] at hb; cases hb; exact h rfl
def z0L : List Int := List.replicate 32 0
theorem z32_z : z32 = sealC z0L := z32_eq
def S2 (Z T : Td) (y : Ms) (L : Nat → Bool) (fr : Fr) (σ : Heap) : Prop :=
  (fr 1 = .ref (tdC Z)) ∧ (L 0 = true → fr 37 = .agg (tdC Z)) ∧ (L 1 = true → fr 38 = .agg (rowM (ordM 3 4))) ∧ (L 2 = true → fr 39 = .tup [.agg (tdC T), .agg (rowM y), num 0]) ∧ (L 3 = true → fr 36 = .tup [.agg (tdC T), .agg (rowM y), num 0]) ∧ (L 4 = true → fr 40 = .agg (tdC T)) ∧ (L 5 = true → fr 41 = .agg (rowM y)) ∧ (L 6 = true → fr 42 = num 0) ∧ (L 7 = true → ∃ z, fr 2 = .ptr z 0 ∧ σ z = some (.cells (if L 9 = true then tdC T else tdZ))) ∧ (L 8 = true → ∃ w, fr 3 = .ptr w 0 ∧ σ w = some (.cells (if L 10 = true then rowM y else zM))) ∧ (L 9 = true → L 7 = true) ∧ (L 10 = true → L 8 = true)
def sY1 : Ms := ⟨1, 3, 4, 0, 2, 5, 9, 0, 0, 0, 0, z0L⟩
def sShip : Ms := ⟨3, 3, 5, 0, 0, 1, 0, 8, 0, 0, 0, z0L⟩
def sY2 : Ms := ⟨3, 3, 5, 1, 0, 1, 0, 8, 0, 0, 0, z0L⟩
def sC : Ms := ⟨2, 4, 3, 0, 2, 5, 9, 0, 0, 0, 0, z0L⟩
def sO : Ms := ⟨1, 3, 4, 0, 2, 6, 9, 0, 0, 0, 0, z0L⟩
def sT1 : Td := ⟨1, [sY1], [], []⟩
def sT2 : Td := ⟨2, [sY1, sY2], [], []⟩
def sB : Td := ⟨0, [], [sY1], []⟩
def sD : Td := ⟨2, [sY1, sY2], [], [sC]⟩
def shC : List PV := num 3 :: num 3 :: num 5 :: num 0 :: num 0 :: num 1 :: num 0 :: num 8 :: .lit (.slice none 0 0) :: .lit (.slice none 0 0) :: .lit (.slice none 0 0) :: sealC z0L
theorem shC_len : shC.length = 43 := by simp [shC, sealC_len, z0L]
theorem shC_all : all1 shC = True := by simp [shC, all1_seal]
theorem shC_take : List.take 43 shC = shC := List.take_of_length_le (by rw [shC_len]; omega)
theorem shC_is : isM shC = True := by unfold shC; rw [isM_mk]; simp [z0L]
theorem shC_dec : decM shC = sShip := by unfold shC; rw [decM_mk]; rfl
theorem BxSh : Bx (some zM) (places P0 30) (ixi P0 30) [(0, num 3), (1, num 3), (2, num 5), (5, num 1), (7, num 8)] = ⟨True, .agg shC⟩ := by
  obtain ⟨pl, h, h0, h1, h2, h3, h4, h5, h6, h7⟩ := places30'
  have l32 : z32.length = 32 := rfl
  simp [h, h0, h1, h2, h5, h7, zM, l32, setR, shC, ← z32_z]
def cfC : List PV := num 2 :: num 4 :: num 3 :: num 0 :: num 2 :: num 5 :: num 9 :: num 0 :: .lit (.slice none 0 0) :: .lit (.slice none 0 0) :: .lit (.slice none 0 0) :: sealC z0L
theorem cfC_len : cfC.length = 43 := by simp [cfC, sealC_len, z0L]
theorem cfC_all : all1 cfC = True := by simp [cfC, all1_seal]
theorem cfC_take : List.take 43 cfC = cfC := List.take_of_length_le (by rw [cfC_len]; omega)
theorem cfC_is : isM cfC = True := by unfold cfC; rw [isM_mk]; simp [z0L]
theorem cfC_dec : decM cfC = sC := by unfold cfC; rw [decM_mk]; rfl
theorem BxCf : Bx (some zM) (places P0 30) (ixi P0 30) [(0, num 2), (1, num 4), (2, num 3), (4, num 2), (5, num 5), (6, num 9)] = ⟨True, .agg cfC⟩ := by
  obtain ⟨pl, h, h0, h1, h2, h3, h4, h5, h6, h7⟩ := places30'
  have l32 : z32.length = 32 := rfl
  simp [h, h0, h1, h2, h4, h5, h6, zM, l32, setR, cfC, ← z32_z]
set_option maxRecDepth 8000 in
set_option maxHeartbeats 8000000 in
theorem sane8_ok : PFun P0 8 [] (bo true) := by
  refine pcalls_body Try.func8 rfl rfl rfl (by show 0 ≤ _; decide) (pwp_goK TL_ok [3, 13] ?_)
  have ok0 := okL_nil
  simp [tdC, t0]
  intro id1
  refine pwpT_go (pwp_frz 1 (Heap.empty.set id1 (.cells (tdC t0))) (Frz.set Frz.none (by simp [tdC, t0])) ?_)
  refine pwp_gen (I := fun fr σ => fr 1 = .ref (tdC t0)) ?_ ?_
  · simp [tdC, t0]
  obtain ⟨Z, hZ⟩ : ∃ Z, t0 = Z := ⟨_, rfl⟩
  obtain ⟨z1, z2, z3⟩ : okT Z := hZ ▸ okT_t0
  obtain ⟨T, hT⟩ : ∃ T, sT1 = T := ⟨_, rfl⟩
  obtain ⟨y, hy⟩ : ∃ y, sY1 = y := ⟨_, rfl⟩
  have hpl : placeN Z (ordM 3 4) = (T, y, 0) := by rw [← hT, ← hy, ← hZ]; decide +kernel
  have oo : okM (ordM 3 4) := by simp [okM, ordM]
  have oTy := okT_place (t := Z) ⟨z1, z2, z3⟩ oo
  rw [hpl] at oTy
  obtain ⟨⟨o1, o2, o3⟩, oy⟩ := oTy
  simp only at o1 o2 o3 oy
  have hry := rowM_len oy.1
  have hty := take_rowM oy
  have hz4 : tdZ.length = 4 := rfl
  rw [hZ]
  intro fr σ e1
  refine pwp_drawI (k := 11) (I := S2 Z T y) mixed (by kernel_rfl) (by kernel_rfl) (by decide) ?_ ?_ ?_
  · exact ⟨e1, nofun, nofun, nofun, nofun, nofun, nofun, nofun, nofun, nofun, nofun, nofun⟩
  · clear e1
    rintro L fr σ i o hi ho hLi hp ⟨e1, i0, i1, i2, i3, i4, i5, i6, i7, i8, i9, i10⟩
    refine pops_pst TL_ok (show pT P0 TL false 248 _ _ [o] fr σ {} from ?_)
    rcases (show i = 0 ∨ i = 1 ∨ i = 2 ∨ i = 3 ∨ i = 4 ∨ i = 5 ∨ i = 6 ∨ i = 7 ∨ i = 8 ∨ i = 9 ∨ i = 10 by omega) with rfl | rfl | rfl | rfl | rfl | rfl | rfl | rfl | rfl | rfl | rfl
    · simp at ho; subst ho
      simp [e1, hry, hty, hz4, hpl, o1, o2, o3, oy, z1, z2, z3, oo, placeV, zM_len, setR_zM, tdC]
      exact ⟨by simp [e1], fun _ => by simp [tdC], by simpa [upd] using i1, by simpa [upd] using i2, by simpa [upd] using i3, by simpa [upd] using i4, by simpa [upd] using i5, by simpa [upd] using i6, by simpa [upd] using i7, by simpa [upd] using i8, by simpa [upd] using i9, by simpa [upd] using i10⟩
    · simp at ho; subst ho
      simp [e1, hry, hty, hz4, hpl, o1, o2, o3, oy, z1, z2, z3, oo, placeV, zM_len, setR_zM, tdC]
      exact ⟨by simp [e1], by simpa [upd] using i0, fun _ => by simp, by simpa [upd] using i2, by simpa [upd] using i3, by simpa [upd] using i4, by simpa [upd] using i5, by simpa [upd] using i6, by simpa [upd] using i7, by simpa [upd] using i8, by simpa [upd] using i9, by simpa [upd] using i10⟩
    · simp at ho; subst ho
      have l0 := hp 0 (of_decide_eq_true (by kernel_rfl))
      have q0 := i0 l0
      have l1 := hp 1 (of_decide_eq_true (by kernel_rfl))
      have q1 := i1 l1
      simp [e1, q0, q1, hry, hty, hz4, hpl, o1, o2, o3, oy, z1, z2, z3, oo, placeV, zM_len, setR_zM, tdC]
      exact ⟨by simp [e1], by simpa [upd] using i0, by simpa [upd] using i1, fun _ => by simp [tdC], by simpa [upd] using i3, by simpa [upd] using i4, by simpa [upd] using i5, by simpa [upd] using i6, by simpa [upd] using i7, by simpa [upd] using i8, by simpa [upd] using i9, by simpa [upd] using i10⟩
    · simp at ho; subst ho
      have l2 := hp 2 (of_decide_eq_true (by kernel_rfl))
      have q2 := i2 l2
      simp [e1, q2, hry, hty, hz4, hpl, o1, o2, o3, oy, z1, z2, z3, oo, placeV, zM_len, setR_zM, tdC]
      exact ⟨by simp [e1], by simpa [upd] using i0, by simpa [upd] using i1, by simpa [upd] using i2, fun _ => by simp [tdC], by simpa [upd] using i4, by simpa [upd] using i5, by simpa [upd] using i6, by simpa [upd] using i7, by simpa [upd] using i8, by simpa [upd] using i9, by simpa [upd] using i10⟩
    · simp at ho; subst ho
      have l3 := hp 3 (of_decide_eq_true (by kernel_rfl))
      have q3 := i3 l3
      simp [e1, q3, hry, hty, hz4, hpl, o1, o2, o3, oy, z1, z2, z3, oo, placeV, zM_len, setR_zM, tdC]
      exact ⟨by simp [e1], by simpa [upd] using i0, by simpa [upd] using i1, by simpa [upd] using i2, by simpa [upd] using i3, fun _ => by simp [tdC], by simpa [upd] using i5, by simpa [upd] using i6, by simpa [upd] using i7, by simpa [upd] using i8, by simpa [upd] using i9, by simpa [upd] using i10⟩
    · simp at ho; subst ho
      have l3 := hp 3 (of_decide_eq_true (by kernel_rfl))
      have q3 := i3 l3
      simp [e1, q3, hry, hty, hz4, hpl, o1, o2, o3, oy, z1, z2, z3, oo, placeV, zM_len, setR_zM, tdC]
      exact ⟨by simp [e1], by simpa [upd] using i0, by simpa [upd] using i1, by simpa [upd] using i2, by simpa [upd] using i3, by simpa [upd] using i4, fun _ => by simp, by simpa [upd] using i6, by simpa [upd] using i7, by simpa [upd] using i8, by simpa [upd] using i9, by simpa [upd] using i10⟩
    · simp at ho; subst ho
      have l3 := hp 3 (of_decide_eq_true (by kernel_rfl))
      have q3 := i3 l3
      simp [e1, q3, hry, hty, hz4, hpl, o1, o2, o3, oy, z1, z2, z3, oo, placeV, zM_len, setR_zM, tdC]
      exact ⟨by simp [e1], by simpa [upd] using i0, by simpa [upd] using i1, by simpa [upd] using i2, by simpa [upd] using i3, by simpa [upd] using i4, by simpa [upd] using i5, fun _ => by simp, by simpa [upd] using i7, by simpa [upd] using i8, by simpa [upd] using i9, by simpa [upd] using i10⟩
    · simp at ho; subst ho
      simp [e1, hry, hty, hz4, hpl, o1, o2, o3, oy, z1, z2, z3, oo, placeV, zM_len, setR_zM, tdC, -NEW_def]
      refine fun z hz => ?_
      simp
      have l9 : L 9 = false := by cases e : L 9 with | false => rfl | true => rw [i9 e] at hLi; cases hLi
      exact ⟨by simp [e1], by simpa [upd] using i0, by simpa [upd] using i1, by simpa [upd] using i2, by simpa [upd] using i3, by simpa [upd] using i4, by simpa [upd] using i5, by simpa [upd] using i6, fun _ => ⟨z, by simp, by simp [upd, l9, tdZ]⟩, fun l => by obtain ⟨w, w3, w4⟩ := i8 (by simpa [upd] using l); have zw := frs.ne hz w4; exact ⟨w, by simpa using w3, by simpa [upd, zw] using w4⟩, fun _ => by simp [upd], by simpa [upd] using i10⟩
    · simp at ho; subst ho
      simp [e1, hry, hty, hz4, hpl, o1, o2, o3, oy, z1, z2, z3, oo, placeV, zM_len, setR_zM, tdC, -NEW_def]
      refine fun w hz => ?_
      simp
      have l10 : L 10 = false := by cases e : L 10 with | false => rfl | true => rw [i10 e] at hLi; cases hLi
      exact ⟨by simp [e1], by simpa [upd] using i0, by simpa [upd] using i1, by simpa [upd] using i2, by simpa [upd] using i3, by simpa [upd] using i4, by simpa [upd] using i5, by simpa [upd] using i6, fun l => by obtain ⟨z, z3, z4⟩ := i7 (by simpa [upd] using l); have zw := frs.ne hz z4; exact ⟨z, by simpa using z3, by simpa [upd, zw] using z4⟩, fun _ => ⟨w, by simp, by simp [upd, l10]⟩, by simpa [upd] using i9, fun _ => by simp [upd]⟩
    · simp at ho; subst ho
      have l7 := hp 7 (of_decide_eq_true (by kernel_rfl))
      obtain ⟨z, qz, sz⟩ := i7 l7
      rw [hLi] at sz
      have l4 := hp 4 (of_decide_eq_true (by kernel_rfl))
      have q4 := i4 l4
      simp [qz, sz, tdZ, e1, q4, hry, hty, hz4, hpl, o1, o2, o3, oy, z1, z2, z3, oo, placeV, zM_len, setR_zM, tdC]
      exact ⟨by simp [e1], by simpa [upd] using i0, by simpa [upd] using i1, by simpa [upd] using i2, by simpa [upd] using i3, by simpa [upd] using i4, by simpa [upd] using i5, by simpa [upd] using i6, fun _ => ⟨z, by simp [qz], by simp [upd, tdC]⟩, fun l => by obtain ⟨w, w3, w4⟩ := i8 (by simpa [upd] using l); have zw : Apart w z := apart_len w4 sz (by split <;> simp [hry, zM_len, tdZ]); exact ⟨w, by simpa using w3, by simpa [upd, zw] using w4⟩, fun _ => by simpa [upd] using l7, by simpa [upd] using i10⟩
    · simp at ho; subst ho
      have l8 := hp 8 (of_decide_eq_true (by kernel_rfl))
      obtain ⟨w, qz, sw⟩ := i8 l8
      rw [hLi] at sw
      have l5 := hp 5 (of_decide_eq_true (by kernel_rfl))
      have q5 := i5 l5
      simp [qz, sw, e1, q5, hry, hty, hz4, hpl, o1, o2, o3, oy, z1, z2, z3, oo, placeV, zM_len, setR_zM, tdC]
      exact ⟨by simp [e1], by simpa [upd] using i0, by simpa [upd] using i1, by simpa [upd] using i2, by simpa [upd] using i3, by simpa [upd] using i4, by simpa [upd] using i5, by simpa [upd] using i6, fun l => by obtain ⟨z, z3, z4⟩ := i7 (by simpa [upd] using l); have zw : Apart z w := apart_len z4 sw (by split <;> simp [zM_len, tdZ, tdC]); exact ⟨z, by simpa using z3, by simpa [upd, zw] using z4⟩, fun _ => ⟨w, by simp [qz], by simp [upd]⟩, by simpa [upd] using i9, fun _ => by simpa [upd] using l8⟩
  · clear e1
    rintro L fr σ hall ⟨e1, i0, i1, i2, i3, i4, i5, i6, i7, i8, i9, i10⟩
    have q0 := i0 (hall 0 (by omega))
    have q1 := i1 (hall 1 (by omega))
    have q2 := i2 (hall 2 (by omega))
    have q3 := i3 (hall 3 (by omega))
    have q4 := i4 (hall 4 (by omega))
    have q5 := i5 (hall 5 (by omega))
    have q6 := i6 (hall 6 (by omega))
    have q7 := i7 (hall 7 (by omega))
    have q8 := i8 (hall 8 (by omega))
    have q9 := i9 (hall 9 (by omega))
    have q10 := i10 (hall 10 (by omega))
    obtain ⟨z, q7, sz⟩ := q7
    obtain ⟨w, q8, sw⟩ := q8
    rw [hall 9 (by omega), if_pos rfl] at sz
    rw [hall 10 (by omega), if_pos rfl] at sw
    have zw : Apart z w := apart_len sz sw (by simp [tdC, hry])
    refine pops_pst TL_ok (show pT P0 TL false 248 _ _ [_] fr σ {} from ?_)
    simp [q6]
    refine pwpT_go (pwp_frz 1 (Heap.empty.set w (.cells (rowM y))) (Frz.set Frz.none (by simp [sw])) ?_)
    refine pwp_less (σ' := Heap.empty.set z (.cells (tdC T))) (fun id o h => by
      rw [Heap.set_apply] at h
      split at h
      · rename_i e; subst e; cases h; simp [zw, sz]
      · cases h) ?_
    refine pwp_gen (I := fun fr σ => fr 1 = .ref (tdC Z) ∧ fr 2 = .ptr z 0 ∧ fr 3 = .ref (rowM y) ∧ fr 4 = num 0 ∧ σ = Heap.empty.set z (.cells (tdC T))) ?_ ?_
    · simp [e1, q7, q8, zw, tdC, frzN_rowM]
    clear e1 i0 i1 i2 i3 i4 i5 i6 i7 i8 i9 i10 q0 q1 q2 q3 q4 q5 q6 q7 q8 q9 q10 sz sw zw hall
    rintro fr σ ⟨e1, e2, e3, e4, rfl⟩
    obtain ⟨U, hU⟩ : ∃ U, sT2 = U := ⟨_, rfl⟩
    obtain ⟨v, hv⟩ : ∃ v, sY2 = v := ⟨_, rfl⟩
    obtain ⟨B, hB⟩ : ∃ B, sB = B := ⟨_, rfl⟩
    obtain ⟨c, hC⟩ : ∃ c, sC = c := ⟨_, rfl⟩
    obtain ⟨O, hO⟩ : ∃ O, sO = O := ⟨_, rfl⟩
    obtain ⟨D, hD⟩ : ∃ D, sD = D := ⟨_, rfl⟩
    have om0 := okM_m0
    have osh : okM sShip := by simp [okM, sShip, z0L]
    have p1 : placeN Z m0 = (Z, m0, 480) := by rw [← hZ]; decide +kernel
    have p2 : placeN T sShip = (U, v, 0) := by rw [← hT, ← hU, ← hv]; decide +kernel
    have k1 : takeN Z y 4 = (B, [c], true, 0) := by rw [← hZ, ← hy, ← hB, ← hC]; decide +kernel
    have k2 : takeN B y 4 = (B, [c], false, 0) := by rw [← hy, ← hB, ← hC]; decide +kernel
    have k3 : takeN B O 4 = (Z, [], false, 480) := by rw [← hZ, ← hO, ← hB]; decide +kernel
    have k4 : takeN U c 3 = (D, [], true, 0) := by rw [← hU, ← hC, ← hD]; decide +kernel
    have k5 : takeN Z c 3 = (Z, [], false, 480) := by rw [← hZ, ← hC]; decide +kernel
    have oU := okT_place (t := T) ⟨o1, o2, o3⟩ osh
    rw [p2] at oU
    obtain ⟨⟨u1, u2, u3⟩, ov⟩ := oU
    simp only at u1 u2 u3 ov
    have oB := okT_take (id := 4) (t := Z) ⟨z1, z2, z3⟩ oy
    rw [k1] at oB
    obtain ⟨⟨b1, b2, b3⟩, oc⟩ := oB
    simp only at b1 b2 b3 oc
    have occ : okM c := oc.1 c (by simp)
    have oO : okM O := by rw [← hO]; simp [okM, sO, z0L]
    have oD := okT_take (id := 3) (t := U) ⟨u1, u2, u3⟩ occ
    rw [k4] at oD
    obtain ⟨⟨d1, d2, d3⟩, _⟩ := oD
    simp only at d1 d2 d3
    have hrv := rowM_len ov.1
    have htv := take_rowM ov
    have hrc := rowM_len occ.1
    have htc := take_rowM occ
    have hrO := rowM_len oO.1
    have htO := take_rowM oO
    have hsO : setR (rowM y) 5 [num 6] = rowM O := by rw [← hy, ← hO]; simp [setR, rowM, sY1, sO]
    have hm0 := rowM_len om0.1
    have htm := take_rowM om0
    have w1 : waitN U 3 = [y, v] := by rw [← hU, ← hy, ← hv]; decide +kernel
    have w2 : waitN D 3 = [v] := by rw [← hD, ← hv]; decide +kernel
    have w3 : waitN Z 0 = [] := by rw [← hZ]; decide +kernel
    refine pwp_go TL_ok ?_
    simp (config := { contextual := true }) [e1, e2, e3, e4, placeV, takeV, p1, p2, k1, k2, k3, hry, hty, hrv, htv, hrc, htc, hrO, htO, hsO, oy, ov, occ, oO, om0, osh, hm0, htm, BxSh, shC_len, shC_all, shC_take, shC_is, shC_dec, setR_zM, z1, z2, z3, o1, o2, o3, u1, u2, u3, b1, b2, b3, tdC, zM_len, setR_zM]
    intro i5 a1 i6 a2 a3 i8 a4 a5 a6 i9 a7 a8 a9 a10 i11 a11 a12 a13 a14 a15 i15 a16 a17 a18 a19 a20 a21 i19 a22 a23 a24 a25 a26 a27 a28 i20 a29 a30 a31 a32 a33 a34 a35 a36
    have ap : ∀ {a b : Nat}, Apart a b → Apart a b := id
    refine pwpT_go (pwp_frz 1 ((((Heap.empty.set z (.cells (tdC U))).set i9 (.cells (rowM v))).set i11 (.cells (tdC B))).set i15 (.cells (tdC B))) (Frz.set (Frz.set (Frz.set (Frz.set Frz.none (by simp [a1, a2, a3, a4, a5, a6, a7, a8, a9, a10, a11, a12, a13, a14, a15, a16, a17, a18, a19, a20, a21, a22, a23, a24, a25, a26, a27, a28, a29, a30, a31, a32, a33, a34, a35, a36, tdC])) (by simp [a1, a2, a3, a4, a5, a6, a7, a8, a9, a10, a11, a12, a13, a14, a15, a16, a17, a18, a19, a20, a21, a22, a23, a24, a25, a26, a27, a28, a29, a30, a31, a32, a33, a34, a35, a36, tdC])) (by simp [a1, a2, a3, a4, a5, a6, a7, a8, a9, a10, a11, a12, a13, a14, a15, a16, a17, a18, a19, a20, a21, a22, a23, a24, a25, a26, a27, a28, a29, a30, a31, a32, a33, a34, a35, a36, tdC])) (by simp [a1, a2, a3, a4, a5, a6, a7, a8, a9, a10, a11, a12, a13, a14, a15, a16, a17, a18, a19, a20, a21, a22, a23, a24, a25, a26, a27, a28, a29, a30, a31, a32, a33, a34, a35, a36, tdC])) ?_)
    refine pwp_gen (I := fun fr σ => fr 1 = .ref (tdC Z) ∧ fr 2 = .ref (tdC U) ∧ fr 3 = .ref (rowM y) ∧ fr 9 = .ref (rowM v) ∧ fr 11 = .ref (tdC B) ∧ fr 12 = encM false [c] ∧ fr 13 = bo true ∧ fr 15 = .ref (tdC B) ∧ fr 16 = encM false [c] ∧ fr 17 = bo false) ?_ ?_
    · simp [a1, a2, a3, a4, a5, a6, a7, a8, a9, a10, a11, a12, a13, a14, a15, a16, a17, a18, a19, a20, a21, a22, a23, a24, a25, a26, a27, a28, a29, a30, a31, a32, a33, a34, a35, a36, e1, e2, e3, tdC, frzN_rowM]
    clear a1 a2 a3 a4 a5 a6 a7 a8 a9 a10 a11 a12 a13 a14 a15 a16 a17 a18 a19 a20 a21 a22 a23 a24 a25 a26 a27 a28 a29 a30 a31 a32 a33 a34 a35 a36
    rintro fr σ ⟨e1, e2, e3, e9, e11, e12, e13, e15, e16, e17⟩
    have hx : IAx (some (none, 43, true)) (encM false [c]) (num 0) = ⟨True, .ref (rowM c)⟩ := IAx_encM (b := false) (l := [c]) (k := 0) .i64 (by simp) occ.1
    refine pwp_drawX TL_ok 14 [10, 11] [.r 0, .r 1, .r 2, .r 3, .r 4, .r 5, .r 6, .r 7, .r 8, .r 9, .e 10, .c 0, .c 1, .c 2, .c 3, .c 4, .c 5, .c 6, .c 7, .c 8, .c 9, .e 11, .c 7, .c 8, .c 9, .r 12, .r 13] mixed (by kernel_rfl) ?_
    simp [-NEW_def, e1, e2, e3, e9, e11, e12, e13, e15, e16, e17, hx, hrc, htc, occ, takeV, k4, k5, u1, u2, u3, z1, z2, z3, tdC]
    refine fun i24 h24 => ?_
    simp [e1, e2, e3, e9, e11, e12, e13, e15, e16, e17, hx, hrc, htc, occ, takeV, k4, k5, u1, u2, u3, z1, z2, z3, tdC]
    refine pwpT_go (pwp_gen (I := fun fr σ => fr 1 = .ref (tdC Z) ∧ fr 2 = .ref (tdC U) ∧ fr 3 = .ref (rowM y) ∧ fr 9 = .ref (rowM v) ∧ fr 11 = .ref (tdC B) ∧ fr 12 = encM false [c] ∧ fr 13 = bo true ∧ fr 15 = .ref (tdC B) ∧ fr 16 = encM false [c] ∧ fr 17 = bo false ∧ fr 24 = .ptr i24 0 ∧ fr 25 = encM false [] ∧ fr 26 = bo true ∧ fr 27 = num 0 ∧ σ i24 = some (.cells (tdC D))) ?_ ?_)
    · simp [e1, e2, e3, e9, e11, e12, e13, e15, e16, e17, tdC]
    clear e1 e2 e3 e9 e11 e12 e13 e15 e16 e17 h24
    rintro fr σ ⟨e1, e2, e3, e9, e11, e12, e13, e15, e16, e17, e24, e25, e26, e27, s24⟩
    refine pwp_drawX TL_ok 14 [10, 11] [.r 0, .r 1, .r 2, .r 3, .r 4, .r 5, .r 6, .r 7, .r 8, .r 9, .e 10, .c 0, .c 1, .c 2, .c 3, .c 4, .c 5, .c 6, .c 7, .c 8, .c 9, .e 11, .c 7, .c 8, .c 9, .r 12, .r 13] mixed (by kernel_rfl) ?_
    simp [-NEW_def, e1, e2, e3, e9, e11, e12, e13, e15, e16, e17, hx, hrc, htc, occ, takeV, k4, k5, u1, u2, u3, z1, z2, z3, tdC]
    refine fun i28 h28 => ?_
    have b28 := frs.ne (show frs σ i28 from h28) s24
    simp [e1, e2, e3, e9, e11, e12, e13, e15, e16, e17, hx, hrc, htc, occ, takeV, k4, k5, u1, u2, u3, z1, z2, z3, tdC]
    refine pwpT_go (pwp_gen (I := fun fr σ => fr 1 = .ref (tdC Z) ∧ fr 2 = .ref (tdC U) ∧ fr 3 = .ref (rowM y) ∧ fr 9 = .ref (rowM v) ∧ fr 11 = .ref (tdC B) ∧ fr 12 = encM false [c] ∧ fr 13 = bo true ∧ fr 15 = .ref (tdC B) ∧ fr 16 = encM false [c] ∧ fr 17 = bo false ∧ fr 24 = .ptr i24 0 ∧ fr 25 = encM false [] ∧ fr 26 = bo true ∧ fr 27 = num 0 ∧ fr 31 = num 480 ∧ σ i24 = some (.cells (tdC D))) ?_ ?_)
    · simp [e1, e2, e3, e9, e11, e12, e13, e15, e16, e17, e24, e25, e26, e27, s24, b28]
    clear e1 e2 e3 e9 e11 e12 e13 e15 e16 e17 e24 e25 e26 e27 s24 h28 b28
    rintro fr σ ⟨e1, e2, e3, e9, e11, e12, e13, e15, e16, e17, e24, e25, e26, e27, e31, s24⟩
    refine pwp_frz 1 (Heap.empty.set i24 (.cells (tdC D))) (Frz.set Frz.none s24) ?_
    refine pwp_gen (I := fun fr σ => fr 1 = .ref (tdC Z) ∧ fr 2 = .ref (tdC U) ∧ fr 3 = .ref (rowM y) ∧ fr 9 = .ref (rowM v) ∧ fr 11 = .ref (tdC B) ∧ fr 12 = encM false [c] ∧ fr 13 = bo true ∧ fr 15 = .ref (tdC B) ∧ fr 16 = encM false [c] ∧ fr 17 = bo false ∧ fr 24 = .ref (tdC D) ∧ fr 25 = encM false [] ∧ fr 26 = bo true ∧ fr 27 = num 0 ∧ fr 31 = num 480) ?_ ?_
    · simp [e1, e2, e3, e9, e11, e12, e13, e15, e16, e17, e24, e25, e26, e27, e31, tdC, frzN_rowM]
    clear e1 e2 e3 e9 e11 e12 e13 e15 e16 e17 e24 e25 e26 e27 e31 s24
    rintro fr σ ⟨e1, e2, e3, e9, e11, e12, e13, e15, e16, e17, e24, e25, e26, e27, e31⟩
    refine pwp_drawT TL_ok 5 mixed (by kernel_rfl) ?_
    have yn : y.no = 0 := by rw [← hy]; rfl
    have vn : v.no = 1 := by rw [← hv]; rfl
    have vl : v.lb = 8 := by rw [← hv]; rfl
    have un : U.nx = 2 := by rw [← hU]; rfl
    have hcc : c = sC := hC.symm
    have osc : okM sC := by rw [← hcc]; exact occ
    have dl : D.dn.length = 1 := by rw [← hD]; rfl
    have ch1 : chkE Z 11 = 0 := by rw [← hZ]; decide +kernel
    have ch2 : chkE Z 12 = 480 := by rw [← hZ]; decide +kernel
    have ch3 : chkE D 3 = 0 := by rw [← hD]; decide +kernel
    have ch4 : chkE D 4 = 480 := by rw [← hD]; decide +kernel
    have okY : okL [y, v] := ⟨by simp [oy, ov], by simp⟩
    have okV : okL [v] := okL_one ov
    have hxv : IAx (some (none, 43, true)) (encM false [v]) (num 0) = ⟨True, .ref (rowM v)⟩ := IAx_encM (b := false) (l := [v]) (k := 0) .i64 (by simp) ov.1
    have dcc : decide (c = sC) = true := by simp [hcc]
    have w1' : waitN ⟨2, U.pl, U.rc, U.dn⟩ 3 = [y, v] := by rw [← un]; exact w1
    simp (config := { contextual := true }) [e1, e2, e3, e9, e11, e12, e13, e15, e16, e17, e24, e25, e26, e27, e31, hx, hxv, hrc, htc, hrv, htv, hry, hty, occ, oy, ov, u1, u2, u3, z1, z2, z3, b1, b2, b3, d1, d2, d3, tdC, w1, w1', w2, w3, BxCf, cfC_len, cfC_all, cfC_take, cfC_is, cfC_dec, setR_zM, zM_len, yn, vn, vl, un, dcc, osc, dl, ch1, ch2, ch3, ch4]
    intro i34 h34
    refine pwpT_go (pwp_drawT TL_ok 85 mixed (by kernel_rfl) ?_)
    simp [e1, e2, e3, e9, e11, e12, e13, e15, e16, e17, e24, e25, e26, e27, e31, hx, hxv, hrc, htc, hrv, htv, hry, hty, occ, oy, ov, u1, u2, u3, z1, z2, z3, b1, b2, b3, d1, d2, d3, tdC, w1, w1', w2, w3, BxCf, cfC_len, cfC_all, cfC_take, cfC_is, cfC_dec, setR_zM, zM_len, yn, vn, vl, un, dcc, osc, dl, ch1, ch2, ch3, ch4]
def TM : Tab := TL.add 8 fun a _ => n0 (bo true) a
theorem TM_ok : TM.ok P0 := Tab.add_fun TL_ok Try.call8 (n0_fun sane8_ok)
@[simp] theorem TM_dom8 : TM.dom 8 = true := rfl
@[simp] theorem TM_ev8 (a : List PV) (σ : Heap) : TM.ev 8 a σ = n0 (bo true) a := rfl
theorem TM_ev9 (n : Int) (a b c : List Ms) (h : okT0 ⟨n, a, b, c⟩) (σ : Heap) : TM.ev 9 [.agg [num n, encM false a, encM false b, encM false c]] σ = ⟨True, bo (fewT ⟨n, a, b, c⟩)⟩ := TL_ev9 n a b c h σ
theorem TM_ev10 (m : Ms) (h : okM0 m) (σ : Heap) : TM.ev 10 [.agg (rowM m)] σ = ⟨True, bo (fewM m)⟩ := TL_ev10 m h σ
@[simp] theorem TM_dom9 : TM.dom 9 = true := rfl
@[simp] theorem TM_dom10 : TM.dom 10 = true := rfl
@[simp] theorem TM_dom26 : TM.dom 26 = true := rfl
@[simp] theorem TM_dom11 : TM.dom 11 = true := rfl
@[simp] theorem TM_dom12 : TM.dom 12 = true := rfl
@[simp] theorem TM_dom13 : TM.dom 13 = true := rfl
@[simp] theorem TM_dom14 : TM.dom 14 = true := rfl
@[simp] theorem TM_dom15 : TM.dom 15 = true := rfl
@[simp] theorem TM_dom16 : TM.dom 16 = true := rfl
@[simp] theorem TM_dom17 : TM.dom 17 = true := rfl
@[simp] theorem TM_dom18 : TM.dom 18 = true := rfl
@[simp] theorem TM_dom19 : TM.dom 19 = true := rfl
@[simp] theorem TM_dom20 : TM.dom 20 = true := rfl
@[simp] theorem TM_dom21 : TM.dom 21 = true := rfl
@[simp] theorem TM_dom22 : TM.dom 22 = true := rfl
@[simp] theorem TM_dom25 : TM.dom 25 = true := rfl
@[simp] theorem TM_ev15 (a : List PV) (σ : Heap) : TM.ev 15 a σ = ti (fun t n => num (chkE t n)) a := rfl
@[simp] theorem TM_ev16 (a : List PV) (σ : Heap) : TM.ev 16 a σ = ti (fun t n => num (chkE t n)) a := rfl
@[simp] theorem TM_ev18 (a : List PV) (σ : Heap) : TM.ev 18 a σ = ti (fun t n => encM false (waitN t n)) a := rfl
@[simp] theorem TM_ev19 (a : List PV) (σ : Heap) : TM.ev 19 a σ = ti (fun t n => encM false (waitN t n)) a := rfl
@[simp] theorem TM_ev11 (a : List PV) (σ : Heap) : TM.ev 11 a σ = tm placeV a := rfl
@[simp] theorem TM_ev12 (a : List PV) (σ : Heap) : TM.ev 12 a σ = tm placeV a := rfl
@[simp] theorem TM_ev21 (a : List PV) (σ : Heap) : TM.ev 21 a σ = tmi takeV a := rfl
@[simp] theorem TM_ev22 (a : List PV) (σ : Heap) : TM.ev 22 a σ = tmi takeV a := rfl
@[simp] theorem TM_ev20 (a : List PV) (σ : Heap) : TM.ev 20 a σ = n0 (.agg (tdC t0)) a := rfl
@[simp] theorem TM_ev25 (a : List PV) (σ : Heap) : TM.ev 25 a σ = i2 (fun a b => .agg (rowM (ordM a b))) a := rfl
@[simp] theorem TM_ev13 (a : List PV) (σ : Heap) : TM.ev 13 a σ = tt (fun t u => bo (decide (t = u))) a := rfl
@[simp] theorem TM_ev14 (a : List PV) (σ : Heap) : TM.ev 14 a σ = m2 (fun m n => bo (decide (m = n))) a := rfl
@[simp] theorem TM_ev17 (x y : PV) (σ : Heap) : TM.ev 17 [x, y] σ = ⟨isL x ∧ isL y, bo (decide (decMs x = decMs y))⟩ := rfl
end Go.Proofs.Ytnjbcaakdfofcaa

/-
  Trade: the laws TradeSpec and TradeTakeSpec.
-/
set_option linter.unusedSimpArgs false
set_option linter.unusedVariables false
namespace Go.Proofs.Ytnjbcaakdfofcaa
open Go.Lo

theorem okT0_parts {t : Td} (h : okT0 t) : okT0 ⟨t.nx, t.pl, t.rc, t.dn⟩ := h
theorem sealC_len32 {m : Ms} (h : okM0 m) : (rowM m).length = 43 := rowM_len h.1
theorem take_rowM0 {m : Ms} (h : okM0 m) : List.take 43 (rowM m) = rowM m := List.take_of_length_le (by rw [rowM_len h.1]; omega)
set_option maxRecDepth 8000 in
set_option maxHeartbeats 4000000 in
theorem spec3_ok (t : Td) (m : Ms) (id : Int) (ht : okT0 t) (hm : okM0 m) : PFun P0 3 [.agg (tdC t), .agg (rowM m), num id] (bo true) := by
  refine pcalls_body Try.func3 rfl rfl rfl (by show 3 ≤ _; decide) (pwp_go TM_ok ?_)
  have h9 := fun σ => TM_ev9 t.nx t.pl t.rc t.dn ht σ
  have h10 := fun σ => TM_ev10 m hm σ
  have hr := sealC_len32 hm
  have hty := take_rowM0 hm
  cases hf : fewT t with
  | false => simp (config := { contextual := true }) [tdC, h9, h10, hf, hr, hty]
  | true =>
  cases hg : fewM m with
  | false => simp (config := { contextual := true }) [tdC, h9, h10, hf, hg, hr, hty]
  | true =>
  have oT := fewT_ok ht hf
  have oM := fewM_ok hm hg
  obtain ⟨o1, o2, o3⟩ := oT
  have oT : okT t := ⟨o1, o2, o3⟩
  obtain ⟨oP, oY⟩ := okT_place oT oM
  obtain ⟨T, y, e, hp⟩ : ∃ T y e, placeN t m = (T, y, e) := ⟨_, _, _, rfl⟩
  rw [hp] at oP oY
  simp only at oP oY
  obtain ⟨p1, p2, p3⟩ := oP
  have hry := rowM_len oY.1
  have hyy := take_rowM oY
  have okw : okL (waitN t id) := okL_filter _ o1
  simp (config := { contextual := true }) [tdC, h9, h10, hf, hg, hr, hty, oM, o1, o2, o3, placeV, hp, hry, hyy, oY, p1, p2, p3, zM_len, setR_zM]
  intro i1 i2 b21 i3 b32 b31 i4 b43 b42 b41 i5 b54 b53 b52 b51 i6 b65 b64 b63 b62 b61
  refine pwpT_go (pwp_drawT TM_ok 36 mixed (by kernel_rfl) ?_)
  have ok0 := okL_nil
  simp [b21, b32, b31, b43, b42, b41, b54, b53, b52, b51, b65, b64, b63, b62, b61, hr, hty, oM, o1, o2, o3, hry, hyy, oY, p1, p2, p3, okw, ok0, tdC, t0]
set_option maxRecDepth 8000 in
set_option maxHeartbeats 4000000 in
theorem take4_ok (t : Td) (m : Ms) (id : Int) (ht : okT0 t) (hm : okM0 m) : PFun P0 4 [.agg (tdC t), .agg (rowM m), num id] (bo true) := by
  refine pcalls_body Try.func4 rfl rfl rfl (by show 3 ≤ _; decide) (pwp_go TM_ok ?_)
  have h9 := fun σ => TM_ev9 t.nx t.pl t.rc t.dn ht σ
  have h10 := fun σ => TM_ev10 m hm σ
  have hr := sealC_len32 hm
  have hty := take_rowM0 hm
  cases hf : fewT t with
  | false => simp (config := { contextual := true }) [tdC, h9, h10, hf, hr, hty]
  | true =>
  cases hg : fewM m with
  | false => simp (config := { contextual := true }) [tdC, h9, h10, hf, hg, hr, hty]
  | true =>
  have oT := fewT_ok ht hf
  have oM := fewM_ok hm hg
  obtain ⟨o1, o2, o3⟩ := oT
  have oT : okT t := ⟨o1, o2, o3⟩
  obtain ⟨oP, oY⟩ := okT_take (id := id) oT oM
  obtain ⟨T, l, b, e, hp⟩ : ∃ T l b e, takeN t m id = (T, l, b, e) := ⟨_, _, _, _, rfl⟩
  rw [hp] at oP oY
  simp only at oP oY
  obtain ⟨p1, p2, p3⟩ := oP
  simp (config := { contextual := true }) [tdC, h9, h10, hf, hg, hr, hty, oM, o1, o2, o3, takeV, hp, oY, p1, p2, p3]
end Go.Proofs.Ytnjbcaakdfofcaa

/-
  Trade: the law TradeOther.
-/
set_option linter.unusedSimpArgs false
set_option linter.unusedVariables false
namespace Go.Proofs.Ytnjbcaakdfofcaa
open Go.Lo

theorem TM_still : Still TM := fun f args σ σ' => rfl
theorem wrap_ne {x b : Int} (hb : b ≠ 0) (h1 : -9223372036854775808 ≤ b) (h2 : b < 9223372036854775808) (h3 : 0 ≤ x) (h4 : x < 4611686018427387904) : IntKind.i64.wrap (x + b) ≠ x := by
  by_cases h : x + b < 9223372036854775808
  · rw [wrap_i64 (by omega) h]; omega
  · have e : IntKind.i64.wrap (x + b) = x + b - 18446744073709551616 := by
      have hm : (x + b) % 18446744073709551616 = x + b := Int.emod_eq_of_lt (by omega) (by omega)
      show (if (true && decide ((x + b) % 18446744073709551616 ≥ 9223372036854775808)) = true then (x + b) % 18446744073709551616 - 18446744073709551616 else (x + b) % 18446744073709551616) = _
      rw [hm, if_pos (by simp; omega)]
    rw [e]; omega
theorem other_plain {t : Td} {m o : Ms} {id : Int} {x : Td} {l : List Ms} {b : Bool} (h : takeN t m id = (x, l, b, 0)) (h1 : o.fr = m.fr) (h2 : o.no = m.no) (h3 : o.kd = m.kd) (hne : o ≠ m) : (takeN x o id).2.2.2 = 480 := by
  unfold takeN
  split
  · split
    · have hb : begR o = begR m := by unfold begR; rw [h3]
      rw [hb]
      have hm : mFN o = mFN m := by funext p; unfold mFN; rw [h1, h2]
      unfold takeN at h
      split at h
      · split at h
        · split at h
          · rename_i hbm
            rw [if_pos hbm]
            have key : x.rc.find? (mFN m) = some m := by
              split at h
              · rename_i p hp
                split at h
                · rename_i e
                  cases h
                  subst e; exact hp
                · cases h
              · rename_i hp
                split at h
                · cases h
                · cases h
                  show (t.rc ++ [m]).find? (mFN m) = some m
                  rw [List.find?_append]
                  have hp : t.rc.find? (mFN m) = none := hp
                  rw [hp]
                  simp [mFN]
            have key : x.rc.find? (fun p => p.fr == o.fr && p.no == o.no) = some m := by
              have e : (fun p : Ms => p.fr == o.fr && p.no == o.no) = mFN m := hm
              rw [e]; exact key
            rw [key]
            simp only
            rw [if_neg (Ne.symm hne)]
          · rename_i hbm
            rw [if_neg hbm]
            split at h
            · rename_i hc
              have hx : x.pl = t.pl := by
                split at h <;> cases h <;> rfl
              rw [hx, h2, if_neg]
              rintro ⟨_, e⟩
              exact hne (e.trans hc.2.symm)
            · cases h
        · cases h
      · cases h
    · rfl
  · rfl
theorem take_to {t : Td} {m : Ms} {id : Int} (h : (takeN t m id).2.2.2 = 0) : ofR m = true ∧ m.to = id := by
  unfold takeN at h
  split at h
  · split at h
    · rename_i hc
      simpa using hc
    · cases h
  · cases h
theorem take_wrong {t : Td} {m : Ms} {id id' : Int} (h : m.to = id) (hne : id' ≠ id) : (takeN t m id').2.2.2 = 480 := by
  unfold takeN
  split
  · rw [if_neg]
    simp only [Bool.and_eq_true, beq_iff_eq]
    rintro ⟨_, e⟩
    exact hne (e.symm.trans h)
  · rfl
theorem ofR_nums {m : Ms} (h : ofR m = true) : (0 ≤ m.to ∧ m.to ≤ 11) ∧ (1 ≤ m.am ∧ m.am ≤ 1048576) ∧ (0 ≤ m.it ∧ m.it ≤ 31) ∧ (0 ≤ m.dy ∧ m.dy ≤ 1023) := by
  simp only [ofR, firmR, inR, Bool.and_eq_true, decide_eq_true_eq] at h
  omega
theorem setR_am (m : Ms) (x : Int) : setR (rowM m) 5 [num x] = rowM { m with am := x } := by simp [setR, rowM]
theorem setR_it (m : Ms) (x : Int) : setR (rowM m) 4 [num x] = rowM { m with it := x } := by simp [setR, rowM]
theorem setR_dy (m : Ms) (x : Int) : setR (rowM m) 6 [num x] = rowM { m with dy := x } := by simp [setR, rowM]
set_option maxRecDepth 8000 in
set_option maxHeartbeats 4000000 in
theorem other7_ok (t : Td) (m : Ms) (id by_ : Int) (ht : okT0 t) (hm : okM0 m) (hb : (Lit.int .i64 by_).wf = true) : PFun P0 7 [.agg (tdC t), .agg (rowM m), num id, num by_] (bo true) := by
  have hbr : -9223372036854775808 ≤ by_ ∧ by_ < 9223372036854775808 := by
    simp only [Lit.wf, Bool.and_eq_true, decide_eq_true_eq] at hb
    have e1 : IntKind.i64.min = -9223372036854775808 := by decide
    have e2 : IntKind.i64.max = 9223372036854775807 := by decide
    rw [e1, e2] at hb; omega
  refine pcalls_body Try.func7 rfl rfl rfl (by show 4 ≤ _; decide) (pwp_goK TM_ok [1] ?_)
  have h9 := fun σ => TM_ev9 t.nx t.pl t.rc t.dn ht σ
  have h10 := fun σ => TM_ev10 m hm σ
  have hr := sealC_len32 hm
  have hty := take_rowM0 hm
  simp [tdC, hr]
  intro id4 id5 a1
  refine pwpT_go (pwp_frz 1 ((Heap.empty.set id4 (.cells (tdC t))).set id5 (.cells (rowM m))) (Frz.set (Frz.set Frz.none (by simp [a1, tdC])) (by simp [a1])) ?_)
  refine pwp_gen (I := fun fr σ => fr 2 = num id ∧ fr 3 = num by_ ∧ fr 4 = .ref (tdC t) ∧ fr 5 = .ref (rowM m)) ?_ ?_
  · simp [a1, tdC, frzN_rowM]
  rintro fr σ ⟨e2, e3, e4, e5⟩
  refine pwp_go TM_ok ?_
  cases hf : fewT t with
  | false => simp (config := { contextual := true }) [e2, e3, e4, e5, tdC, h9, h10, hf, hr, hty]
  | true =>
  cases hg : fewM m with
  | false => simp (config := { contextual := true }) [e2, e3, e4, e5, tdC, h9, h10, hf, hg, hr, hty]
  | true =>
  have oT := fewT_ok ht hf
  have oM := fewM_ok hm hg
  obtain ⟨o1, o2, o3⟩ := oT
  have oT : okT t := ⟨o1, o2, o3⟩
  by_cases hb0 : by_ = 0
  · simp (config := { contextual := true }) [e2, e3, e4, e5, tdC, h9, h10, hf, hg, hr, hty, hb0]
  obtain ⟨oP, oY⟩ := okT_take (id := id) oT oM
  obtain ⟨X, l, b, e, hp⟩ : ∃ X l b e, takeN t m id = (X, l, b, e) := ⟨_, _, _, _, rfl⟩
  rw [hp] at oP oY
  simp only at oP oY
  obtain ⟨p1, p2, p3⟩ := oP
  by_cases he : e = 0
  · subst he
    obtain ⟨f1, f2⟩ := take_to (by rw [hp])
    obtain ⟨n1, n2, n3, n4⟩ := ofR_nums f1
    have w0 := wrap_ne hb0 hbr.1 hbr.2 (x := id) (by omega) (by omega)
    have hw := take_wrong (t := t) f2 w0
    obtain ⟨q1, q2⟩ := okT_take (id := IntKind.i64.wrap (id + by_)) oT oM
    obtain ⟨X2, l2, b2, c2, hp2⟩ : ∃ X l b e, takeN t m (IntKind.i64.wrap (id + by_)) = (X, l, b, e) := ⟨_, _, _, _, rfl⟩
    rw [hp2] at q1 q2 hw
    simp only at q1 q2 hw
    subst hw
    obtain ⟨r1, r2, r3⟩ := q1
    simp [-NEW_def, e2, e3, e4, e5, tdC, h9, h10, hf, hg, hr, hty, hb0, oM, o1, o2, o3, takeV, hp, p1, p2, p3]
    refine fun i9 h9' => ?_
    simp [-NEW_def, e2, e3, e4, e5, tdC, hr, hty, oM, o1, o2, o3, takeV, hp2, r1, r2, r3]
    refine fun i13 h13 => ?_
    have b139 : Apart i13 i9 := by
      have h13 : frs _ i13 := h13
      simp at h13
      exact h13.1
    simp [e2, e3, e4, e5, tdC, hr, hty, b139]
    refine pwpT_go (pwp_frz 1 (Heap.empty.set i9 (.cells (tdC X))) (Frz.set Frz.none (by simp [b139, tdC])) ?_)
    refine pwp_gen (I := fun fr σ => fr 2 = num id ∧ fr 3 = num by_ ∧ fr 5 = .ref (rowM m) ∧ fr 9 = .ref (tdC X) ∧ fr 16 = num 480) ?_ ?_
    · simp [e2, e3, e5, b139, tdC, frzN_rowM]
    clear e2 e3 e4 e5 h13 h9'
    rintro fr σ ⟨e2, e3, e5, e9, e16⟩
    have facts : ∀ o : Ms, o.fr = m.fr → o.no = m.no → o.kd = m.kd → o ≠ m → (takeN X o id).2.2.2 = 480 := fun o => other_plain hp
    obtain ⟨A, hA⟩ : ∃ A : Ms, { m with am := IntKind.i64.wrap (m.am + by_) } = A := ⟨_, rfl⟩
    obtain ⟨B, hB⟩ : ∃ B : Ms, { m with it := IntKind.i64.wrap (m.it + by_) } = B := ⟨_, rfl⟩
    obtain ⟨C, hC⟩ : ∃ C : Ms, { m with dy := IntKind.i64.wrap (m.dy + by_) } = C := ⟨_, rfl⟩
    have sA := setR_am m (IntKind.i64.wrap (m.am + by_))
    have sB := setR_it m (IntKind.i64.wrap (m.it + by_))
    have sC := setR_dy m (IntKind.i64.wrap (m.dy + by_))
    rw [hA] at sA
    rw [hB] at sB
    rw [hC] at sC
    have oA : okM A := by rw [← hA]; exact oM
    have oB : okM B := by rw [← hB]; exact oM
    have oC : okM C := by rw [← hC]; exact oM
    have kA := facts A (by rw [← hA]) (by rw [← hA]) (by rw [← hA]) fun e => wrap_ne hb0 hbr.1 hbr.2 (x := m.am) (by omega) (by omega) (by rw [← hA] at e; exact congrArg Ms.am e)
    have kB := facts B (by rw [← hB]) (by rw [← hB]) (by rw [← hB]) fun e => wrap_ne hb0 hbr.1 hbr.2 (x := m.it) (by omega) (by omega) (by rw [← hB] at e; exact congrArg Ms.it e)
    have kC := facts C (by rw [← hC]) (by rw [← hC]) (by rw [← hC]) fun e => wrap_ne hb0 hbr.1 hbr.2 (x := m.dy) (by omega) (by omega) (by rw [← hC] at e; exact congrArg Ms.dy e)
    have all : ∀ k (h : k < [A, B, C].length), okM [A, B, C][k] ∧ (takeN X [A, B, C][k] id).2.2.2 = 480 := fun k h => by
      rcases (show k = 0 ∨ k = 1 ∨ k = 2 by simp at h; omega) with rfl | rfl | rfl
      · exact ⟨oA, kA⟩
      · exact ⟨oB, kB⟩
      · exact ⟨oC, kC⟩
    have hrA := rowM_len oA.1
    have hrB := rowM_len oB.1
    have hrC := rowM_len oC.1
    have htA := take_rowM oA
    have htB := take_rowM oB
    have htC := take_rowM oC
    have enc : ∀ b, PV.slice b [rowM A, rowM B, rowM C] = encM b [A, B, C] := fun _ => rfl
    obtain ⟨G, hG⟩ : ∃ G, [A, B, C] = G := ⟨_, rfl⟩
    have hGl : G.length = 3 := by rw [← hG]; rfl
    rw [hG] at all
    simp only [hG] at enc
    refine pwp_drawY TM_ok TM_still 8 [3, 4, 5] [6, 7] [.r 0, .r 1, .r 2, .e 3, .c 0, .c 1, .c 2, .e 4, .c 0, .c 1, .c 2, .e 5, .c 0, .c 1, .c 2, .e 6, .c 1, .c 2, .e 7, .c 2] mixed (by kernel_rfl) ?_
    simp (config := { contextual := true }) [e2, e3, e5, e9, e16, hr, hty, zM_len, setR_zM, sA, sB, sC, hrA, hrB, hrC, htA, htB, htC, enc]
    intro i17 h17 i18 c1 h18 i19 c2 c3 h19
    refine pwpT_go ?_
    refine pwp_loop (fun N fr σ => ∃ k : Nat, N = 3 - k ∧ k ≤ 3 ∧ fr 2 = num id ∧ fr 9 = .ref (tdC X) ∧ fr 16 = num 480 ∧ fr 83 = encM true G ∧ fr 84 = num 3 ∧ fr 85 = num k)
      (N := 3) ?_ ?_
    · refine ⟨0, ?_⟩
      simp [e2, e9, e16, enc, hGl]
    clear e2 e3 e5 e9 e16 h17 h18 h19
    rintro N fr σ ⟨k, rfl, hk, e2, e9, e16, e83, e84, e85⟩
    refine pwp_go TM_ok ?_
    by_cases hlt : k < G.length
    · obtain ⟨om, hk480⟩ := all k hlt
      have hk3 : (k : Int) < 3 := by omega
      have hx := IAx_encM (b := true) .i64 hlt om.1
      have hrk := rowM_len om.1
      have htk := take_rowM om
      have wk := wrap_succ (k := k) (by omega)
      obtain ⟨m', hm'⟩ : ∃ m', G[k] = m' := ⟨_, rfl⟩
      rw [hm'] at om hk480 hx hrk htk
      obtain ⟨q1, q2⟩ := okT_take (id := id) (t := X) ⟨p1, p2, p3⟩ om
      obtain ⟨X3, l3, b3, c3', hp3⟩ : ∃ X' l b e, takeN X m' id = (X', l, b, e) := ⟨_, _, _, _, rfl⟩
      rw [hp3] at q1 q2 hk480
      simp only at q1 q2 hk480
      subst hk480
      obtain ⟨s1, s2, s3⟩ := q1
      simp (config := { contextual := true }) [e2, e9, e16, e83, e84, e85, hk3, hx, hrk, htk, om, wk, takeV, hp3, p1, p2, p3, s1, s2, s3, tdC, zM_len, setR_zM]
      exact fun _ _ _ _ _ => ⟨3 - (k + 1), by omega, k + 1, rfl, by omega, by omega⟩
    · have hk3 : k = 3 := by omega
      subst hk3
      simp [e2, e9, e16, e83, e84, e85]
  · simp (config := { contextual := true }) [e2, e3, e4, e5, tdC, h9, h10, hf, hg, hr, hty, hb0, oM, o1, o2, o3, takeV, hp, p1, p2, p3, he]
end Go.Proofs.Ytnjbcaakdfofcaa

/-
  Trade: plain law of TradeAgain.
-/
set_option linter.unusedSimpArgs false
set_option linter.unusedVariables false
namespace Go.Proofs.Ytnjbcaakdfofcaa
open Go.Lo

theorem getD_app {l : List Ms} {y : Ms} {k : Nat} (h : k < l.length) : (l ++ [y]).getD k m0 = l.getD k m0 := by
  simp [List.getD, List.getElem?_append_left h]
theorem getD_end {l : List Ms} {y : Ms} : (l ++ [y]).getD l.length m0 = y := by simp [List.getD]
theorem allN_app {p q : Nat → Bool} {n : Nat} (h : allN p n = true) (hq : ∀ i, i < n → p i = true → q i = true) (hn : q n = true) : allN q (n + 1) = true := by
  rw [allN_iff] at h ⊢
  intro i hi
  by_cases e : i = n
  · subst e; exact hn
  · exact hq i (by omega) (h i (by omega))
theorem hdB_parts {t : Td} {id : Int} : hdB t id = true ↔ firmR id = true ∧ t.nx = (t.pl.length : Int) ∧ (t.pl.length : Int) ≤ 4096 ∧ (t.rc.length : Int) ≤ 4096 ∧ (t.dn.length : Int) ≤ 4096 := by
  simp only [hdB, Bool.and_eq_true, beq_iff_eq, decide_eq_true_eq, and_assoc]
theorem chk_iff {t : Td} {id : Int} : chk t id = true ↔ hdB t id = true ∧ allN (plB id t.pl) t.pl.length = true ∧ allN (rcB id t.rc) t.rc.length = true ∧ allN (dnB t.pl t.dn) t.dn.length = true := by
  simp only [chk, Bool.and_eq_true, and_assoc]
theorem dnB_parts {pl l : List Ms} {i : Nat} (h : dnB pl l i = true) : ofR (l.getD i m0) = true ∧ (l.getD i m0).no < pl.length ∧ l.getD i m0 = ansR (pl.getD (l.getD i m0).no.toNat m0) ∧ hasN (l.take i) (l.getD i m0).no = false := by
  simp only [dnB, Bool.and_eq_true, decide_eq_true_eq, Bool.not_eq_true'] at h
  exact ⟨h.1.1.1, h.1.1.2, h.1.2, h.2⟩
/-- What is placed. -/
theorem place_ok {t : Td} {o : Ms} {x : Td} {y : Ms} (h : placeN t o = (x, y, 0)) : chkE x o.fr = 0 ∧ y.no = t.nx ∧ x.pl.length = t.pl.length + 1 ∧ (waitN x o.fr).length = (waitN t o.fr).length + 1 := by
  unfold placeN at h
  split at h
  · rename_i hc
    split at h
    · cases h
    · rename_i hl
      split at h
      · rename_i hq
        cases h
        simp only [Bool.and_eq_true] at hq
        obtain ⟨h1, h2, h3, h4⟩ := chk_iff.1 hc
        obtain ⟨k1, k2, k3, k4, k5⟩ := hdB_parts.1 h1
        have hno : (plM t o).no = t.nx := rfl
        have hfr : (plM t o).fr = o.fr := rfl
        have C : chk (plT t o) o.fr = true := by
          refine chk_iff.2 ⟨hdB_parts.2 ⟨k1, ?_, ?_, k4, k5⟩, ?_, h3, ?_⟩
          · show t.nx + 1 = ((t.pl ++ [plM t o]).length : Int)
            simp; omega
          · show ((t.pl ++ [plM t o]).length : Int) ≤ 4096
            simp; omega
          · show allN (plB o.fr (t.pl ++ [plM t o])) (t.pl ++ [plM t o]).length = true
            rw [List.length_append]
            refine allN_app h2 (fun i hi hp => ?_) ?_
            · unfold plB at hp ⊢; rw [getD_app hi]; exact hp
            · unfold plB; rw [getD_end]
              simp [hq.1, hq.2, hno, hfr, k2]
          · show allN (dnB (t.pl ++ [plM t o]) t.dn) t.dn.length = true
            rw [allN_iff] at h4 ⊢
            intro i hi
            obtain ⟨d1, d2, d3, d4⟩ := dnB_parts (h4 i hi)
            have := ofR_no d1
            unfold dnB
            rw [getD_app (by omega), d1, d4, List.length_append]
            have e1 : decide ((t.dn.getD i m0).no < ((t.pl.length + [plM t o].length : Nat) : Int)) = true := decide_eq_true (by simp only [List.length_singleton]; omega)
            rw [e1, ← d3]; simp
        refine ⟨by simp [chkE, C], rfl, by simp [plT], ?_⟩
        have hnot : hasN t.dn (plM t o).no = false := by
          unfold hasN; rw [List.any_eq_false]
          intro m hm
          obtain ⟨i, hi, rfl⟩ := List.getElem_of_mem hm
          obtain ⟨d1, d2, d3, d4⟩ := dnB_parts (allN_iff.1 h4 i hi)
          rw [getD_lt hi] at d2
          rw [hno]; simp; omega
        show ((t.pl ++ [plM t o]).filter (waitB (plT t o) o.fr)).length = _
        have e : waitB (plT t o) o.fr = waitB t o.fr := rfl
        rw [e, List.filter_append, List.length_append]
        have e2 : waitB t o.fr (plM t o) = true := by unfold waitB; rw [hnot, hfr]; simp
        simp [waitN, List.filter_cons, e2]
      · cases h
  · cases h
theorem place_no {t : Td} {o : Ms} {x : Td} {y : Ms} {e : Int} (h : placeN t o = (x, y, e)) (he : e ≠ 0) : x = t0 := by
  unfold placeN at h
  split at h
  · split at h
    · cases h; rfl
    · split at h
      · cases h; exact absurd rfl he
      · cases h; rfl
  · cases h; rfl
theorem take_no {t : Td} {m : Ms} {id : Int} {x : Td} {l : List Ms} {b : Bool} {e : Int} (h : takeN t m id = (x, l, b, e)) (he : e ≠ 0) : x = t0 ∧ l = [] ∧ b = false := by
  unfold takeN at h
  repeat' split at h
  all_goals first | (cases h; exact ⟨rfl, rfl, rfl⟩) | (cases h; exact absurd rfl he)
theorem take_ok {t : Td} {m : Ms} {id : Int} {x : Td} {l : List Ms} {b : Bool} (h : takeN t m id = (x, l, b, 0)) (hd : t.dn.length < 4096) :
    takeN x m id = (x, l, false, 0) ∧ chk x id = true ∧ (b = false → x = t) ∧ (∀ a ∈ l, a.fr = id ∧ a.to = m.fr ∧ a.no = m.no) ∧ (b = true → x.rc.length + x.dn.length = t.rc.length + t.dn.length + 1) ∧ x.pl = t.pl := by
  obtain ⟨f1, f2⟩ := take_to (by rw [h])
  have hans : ∀ a ∈ [ansR m], a.fr = id ∧ a.to = m.fr ∧ a.no = m.no := fun a ha => by
    rw [List.mem_singleton.1 ha]; exact ⟨f2, rfl, rfl⟩
  have hnil : ∀ a ∈ ([] : List Ms), a.fr = id ∧ a.to = m.fr ∧ a.no = m.no := fun a ha => by cases ha
  have hcond : (ofR m && m.to == id) = true := by simp [f1, f2]
  have h' := h
  unfold takeN at h'
  split at h'
  · rename_i hc
    obtain ⟨h1, h2, h3, h4⟩ := chk_iff.1 hc
    obtain ⟨k1, k2, k3, k4, k5⟩ := hdB_parts.1 h1
    split at h'
    · rename_i hb
      split at h'
      · split at h'
        · cases h'
          exact ⟨h, hc, fun _ => rfl, hans, nofun, rfl⟩
        · cases h'
      · rename_i hfd
        split at h'
        · cases h'
        · rename_i hl
          cases h'
          have hnot : hasR t.rc m = false := by
            unfold hasR; rw [List.any_eq_false]
            intro p hp
            exact List.find?_eq_none.1 hfd p hp
          have C : chk { t with rc := t.rc ++ [m] } id = true := by
            refine chk_iff.2 ⟨hdB_parts.2 ⟨k1, k2, k3, ?_, k5⟩, h2, ?_, h4⟩
            · show ((t.rc ++ [m]).length : Int) ≤ 4096
              simp; omega
            · show allN (rcB id (t.rc ++ [m])) (t.rc ++ [m]).length = true
              rw [List.length_append]
              refine allN_app h3 (fun i hi hp => ?_) ?_
              · unfold rcB at hp ⊢
                rw [getD_app hi, List.take_append_of_le_length (by omega)]; exact hp
              · unfold rcB
                rw [getD_end, List.take_left, hnot]
                simp [f1, f2, hb]
          refine ⟨?_, C, nofun, hans, fun _ => by simp; omega, rfl⟩
          unfold takeN
          rw [if_pos C, if_pos hcond, if_pos hb]
          have : (t.rc ++ [m]).find? (fun o => o.fr == m.fr && o.no == m.no) = some m := by
            rw [List.find?_append, hfd]; simp
          show (match (t.rc ++ [m]).find? (fun o => o.fr == m.fr && o.no == m.no) with
            | some o => if o = m then ((⟨t.nx, t.pl, t.rc ++ [m], t.dn⟩, [ansR m], false, 0) : Td × List Ms × Bool × Int) else (t0, [], false, 480)
            | none => if (t.rc ++ [m]).length = 4096 then (t0, [], false, 2) else (⟨t.nx, t.pl, (t.rc ++ [m]) ++ [m], t.dn⟩, [ansR m], true, 0)) = _
          rw [this]
          simp
    · rename_i hb
      split at h'
      · rename_i hcd
        split at h'
        · cases h'
          exact ⟨h, hc, fun _ => rfl, hnil, nofun, rfl⟩
        · rename_i hdn
          cases h'
          have hdn' : hasN t.dn m.no = false := by simpa using hdn
          have C : chk { t with dn := t.dn ++ [m] } id = true := by
            refine chk_iff.2 ⟨hdB_parts.2 ⟨k1, k2, k3, k4, ?_⟩, h2, h3, ?_⟩
            · show ((t.dn ++ [m]).length : Int) ≤ 4096
              simp; omega
            · show allN (dnB t.pl (t.dn ++ [m])) (t.dn ++ [m]).length = true
              rw [List.length_append]
              refine allN_app h4 (fun i hi hp => ?_) ?_
              · unfold dnB at hp ⊢
                rw [getD_app hi, List.take_append_of_le_length (by omega)]; exact hp
              · unfold dnB
                rw [getD_end, List.take_left, hdn', ← hcd.2, f1]
                simp [hcd.1]
          refine ⟨?_, C, nofun, hnil, fun _ => by simp; omega, rfl⟩
          unfold takeN
          rw [if_pos C, if_pos hcond, if_neg hb, if_pos hcd, if_pos]
          show hasN (t.dn ++ [m]) m.no = true
          unfold hasN; simp
      · cases h'
  · cases h'
end Go.Proofs.Ytnjbcaakdfofcaa

/-
  Trade: the law TradeAgain.
-/
set_option linter.unusedSimpArgs false
set_option linter.unusedVariables false
namespace Go.Proofs.Ytnjbcaakdfofcaa
open Go.Lo

theorem two {P : Program} {n : Nat} {I : Fr → Heap → Prop} {G : Prop} {c : Code} {Q : PX → Fr → Heap → Prop} (main : (∀ fr σ, I fr σ → pwp P false n c Q fr σ) → G) (key : ∀ fr σ, I fr σ → pwp P false n c Q fr σ) : G := main key
set_option maxRecDepth 8000 in
set_option maxHeartbeats 8000000 in
theorem again5_ok (t : Td) (m o : Ms) (id : Int) (ht : okT0 t) (hm : okM0 m) (ho : okM0 o) : PFun P0 5 [.agg (tdC t), .agg (rowM m), .agg (rowM o), num id] (bo true) := by
  refine pcalls_body Try.func5 rfl rfl rfl (by show 4 ≤ _; decide) (pwp_goK TM_ok [1, 11, 19] ?_)
  have h9 := fun σ => TM_ev9 t.nx t.pl t.rc t.dn ht σ
  have h10 := fun σ => TM_ev10 m hm σ
  have h10' := fun σ => TM_ev10 o ho σ
  have hr := sealC_len32 hm
  have hty := take_rowM0 hm
  have hro := sealC_len32 ho
  have hto := take_rowM0 ho
  simp [tdC, hr, hro]
  intro id4 id5 a1 id6 a2 a3
  refine pwpT_go (pwp_frz 1 (((Heap.empty.set id4 (.cells (tdC t))).set id5 (.cells (rowM m))).set id6 (.cells (rowM o))) (Frz.set (Frz.set (Frz.set Frz.none (by simp [a1, a2, a3, tdC])) (by simp [a1, a2, a3])) (by simp [a1, a2, a3])) ?_)
  refine pwp_gen (I := fun fr σ => fr 3 = num id ∧ fr 4 = .ref (tdC t) ∧ fr 5 = .ref (rowM m) ∧ fr 6 = .ref (rowM o)) ?_ ?_
  · simp [a1, a2, a3, tdC, frzN_rowM]
  clear a1 a2 a3
  rintro fr σ ⟨e3, e4, e5, e6⟩
  refine pwp_go TM_ok ?_
  cases hf : fewT t with
  | false => simp (config := { contextual := true }) [e3, e4, e5, e6, tdC, h9, h10, h10', hf, hr, hty, hro, hto]
  | true =>
  cases hg : fewM m with
  | false => simp (config := { contextual := true }) [e3, e4, e5, e6, tdC, h9, h10, h10', hf, hg, hr, hty, hro, hto]
  | true =>
  cases hg2 : fewM o with
  | false => simp (config := { contextual := true }) [e3, e4, e5, e6, tdC, h9, h10, h10', hf, hg, hg2, hr, hty, hro, hto]
  | true =>
  have oT := fewT_ok ht hf
  have oM := fewM_ok hm hg
  have oO := fewM_ok ho hg2
  have hdn : t.dn.length < 4096 := by
    simp only [fewT, Bool.and_eq_true] at hf
    have := (fewL_ok ht.2.2 hf.2).2; omega
  have hl20 : t.pl.length ≤ 20 ∧ t.rc.length ≤ 20 ∧ t.dn.length ≤ 20 := by
    simp only [fewT, Bool.and_eq_true] at hf
    exact ⟨(fewL_ok ht.1 hf.1.1).2, (fewL_ok ht.2.1 hf.1.2).2, (fewL_ok ht.2.2 hf.2).2⟩
  obtain ⟨o1, o2, o3⟩ := oT
  have oT : okT t := ⟨o1, o2, o3⟩
  apply two (P := P0) (n := 192) (I := fun fr σ => fr 3 = num id ∧ fr 4 = .ref (tdC t) ∧ fr 5 = .ref (rowM m))
  case main =>
    intro key
    obtain ⟨oP, oY⟩ := okT_place oT oO
    obtain ⟨x, y, e, hp⟩ : ∃ x y e, placeN t o = (x, y, e) := ⟨_, _, _, rfl⟩
    rw [hp] at oP oY
    simp only at oP oY
    obtain ⟨p1, p2, p3⟩ := oP
    have hry := rowM_len oY.1
    have hyy := take_rowM oY
    have ok0 := okL_nil
    by_cases he : e = 0
    · subst he
      obtain ⟨k1, k2, k3, k4⟩ := place_ok hp
      have w1 := wrap_succ (k := t.pl.length) (by omega)
      have hwl : (waitN t o.fr).length ≤ t.pl.length := List.length_filter_le _ _
      have w2 := wrap_succ (k := (waitN t o.fr).length) (by omega)
      simp (config := { contextual := true }) [e3, e4, e5, e6, tdC, h9, h10, h10', hf, hg, hg2, hr, hty, hro, hto, oM, oO, o1, o2, o3, placeV, hp, hry, hyy, oY, p1, p2, p3, zM_len, setR_zM]
      intro i9 f9 i10 b1 f10
      refine pwpT_go (pwp_drawT TM_ok 35 mixed (by kernel_rfl) ?_)
      simp [e3, e4, e5, e6, b1, tdC, hro, hto, hry, hyy, oO, oY, o1, o2, o3, p1, p2, p3, k1, k2, k3, k4, w1, w2]
      refine pwpT_go (key _ _ ?_)
      simp [e3, e4, e5, tdC]
    · have hx := place_no hp he
      subst hx
      simp (config := { contextual := true }) [e3, e4, e5, e6, tdC, h9, h10, h10', hf, hg, hg2, hr, hty, hro, hto, oM, oO, o1, o2, o3, placeV, hp, hry, hyy, oY, p1, p2, p3, zM_len, setR_zM, he, ok0, t0]
      intro i9 f9 i10 b1 f10
      refine pwpT_go (key _ _ ?_)
      simp [e3, e4, e5, tdC]
  case key =>
    clear e3 e4 e5 e6
    rintro fr σ ⟨e3, e4, e5⟩
    refine pwp_go TM_ok ?_
    have ok0 := okL_nil
    obtain ⟨oP, oL⟩ := okT_take (id := id) oT oM
    obtain ⟨x, l, b, e, hp⟩ : ∃ x l b e, takeN t m id = (x, l, b, e) := ⟨_, _, _, _, rfl⟩
    rw [hp] at oP oL
    simp only at oP oL
    obtain ⟨p1, p2, p3⟩ := oP
    by_cases he : e = 0
    · subst he
      obtain ⟨k1, k2, k3, k4, k5, k6⟩ := take_ok hp hdn
      have k2' : chkE x id = 0 := by simp [chkE, k2]
      have hxt : b = false → decide (x = t) = true := fun h => by simp [k3 h]
      have lx : x.rc.length + x.dn.length ≤ 41 := by
        cases b with
        | false => rw [k3 rfl]; omega
        | true => have := k5 rfl; omega
      have wx : IntKind.i64.wrap ((x.rc.length : Int) + x.dn.length) = (x.rc.length : Int) + x.dn.length := wrap_i64 (by omega) (by omega)
      have wt : IntKind.i64.wrap ((t.rc.length : Int) + t.dn.length) = (t.rc.length : Int) + t.dn.length := wrap_i64 (by omega) (by omega)
      have wt1 : IntKind.i64.wrap ((t.rc.length : Int) + t.dn.length + 1) = (t.rc.length : Int) + t.dn.length + 1 := wrap_i64 (by omega) (by omega)
      have hcmp : ((x.rc.length : Int) + x.dn.length == (t.rc.length : Int) + t.dn.length + 1) = b := by
        cases b with
        | false => rw [k3 rfl]; simp; omega
        | true => have := k5 rfl; simp; omega
      have hl5 := oL.2
      have lds : ∀ k (h : k < l.length), okM l[k] ∧ l[k].fr = id ∧ l[k].to = m.fr ∧ l[k].no = m.no := fun k h => ⟨oL.1 _ (List.getElem_mem h), k4 _ (List.getElem_mem h)⟩
      apply two (P := P0) (n := 192) (I := fun fr σ => fr 3 = num id ∧ fr 4 = .ref (tdC t) ∧ fr 5 = .ref (rowM m) ∧ (∃ i12, fr 12 = .ptr i12 0 ∧ σ i12 = some (.cells (tdC x))) ∧ fr 13 = encM false l ∧ fr 14 = bo b)
      case main =>
        intro key
        cases b with
        | false =>
          have hxt' := hxt rfl
          simp (config := { contextual := true }) [e3, e4, e5, tdC, hr, hty, oM, o1, o2, o3, takeV, hp, p1, p2, p3, zM_len, setR_zM, ok0, oL, k1, k2', hxt']
          intro i12 f12 i16 b16 f16
          refine pwpT_go (key _ _ ?_)
          simp [e3, e4, e5, b16, tdC]
        | true =>
          simp (config := { contextual := true }) [e3, e4, e5, tdC, hr, hty, oM, o1, o2, o3, takeV, hp, p1, p2, p3, zM_len, setR_zM, ok0, oL, k1, k2']
          intro i12 f12 i16 b16 f16
          refine pwpT_go (key _ _ ?_)
          simp [e3, e4, e5, b16, tdC]
      case key =>
        clear e3 e4 e5
        rintro fr σ ⟨e3, e4, e5, ⟨i12, e12, s12⟩, e13, e14⟩
        refine pwp_frz 1 (Heap.empty.set i12 (.cells (tdC x))) (Frz.set Frz.none s12) ?_
        refine pwp_gen (I := fun fr σ => fr 3 = num id ∧ fr 4 = .ref (tdC t) ∧ fr 5 = .ref (rowM m) ∧ fr 12 = .ref (tdC x) ∧ fr 13 = encM false l ∧ fr 14 = bo b) ?_ ?_
        · simp [e3, e4, e5, e12, e13, e14, tdC, frzN_rowM]
        clear e3 e4 e5 e12 e13 e14 s12
        rintro fr σ ⟨e3, e4, e5, e12, e13, e14⟩
        refine pwp_go TM_ok ?_
        simp [e3, e4, e5, e12, e13, e14]
        refine pwp_loop (fun N fr σ => ∃ k : Nat, N = l.length - k ∧ k ≤ l.length ∧ fr 3 = num id ∧ fr 4 = .ref (tdC t) ∧ fr 5 = .ref (rowM m) ∧ fr 12 = .ref (tdC x) ∧ fr 14 = bo b ∧ fr 149 = encM false l ∧ fr 150 = num l.length ∧ fr 151 = num k)
          (N := l.length) ?_ ?_
        · refine ⟨0, ?_⟩
          simp [e3, e4, e5, e12, e13, e14]
        clear e3 e4 e5 e12 e13 e14
        rintro N fr σ ⟨k, rfl, hk, e3, e4, e5, e12, e14, e149, e150, e151⟩
        refine pwp_go TM_ok ?_
        by_cases hlt : k < l.length
        · obtain ⟨om, g1, g2, g3⟩ := lds k hlt
          have hx := IAx_encM (b := false) .i64 hlt om.1
          have hrk := rowM_len om.1
          have htk := take_rowM om
          have wk := wrap_succ (k := k) (by omega)
          simp (config := { contextual := true }) [e3, e4, e5, e12, e14, e149, e150, e151, hlt, hx, hrk, htk, hr, g1, g2, g3, wk, zM_len, setR_zM]
          exact fun _ _ => ⟨l.length - (k + 1), by omega, k + 1, rfl, by omega, by omega⟩
        · simp [e3, e4, e5, e12, e14, e149, e150, e151, hlt, tdC, wx, wt, wt1, hcmp]
    · obtain ⟨rfl, rfl, rfl⟩ := take_no hp he
      simp (config := { contextual := true }) [e3, e4, e5, tdC, hr, hty, oM, o1, o2, o3, takeV, hp, p1, p2, p3, zM_len, setR_zM, he, ok0, t0]
end Go.Proofs.Ytnjbcaakdfofcaa

/-
  Trade: plain law of TradeOnce.
-/
set_option linter.unusedSimpArgs false
set_option linter.unusedVariables false
namespace Go.Proofs.Ytnjbcaakdfofcaa
open Go.Lo

theorem nodup_sub {α : Type} [DecidableEq α] : ∀ (L R : List α), L.Nodup → (∀ x ∈ L, x ∈ R) → L.length ≤ R.length := by
  intro L
  induction L with
  | nil => intro R _ _; simp
  | cons x L ih =>
    intro R hn hs
    obtain ⟨h1, h2⟩ := List.nodup_cons.1 hn
    have hx := hs x (List.mem_cons_self ..)
    have := ih (R.erase x) h2 fun y hy => (List.mem_erase_of_ne (show y ≠ x from fun e => h1 (by rw [← e]; exact hy))).2 (hs y (List.mem_cons_of_mem _ hy))
    rw [List.length_erase_of_mem hx] at this
    have : 0 < R.length := List.length_pos_of_mem hx
    simp; omega
/-- Between two firms. -/
structure Inv (a b : Td) (s w : List Ms) (i k : Int) : Prop where
  ca : chk a i = true
  cb : chk b k = true
  s : s = a.pl
  ar : a.rc = []
  bp : b.pl = []
  bd : b.dn = []
  to : ∀ m ∈ a.pl, m.to = k
  rc : ∀ m ∈ b.rc, m ∈ a.pl
  an : ∀ c ∈ w, ∃ m ∈ b.rc, c = ansR m
  dn : ∀ d ∈ a.dn, ∃ m ∈ b.rc, d = ansR m
theorem pl_at {a : Td} {i : Int} (h : chk a i = true) {m : Ms} (hm : m ∈ a.pl) : ofR m = true ∧ begR m = true ∧ m.fr = i ∧ ∃ n : Nat, ∃ h : n < a.pl.length, m.no = n ∧ a.pl[n] = m := by
  obtain ⟨n, hn, rfl⟩ := List.getElem_of_mem hm
  obtain ⟨_, h2, _⟩ := chk_iff.1 h
  obtain ⟨p1, p2, p3, p4⟩ := plB_parts h2 hn
  exact ⟨p1, p2, p3, n, hn, p4, rfl⟩
theorem pl_inj {a : Td} {i : Int} (h : chk a i = true) {m o : Ms} (hm : m ∈ a.pl) (ho : o ∈ a.pl) (e : m.no = o.no) : m = o := by
  obtain ⟨_, _, _, n, hn, e1, rfl⟩ := pl_at h hm
  obtain ⟨_, _, _, n', hn', e1', rfl⟩ := pl_at h ho
  have : n = n' := by omega
  subst this; rfl
theorem rc_nodup {b : Td} {k : Int} (h : chk b k = true) : b.rc.Nodup := by
  obtain ⟨_, _, h3, _⟩ := chk_iff.1 h
  rw [List.Nodup, List.pairwise_iff_getElem]
  intro x y hx hy hxy e
  obtain ⟨_, _, _, p⟩ := rcB_parts h3 hy
  unfold hasR at p
  rw [List.any_eq_false] at p
  have := p b.rc[x] (List.mem_take_iff_getElem.2 ⟨x, by omega, rfl⟩)
  rw [e] at this; simp at this
theorem dn_nodup {a : Td} {i : Int} (h : chk a i = true) : (a.dn.map fun m => m.no).Nodup := by
  obtain ⟨_, _, _, h4⟩ := chk_iff.1 h
  rw [List.Nodup, List.pairwise_iff_getElem]
  intro x y hx hy hxy e
  simp only [List.length_map] at hx hy
  simp only [List.getElem_map] at e
  obtain ⟨_, _, _, p⟩ := dnB_parts (allN_iff.1 h4 y hy)
  rw [getD_lt hy] at p
  unfold hasN at p
  rw [List.any_eq_false] at p
  have := p a.dn[x] (List.mem_take_iff_getElem.2 ⟨x, by omega, rfl⟩)
  rw [e] at this; simp at this
theorem ofR_ans {m : Ms} (h1 : ofR m = true) (h2 : begR m = true) : ofR (ansR m) = true ∧ begR (ansR m) = false := by
  have h1' := h1
  simp only [ofR, Bool.and_eq_true, Bool.not_eq_true', beq_eq_false_iff_ne, ne_eq, Bool.or_eq_true, beq_iff_eq] at h1'
  obtain ⟨⟨⟨⟨⟨⟨⟨⟨⟨⟨⟨a1, a2⟩, a3⟩, a4⟩, a5⟩, a6⟩, a7⟩, a8⟩, a9⟩, a10⟩, a11⟩, a12⟩ := h1'
  have hz : sealZ (ansR m) = true := a12
  simp only [begR, Bool.or_eq_true, beq_iff_eq] at h2
  rcases h2 with h2 | h2
  · have hk : (ansR m).kd = 2 := by simp [ansR, h2]
    have lb : m.lb = 0 := by rcases a10 with h | h <;> omega
    refine ⟨?_, by simp [begR, hk]⟩
    unfold ofR
    rw [hk, hz]
    simp [ansR, a2, a3, a5, a6, a7, a8, a9, a11, lb, Ne.symm a4, show inR 2 1 4 = true from rfl, show inR 0 0 4095 = true from rfl]
  · have hk : (ansR m).kd = 4 := by simp [ansR, h2]
    refine ⟨?_, by simp [begR, hk]⟩
    unfold ofR
    rw [hk, hz]
    simp [ansR, a2, a3, a5, a6, a7, a8, a9, a11, Ne.symm a4, show inR 4 1 4 = true from rfl]
theorem inv_place {a b : Td} {s w : List Ms} {i k : Int} (H : Inv a b s w i k) {m' : Ms} {x : Td} {y : Ms} (h : placeN a m' = (x, y, 0)) (h1 : m'.fr = i) (h2 : m'.to = k) : Inv x b (s ++ [y]) w i k ∧ x.pl = a.pl ++ [y] ∧ y.to = k := by
  obtain ⟨k1, _⟩ := place_ok h
  have cx : chk x i = true := by
    rw [h1] at k1
    unfold chkE at k1
    split at k1
    · assumption
    · cases k1
  unfold placeN at h
  split at h
  · split at h
    · cases h
    · split at h
      · cases h
        refine ⟨⟨cx, H.cb, by rw [H.s]; rfl, H.ar, H.bp, H.bd, fun m hm => ?_, fun m hm => List.mem_append_left _ (H.rc m hm), H.an, H.dn⟩, rfl, h2⟩
        rcases List.mem_append.1 hm with hm | hm
        · exact H.to m hm
        · rw [List.mem_singleton.1 hm]; exact h2
      · cases h
  · cases h
theorem inv_arrive {a b : Td} {s w : List Ms} {i k : Int} (H : Inv a b s w i k) {m : Ms} (hm : m ∈ a.pl) (hl : b.rc.length < 4096) :
    ∃ b' fr, takeN b m k = (b', [ansR m], fr, 0) ∧ Inv a b' s (w ++ [ansR m]) i k ∧ m ∈ b'.rc ∧ b'.rc.length = b.rc.length + (if fr then 1 else 0) ∧ ∀ o ∈ b.rc, o ∈ b'.rc := by
  obtain ⟨p1, p2, p3, n, hn, p4, p5⟩ := pl_at H.ca hm
  have ht := H.to m hm
  have hcond : (ofR m && m.to == k) = true := by simp [p1, ht]
  cases hf : b.rc.find? (fun o => o.fr == m.fr && o.no == m.no) with
  | some o =>
    have ho := List.mem_of_find?_eq_some hf
    have hp := List.find?_some hf
    simp only [Bool.and_eq_true, beq_iff_eq] at hp
    have e : o = m := pl_inj H.ca (H.rc o ho) hm hp.2
    refine ⟨b, false, ?_, ⟨H.ca, H.cb, H.s, H.ar, H.bp, H.bd, H.to, H.rc, fun c hc => ?_, H.dn⟩, e ▸ ho, by simp, fun _ h => h⟩
    · unfold takeN
      rw [if_pos H.cb, if_pos hcond, if_pos p2, hf]
      simp only
      rw [if_pos e]
    · rcases List.mem_append.1 hc with hc | hc
      · exact H.an c hc
      · exact ⟨m, e ▸ ho, List.mem_singleton.1 hc⟩
  | none =>
    have hT : takeN b m k = ({ b with rc := b.rc ++ [m] }, [ansR m], true, 0) := by
      unfold takeN
      rw [if_pos H.cb, if_pos hcond, if_pos p2, hf]
      simp only
      rw [if_neg (by omega)]
    have hd : b.dn.length < 4096 := by rw [H.bd]; simp
    obtain ⟨_, k2, _⟩ := take_ok hT hd
    refine ⟨_, true, hT, ⟨H.ca, k2, H.s, H.ar, H.bp, H.bd, H.to, fun o ho => ?_, fun c hc => ?_, fun d hd => ?_⟩, by simp, by simp, fun o ho => by simp [ho]⟩
    · rcases List.mem_append.1 ho with ho | ho
      · exact H.rc o ho
      · rw [List.mem_singleton.1 ho]; exact hm
    · rcases List.mem_append.1 hc with hc | hc
      · obtain ⟨o, ho, e⟩ := H.an c hc
        exact ⟨o, List.mem_append_left _ ho, e⟩
      · exact ⟨m, by simp, List.mem_singleton.1 hc⟩
    · obtain ⟨o, ho, e⟩ := H.dn d hd
      exact ⟨o, List.mem_append_left _ ho, e⟩
theorem inv_answered {a b : Td} {s w : List Ms} {i k : Int} (H : Inv a b s w i k) {c : Ms} (hc : c ∈ w) (hl : a.dn.length < 4096) :
    ∃ a' fr, takeN a c i = (a', [], fr, 0) ∧ c.to = i ∧ Inv a' b s w i k ∧ a'.pl = a.pl ∧ hasN a'.dn c.no = true ∧ a'.nx = a.nx ∧ (∀ x, hasN a.dn x = true → hasN a'.dn x = true) ∧ a'.dn.length ≤ a.dn.length + 1 := by
  obtain ⟨m, hm, rfl⟩ := H.an c hc
  have hmp := H.rc m hm
  obtain ⟨p1, p2, p3, n, hn, p4, p5⟩ := pl_at H.ca hmp
  obtain ⟨q1, q2⟩ := ofR_ans p1 p2
  have hto : (ansR m).to = i := p3
  have hno : (ansR m).no = n := p4
  have hcond : (ofR (ansR m) && (ansR m).to == i) = true := by simp [q1, hto]
  have hpl : (ansR m).no < a.pl.length ∧ ansR m = ansR (a.pl.getD (ansR m).no.toNat m0) := by
    rw [hno, Int.toNat_natCast, getD_lt hn, p5]; exact ⟨by omega, rfl⟩
  cases hd : hasN a.dn (ansR m).no with
  | true =>
    refine ⟨a, false, ?_, hto, H, rfl, hd, rfl, fun _ h => h, by omega⟩
    unfold takeN
    rw [if_pos H.ca, if_pos hcond, if_neg (by rw [q2]; simp), if_pos hpl, if_pos hd]
  | false =>
    have hT : takeN a (ansR m) i = ({ a with dn := a.dn ++ [ansR m] }, [], true, 0) := by
      unfold takeN
      rw [if_pos H.ca, if_pos hcond, if_neg (by rw [q2]; simp), if_pos hpl, if_neg (by rw [hd]; simp)]
    obtain ⟨_, k2, _⟩ := take_ok hT hl
    refine ⟨_, true, hT, hto, ⟨k2, H.cb, H.s, H.ar, H.bp, H.bd, H.to, H.rc, H.an, fun d hd => ?_⟩, rfl, by simp [hasN], rfl, fun x h => ?_, by simp⟩
    · rcases List.mem_append.1 hd with hd | hd
      · exact H.dn d hd
      · exact ⟨m, hm, List.mem_singleton.1 hd⟩
    · show hasN (a.dn ++ [ansR m]) x = true
      unfold hasN at h ⊢
      rw [List.any_append, h]; rfl
theorem inv_le {a b : Td} {s w : List Ms} {i k : Int} (H : Inv a b s w i k) : b.rc.length ≤ a.pl.length ∧ a.dn.length ≤ a.pl.length := by
  refine ⟨nodup_sub _ _ (rc_nodup H.cb) H.rc, ?_⟩
  have := nodup_sub (a.dn.map fun m => m.no) (a.pl.map fun m => m.no) (dn_nodup H.ca) fun x hx => by
    obtain ⟨d, hd, rfl⟩ := List.mem_map.1 hx
    obtain ⟨m, hm, rfl⟩ := H.dn d hd
    exact List.mem_map.2 ⟨m, H.rc m hm, rfl⟩
  simpa using this
theorem inv_end {a b : Td} {s w : List Ms} {i k : Int} (H : Inv a b s w i k) (hw : waitN a i = []) : b.rc.length = a.pl.length ∧ a.dn.length = a.pl.length ∧ ∀ m ∈ a.pl, m ∈ b.rc := by
  have hdone : ∀ m ∈ a.pl, hasN a.dn m.no = true := fun m hm => by
    obtain ⟨_, _, p3, _⟩ := pl_at H.ca hm
    have := List.filter_eq_nil_iff.1 hw m hm
    unfold waitB at this
    rw [p3] at this
    simpa using this
  have hrc : ∀ m ∈ a.pl, m ∈ b.rc := fun m hm => by
    have h := hdone m hm
    unfold hasN at h
    obtain ⟨d, hd, he⟩ := List.any_eq_true.1 h
    obtain ⟨o, ho, rfl⟩ := H.dn d hd
    have : o.no = m.no := by simpa [ansR] using he
    exact pl_inj H.ca (H.rc o ho) hm this ▸ ho
  have hnd : (a.pl.map fun m => m.no).Nodup := by
    rw [List.Nodup, List.pairwise_iff_getElem]
    intro x y hx hy hxy e
    simp only [List.length_map] at hx hy
    simp only [List.getElem_map] at e
    obtain ⟨_, h2, _⟩ := chk_iff.1 H.ca
    have e1 := (plB_parts h2 hx).2.2.2
    have e2 := (plB_parts h2 hy).2.2.2
    omega
  have hnd2 : a.pl.Nodup := by
    rw [List.Nodup, List.pairwise_iff_getElem]
    intro x y hx hy hxy e
    obtain ⟨_, h2, _⟩ := chk_iff.1 H.ca
    have e1 := (plB_parts h2 hx).2.2.2
    have e2 := (plB_parts h2 hy).2.2.2
    rw [e] at e1; omega
  obtain ⟨l1, l2⟩ := inv_le H
  refine ⟨Nat.le_antisymm l1 (nodup_sub _ _ hnd2 hrc), Nat.le_antisymm l2 ?_, hrc⟩
  have := nodup_sub (a.pl.map fun m => m.no) (a.dn.map fun m => m.no) hnd fun x hx => by
    obtain ⟨m, hm, rfl⟩ := List.mem_map.1 hx
    have h := hdone m hm
    unfold hasN at h
    obtain ⟨d, hd, he⟩ := List.any_eq_true.1 h
    exact List.mem_map.2 ⟨d, hd, by simpa using he⟩
  simpa using this
theorem inv_start {i k : Int} (hi : firmR i = true) (hk : firmR k = true) : Inv t0 t0 [] [] i k := by
  have c : ∀ j, firmR j = true → chk t0 j = true := fun j hj => by simp [chk, hdB, t0, hj, allN]
  exact ⟨c i hi, c k hk, rfl, rfl, rfl, rfl, fun m hm => (by cases hm), fun m hm => (by cases hm), fun m hm => (by cases hm), fun m hm => (by cases hm)⟩
end Go.Proofs.Ytnjbcaakdfofcaa

/-
  Trade: the pair of firms in memory; arrive, answered.
-/
set_option linter.unusedSimpArgs false
set_option linter.unusedVariables false
namespace Go.Proofs.Ytnjbcaakdfofcaa
open Go.Lo

@[simp] theorem inf50 : inf P0 50 = some (12, true) := by kernel_rfl
@[simp] theorem fld500 : fldT P0 50 0 = some (0, 4, true) := by kernel_rfl
@[simp] theorem fld501 : fldT P0 50 1 = some (4, 4, true) := by kernel_rfl
@[simp] theorem fld502 : fldT P0 50 2 = some (8, 1, false) := by kernel_rfl
@[simp] theorem fld503 : fldT P0 50 3 = some (9, 1, false) := by kernel_rfl
@[simp] theorem fld504 : fldT P0 50 4 = some (10, 1, false) := by kernel_rfl
@[simp] theorem fld505 : fldT P0 50 5 = some (11, 1, false) := by kernel_rfl
def pairC (a b : Td) (V1 V2 : PV) (n f : Int) : List PV := [num a.nx, encM false a.pl, encM false a.rc, encM false a.dn, num b.nx, encM false b.pl, encM false b.rc, encM false b.dn, V1, V2, num n, num f]
def sepV (V1 V2 : PV) : Prop := ∀ id k off len full k' off' len' full', V1 = .msl id k off len full → V2 ≠ .msl id k' off' len' full'
/-- The pair lies in memory. -/
structure PS (idp : Nat) (a b : Td) (s w : List Ms) (n f : Int) (V1 V2 : PV) (σ : Heap) : Prop where
  p : σ idp = some (.cells (pairC a b V1 V2 n f))
  s : Own 43 σ V1 (s.map rowM)
  w : Own 43 σ V2 (w.map rowM)
  sep : sepV V1 V2
theorem ne_flat {cs : List PV} {l : List Ms} (hl : okL l) (h : cs.length % 43 ≠ 0) : cs ≠ (l.map rowM).flatten := fun e => by
  have := congrArg List.length e
  rw [flat_len hl] at this
  rw [this] at h; omega
theorem own_keep {k : Nat} {σ σ' : Heap} {V : PV} {rows : List (List PV)} (h : Own k σ V rows) (hk : ∀ id k' off len full, V = .msl id k' off len full → σ' id = σ id) : Own k σ' V rows := by
  refine ⟨h.1, ?_⟩
  rcases h.2 with h1 | ⟨id, full, h1, h2⟩ | h1
  · exact .inl h1
  · exact .inr (.inl ⟨id, full, h1, by rw [hk id _ _ _ _ h1]; exact h2⟩)
  · exact .inr (.inr h1)
theorem app_moreB {l : List Ms} {m : Ms} {bb : Bool} (hl : okL l) (hm : okM m) {σ : Heap} {V : PV} (hV : Own 43 σ V (l.map rowM)) {C : PV → Heap → Prop} {t : TgV C} (hC : ∀ id σ', frs σ id → σ' id = some (.cells ((l ++ [m]).map rowM).flatten) → Keeps V σ σ' → C (.msl id 43 0 (l.length + 1) false) σ') :
    APP P0 σ 22 22 V (.slice bb [rowM m]) C t := by
  have h1 : ∀ r ∈ [rowM m], r.length = 43 ∧ ∀ c ∈ r, isCell1 c = true := fun r hr => by
    rw [List.mem_singleton.1 hr]
    exact ⟨rowM_len hm.1, by rw [← all1_iff, all1_rowM]; trivial⟩
  refine own_appendF (k := 43) (b := 168) (rows := l.map rowM) (new := [rowM m]) (zs := zM) hV elem22 (by decide) zM_len (by decide) isl22 (yv_row fun r hr => (h1 r hr).1) h1 (by have := hl.2; simp; omega) ?_
  intro V' σ' hV' hK hid
  obtain ⟨id, rfl, h2, h3⟩ := hid (by simp)
  have := hC id σ' h3 (by simpa using h2) hK
  simpa using this
/-- The lists after one of them has grown. -/
theorem grown {l s : List Ms} {m : Ms} {σ σ' : Heap} {V1 V2 : PV} {id : Nat} (hl : okL (l ++ [m])) (h1 : Own 43 σ V1 (s.map rowM)) (hs : sepV V1 V2) (hf : frs σ id) (hc : σ' id = some (.cells ((l ++ [m]).map rowM).flatten)) (hk : Keeps V2 σ σ') :
    Own 43 σ' V1 (s.map rowM) ∧ Own 43 σ' (.msl id 43 0 (l.length + 1) false) ((l ++ [m]).map rowM) ∧ sepV V1 (.msl id 43 0 (l.length + 1) false) := by
  have hid : ∀ j k off len full, V1 = .msl j k off len full → σ j ≠ none := fun j k off len full e => by
    rcases h1.2 with ⟨h, _⟩ | ⟨i, fl, h, h2⟩ | h <;> rw [h] at e <;> cases e
    rw [h2]; simp
  refine ⟨own_keep h1 fun j k off len full e => hk j (hid j k off len full e) (hs j k off len full · · · · e), own_msl hl (by simp) hc, fun j k off len full k' off' len' full' e e' => ?_⟩
  cases e'
  exact hid _ _ _ _ _ e hf
set_option maxRecDepth 8000 in
set_option maxHeartbeats 4000000 in
theorem arrive23_ok {idp : Nat} {a b x : Td} {s w : List Ms} {n f : Int} {V1 V2 : PV} {m c : Ms} {fresh : Bool} {σ : Heap} (H : PS idp a b s w n f V1 V2 σ) (ob : okT b) (om : okM m) (os : okL s) (ow : okL w) (hl : w.length < 90000) (hf0 : 0 ≤ f) (hf1 : f < 1000000)
    (hk : takeN b m m.to = (x, [c], fresh, 0)) : pcalls P0 23 [.ptr idp 0, .agg (rowM m)] σ fun o σ' => o = .val (bo true) ∧ ∃ V2', PS idp a x s (w ++ [c]) n (f + if fresh then 1 else 0) V1 V2' σ' := by
  refine pcalls_body Try.func23 rfl rfl rfl (by show 2 ≤ _; decide) (pwp_go TM_ok ?_)
  obtain ⟨o1, o2, o3⟩ := ob
  obtain ⟨⟨x1, x2, x3⟩, oc⟩ : okT x ∧ okL [c] := by
    have := okT_take (id := m.to) (t := b) ⟨o1, o2, o3⟩ om
    rw [hk] at this; exact this
  have occ : okM c := oc.1 c (by simp)
  have hr := rowM_len om.1
  have hty := take_rowM om
  obtain ⟨hp, h1, h2, hs⟩ := H
  obtain ⟨v1, v2⟩ := h1.sv
  obtain ⟨u1, u2⟩ := h2.sv
  obtain ⟨c11, c12, c13⟩ := h1.cell
  obtain ⟨c21, c22, c23⟩ := h2.cell
  simp [-NEW_def, hr]
  intro i3 h3
  have b3 := frs.ne (show frs σ i3 from h3) hp
  simp
  refine pwpT_go (pwp_drawX TM_ok 17 [13, 14] [.r 0, .r 1, .r 2, .r 3, .r 4, .r 5, .r 6, .r 7, .r 8, .r 9, .r 10, .r 11, .r 12, .e 13, .c 0, .c 1, .c 2, .c 3, .c 4, .c 5, .c 6, .c 7, .c 8, .c 9, .c 10, .c 11, .c 12, .e 14, .c 10, .c 11, .c 12, .r 15, .r 16] mixed (by kernel_rfl) ?_)
  simp [-NEW_def, pairC, hp, b3, hr, hty, om, o1, o2, o3, takeV, hk]
  intro i5 h5
  have h5 : frs (σ.set i3 (.cells (rowM m))) i5 := h5
  have h5o := h5
  simp at h5
  obtain ⟨b53, f5⟩ := h5
  have b5 := f5.ne hp
  simp [pairC, hp, b3, b5, b53, hr, hty, om, o1, o2, o3, takeV, hk, tdC, v1, v2, u1, u2, c11, c12, c13, c21, c22, c23, all1]
  have hne : ∀ {l : List Ms}, okL l → ∀ (cs : List PV), cs.length = 12 → cs ≠ (l.map rowM).flatten := fun hl cs h => ne_flat hl (by rw [h]; decide)
  have hne4 : ∀ {l : List Ms}, okL l → ∀ (cs : List PV), cs.length = 4 → cs ≠ (l.map rowM).flatten := fun hl cs h => ne_flat hl (by rw [h]; decide)
  generalize hτ : (((σ.set i3 (PObj.cells (rowM m))).set i5 (PObj.cells [num x.nx, encM false x.pl, encM false x.rc, encM false x.dn])).set idp _) = τ
  have pτ : τ idp = some (.cells (pairC a x V1 V2 n f)) := by rw [← hτ]; simp [pairC]
  have own : ∀ {V : PV} {l : List Ms}, okL l → Own 43 σ V (l.map rowM) → Own 43 τ V (l.map rowM) := fun hl h => by
    rw [← hτ]
    refine ((h.new h3).new h5o).set fun cs e => hne hl cs ?_
    rw [Heap.set_apply, if_neg (fun e => b5 e.symm), Heap.set_apply, if_neg (fun e => b3 e.symm), hp] at e
    cases e; rfl
  have hτ1 := own os h1
  have hτ2 := own ow h2
  have okw : okL (w ++ [c]) := ⟨fun y hy => by
    rcases List.mem_append.1 hy with hy | hy
    · exact ow.1 y hy
    · rw [List.mem_singleton.1 hy]; exact occ, by simp; omega⟩
  show APP P0 τ 22 22 V2 (.slice false [rowM c]) _ _
  refine app_moreB ow occ hτ2 ?_
  intro id σ' hf hc hk2
  obtain ⟨g1, g2, g3⟩ := grown okw hτ1 hs hf hc hk2
  have pσ := keepV hk2 pτ (Own.ne hτ2 pτ (hne ow _ rfl))
  have wf : IntKind.i64.wrap (f + 1) = f + 1 := wrap_i64 (by omega) (by omega)
  have fin : ∀ f', PS idp a x s (w ++ [c]) n f' V1 (.msl id 43 0 (w.length + 1) false) (σ'.set idp (.cells (pairC a x V1 (.msl id 43 0 (w.length + 1) false) n f'))) := fun f' => by
    refine ⟨by simp, g1.set fun cs e => hne os cs ?_, g2.set fun cs e => hne okw cs ?_, g3⟩
    · rw [pσ] at e; cases e; rfl
    · rw [pσ] at e; cases e; rfl
  cases fresh with
  | false =>
    simp [pσ, pairC, c11, c12, c13, v1, v2]
    exact ⟨_, fin f⟩
  | true =>
    simp [pσ, pairC, c11, c12, c13, v1, v2, wf]
    exact ⟨_, fin (f + 1)⟩
theorem answered24_ok {idp : Nat} {a b x : Td} {s w l : List Ms} {n f : Int} {V1 V2 : PV} {m : Ms} {fresh : Bool} {σ : Heap} (H : PS idp a b s w n f V1 V2 σ) (oa : okT a) (om : okM m) (os : okL s) (ow : okL w)
    (hk : takeN a m m.to = (x, l, fresh, 0)) : pcalls P0 24 [.ptr idp 0, .agg (rowM m)] σ fun o σ' => o = .val (bo true) ∧ PS idp x b s w n f V1 V2 σ' := by
  refine pcalls_body Try.func24 rfl rfl rfl (by show 2 ≤ _; decide) (pwp_go TM_ok ?_)
  obtain ⟨o1, o2, o3⟩ := oa
  obtain ⟨⟨x1, x2, x3⟩, oc⟩ : okT x ∧ okL l := by
    have := okT_take (id := m.to) (t := a) ⟨o1, o2, o3⟩ om
    rw [hk] at this; exact this
  have hr := rowM_len om.1
  have hty := take_rowM om
  obtain ⟨hp, h1, h2, hs⟩ := H
  obtain ⟨v1, v2⟩ := h1.sv
  obtain ⟨u1, u2⟩ := h2.sv
  obtain ⟨c11, c12, c13⟩ := h1.cell
  obtain ⟨c21, c22, c23⟩ := h2.cell
  simp [-NEW_def, hr]
  intro i3 h3
  have b3 := frs.ne (show frs σ i3 from h3) hp
  simp
  refine pwpT_go (pwp_drawX TM_ok 17 [13, 14] [.r 0, .r 1, .r 2, .r 3, .r 4, .r 5, .r 6, .r 7, .r 8, .r 9, .r 10, .r 11, .r 12, .e 13, .c 0, .c 1, .c 2, .c 3, .c 4, .c 5, .c 6, .c 7, .c 8, .c 9, .c 10, .c 11, .c 12, .e 14, .c 10, .c 11, .c 12, .r 15, .r 16] mixed (by kernel_rfl) ?_)
  simp [-NEW_def, pairC, hp, b3, hr, hty, om, o1, o2, o3, takeV, hk]
  intro i5 h5
  have h5 : frs (σ.set i3 (.cells (rowM m))) i5 := h5
  have h5o := h5
  simp at h5
  obtain ⟨b53, f5⟩ := h5
  have b5 := f5.ne hp
  simp [pairC, hp, b3, b5, b53, hr, hty, om, o1, o2, o3, takeV, hk, tdC, v1, v2, u1, u2, c11, c12, c13, c21, c22, c23, all1]
  have own : ∀ {V : PV} {l : List Ms}, okL l → Own 43 σ V (l.map rowM) → Own 43 (((σ.set i3 (PObj.cells (rowM m))).set i5 (PObj.cells [num x.nx, encM false x.pl, encM false x.rc, encM false x.dn])).set idp (.cells (pairC x b V1 V2 n f))) V (l.map rowM) := fun hl h => by
    refine ((h.new h3).new h5o).set fun cs e => ne_flat hl ?_
    rw [Heap.set_apply, if_neg (fun e => b5 e.symm), Heap.set_apply, if_neg (fun e => b3 e.symm), hp] at e
    cases e; simp [pairC]
  exact ⟨by simp [pairC], own os h1, own ow h2, hs⟩
end Go.Proofs.Ytnjbcaakdfofcaa
