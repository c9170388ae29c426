/-
  The program logic 'Lo', part V: rows of integers, counters. Nothing of the program.
-/
import Derived.Test.YtgcoikbgpkfcnaaLoU
set_option linter.unusedSimpArgs false
set_option linter.unusedVariables false
namespace Go.Lo
open Go

abbrev bo (b : Bool) : PV := .lit (.bool b)
abbrev num (x : Int) : PV := .lit (.int .i64 x)
/-- A row of integers. -/
def encI (b : Bool) (l : List Int) : PV := .slice b (l.map fun x => [num x])
theorem encI_def (b : Bool) (l : List Int) : encI b l = .slice b (l.map fun x => [num x]) := rfl
@[simp] theorem sv_encI (b : Bool) (l : List Int) : sv (encI b l) = encI b l := rfl
@[simp] theorem avt_encI (b : Bool) (l : List Int) : avt (encI b l) = True := rfl
@[simp] theorem cellsP_encI (b : Bool) (l : List Int) : cellsP (encI b l) = [encI b l] := rfl
@[simp] theorem isCell_encI (b : Bool) (l : List Int) : isCell (encI b l) = true := rfl
@[simp] theorem isCell1_encI (b : Bool) (l : List Int) : isCell1 (encI b l) = true := rfl
@[simp] theorem Lenx_encI (σ : Heap) (b : Bool) (l : List Int) : Lenx .slice σ (encI b l) = ⟨True, num l.length⟩ := by
  simp [encI]
/-- The element at a place. -/
theorem IAx_encI {b : Bool} {l : List Int} {k : Nat} (ag : Bool) (kk : IntKind) (h : k < l.length) : IAx (some (none, 1, ag)) (encI b l) (.lit (.int kk (k : Int))) = ⟨True, .ref [num l[k]]⟩ := by
  simp [encI, h]
theorem IAx_encI' {b : Bool} {l : List Int} {z : Int} (ag : Bool) (kk : IntKind) (h : 0 ≤ z ∧ z < l.length) : IAx (some (none, 1, ag)) (encI b l) (.lit (.int kk z)) = ⟨True, .ref [num (l.getD z.toNat 0)]⟩ := by
  have h1 : z.toNat < l.length := by omega
  simp [encI, h.1, h.2, h1]
@[simp] theorem LxI (σ : Heap) (x : Int) : Lx (some (1, false)) σ (.ref [num x]) = ⟨True, num x⟩ := by simp
theorem wrap_nat {x : Int} (h1 : -9223372036854775808 ≤ x) (h2 : x < 9223372036854775808) : IntKind.i64.wrap x = x := wrap_i64 h1 h2
/-- A counter counts. -/
theorem wrap_succ {k : Nat} (h : k < 9223372036854775807) : IntKind.i64.wrap ((k : Int) + 1) = ((k + 1 : Nat) : Int) := by
  rw [wrap_i64 (by omega) (by omega)]; omega

/-- What reads as a row of integers reads as it, wherever it lies. -/
theorem PLe.encI (b : Bool) (l : List Int) : PLe (.slice b (l.map fun x => [num x])) (Lo.encI b l) := .refl _
theorem PLe.encI_nil (b : Bool) : PLe (.lit (.slice none 0 0)) (Lo.encI b []) := PLe.nil b
theorem PLe.encI_full (b : Bool) (l : List Int) : PLe (Lo.encI b l) (Lo.encI false l) := PLe.unfull _ _

theorem Frz.set {σf σ : Heap} {id : Nat} {cs : List PV} (h : Frz σf σ) (hid : σ id = some (.cells cs)) : Frz (σf.set id (.cells cs)) σ :=
  ⟨fun j x hx => by
    rw [Heap.set_at] at hx; split at hx
    · rename_i e; have e : j = id := e; subst e; cases hx; exact hid
    · exact h.sub j x hx, fun j x hx => by
    rw [Heap.set_at] at hx; split at hx
    · cases hx; exact ⟨cs, rfl⟩
    · exact h.cells j x hx⟩

/-! Running through a row. -/
def allTo {α : Type} (p : α → Bool) (l : List α) (k : Nat) : Bool := (l.take k).all p
theorem allTo_zero {α : Type} (p : α → Bool) (l : List α) : allTo p l 0 = true := by simp [allTo]
theorem allTo_succ {α : Type} {p : α → Bool} {l : List α} {k : Nat} (h : k < l.length) : allTo p l (k + 1) = (allTo p l k && p l[k]) := by
  unfold allTo
  rw [List.take_succ_eq_append_getElem h, List.all_append]; simp
theorem allTo_all {α : Type} {p : α → Bool} {l : List α} {k : Nat} (h : ¬ k < l.length) : allTo p l k = l.all p := by
  unfold allTo
  rw [List.take_of_length_le (by omega)]
theorem all_not {α : Type} {p : α → Bool} {l : List α} {k : Nat} (h : k < l.length) (hp : p l[k] = false) : l.all p = false := by
  rw [List.all_eq_false]
  exact ⟨_, List.getElem_mem h, by simp [hp]⟩
def anyTo {α : Type} (p : α → Bool) (l : List α) (k : Nat) : Bool := (l.take k).any p
theorem anyTo_zero {α : Type} (p : α → Bool) (l : List α) : anyTo p l 0 = false := by simp [anyTo]
theorem anyTo_succ {α : Type} {p : α → Bool} {l : List α} {k : Nat} (h : k < l.length) : anyTo p l (k + 1) = (anyTo p l k || p l[k]) := by
  unfold anyTo
  rw [List.take_succ_eq_append_getElem h, List.any_append]; simp
theorem anyTo_all {α : Type} {p : α → Bool} {l : List α} {k : Nat} (h : ¬ k < l.length) : anyTo p l k = l.any p := by
  unfold anyTo
  rw [List.take_of_length_le (by omega)]
theorem any_yes {α : Type} {p : α → Bool} {l : List α} {k : Nat} (h : k < l.length) (hp : p l[k] = true) : l.any p = true :=
  List.any_eq_true.2 ⟨_, List.getElem_mem h, hp⟩

/-! Rounds of a range over a function. -/
section
variable {P : Program} {n : Nat} {Q : PX → Fr → Heap → Prop} {fr fr' : Fr} {σ : Heap} {J : Heap → Prop}
@[simp ↓] theorem setPs_nil (fr : Fr) (vs : List PV) : setPs fr [] vs = fr := by cases vs <;> rfl
@[simp ↓] theorem setPs_cons (fr : Fr) (t : Tmp) (ts : List Tmp) (v : PV) (vs : List PV) : setPs fr (t :: ts) (v :: vs) = setPs (fr.set t v) ts vs := (rfl)
/-- What a round's end means to the loop's function. -/
def rndT (Q : PX → Fr → Heap → Prop) (fr : Fr) (J : Heap → Prop) : PX → Fr → Heap → Prop
  | .normal, _, σ => J σ
  | .ret, _, σ => Q .ret fr σ
  | .exit id, _, σ => Q (.exit id) fr σ
  | .goto l, _, σ => Q (.goto l) fr σ
  | .pan _, _, _ => False
@[simp ↓] theorem rndT_normal : rndT Q fr J .normal fr' σ = J σ := (rfl)
@[simp ↓] theorem rndT_ret : rndT Q fr J .ret fr' σ = Q .ret fr σ := (rfl)
@[simp ↓] theorem rndT_exit (id : Nat) : rndT Q fr J (.exit id) fr' σ = Q (.exit id) fr σ := (rfl)
@[simp ↓] theorem rndT_goto (l : Nat) : rndT Q fr J (.goto l) fr' σ = Q (.goto l) fr σ := (rfl)
@[simp ↓] theorem rndT_pan (v : PV) : rndT Q fr J (.pan v) fr' σ = False := (rfl)
/-- **A range over an iterator**, as simp runs it. -/
theorem pwp_rangeT {T : Tab} (hT : T.ok P) {g : Operand} {ps : Array Tmp} {as bd : Code} {f : FuncId} {first cap : List PV} {vs : List (List PV)} {t : TgL (.rangeFunc g ps as bd) Q} (J : Nat → Heap → Prop) (hit : IterC P f first cap vs) (hg : opv fr g = .fn (.func f) first cap) (he : Enters P f)
    (hps : ∀ v ∈ vs, ps.size = v.length) (hlt : ∀ t ∈ ps.toList, t < n) (h0 : J 0 σ)
    (round : ∀ k σ (h : k < vs.length), J k σ → wT P T true n as (PX.thn (fun fr1 σ1 => wT P T true n bd (rndT Q fr (J (k + 1))) fr1 σ1 {}) (fun _ _ _ => False)) (setPs fr ps.toList vs[k]) σ {})
    (hend : ∀ σ, J vs.length σ → Q .normal fr σ) : pwpT P false n (.rangeFunc g ps as bd) Q t fr σ := by
  refine pwp_range hit (by rw [hg]; rfl) (by rw [hg]; trivial) he hps hlt J h0 (fun k σ h hJ => ?_) hend
  refine pwp_mono (pwp_go hT (round k σ h hJ)) fun pe fr1 σ1 k1 => ?_
  cases pe with
  | normal =>
    refine pwp_mono (pwp_go hT (show wT P T true n bd (rndT Q fr (J (k + 1))) fr1 σ1 {} from k1)) fun pe fr2 σ2 k2 => ?_
    cases pe with
    | normal => exact k2
    | ret => exact pwp_ret k2
    | exit id => exact pwp_exit k2
    | goto l => exact pwp_goto k2
    | pan v => exact k2
  | _ => exact k1
end

/-! Bits of small numbers. -/
theorem bit_i64 {m d : Nat} (hm : m < 9223372036854775808) (hd : d < 63) : andI .i64 (shrI .i64 (m : Int) (d : Int)) 1 = if m.testBit d then 1 else 0 := by
  have e1 : shrI .i64 (m : Int) (d : Int) = ((m / 2 ^ d : Nat) : Int) := by
    unfold shrI
    rw [show IntKind.i64.bits = 64 from rfl, Int.toNat_natCast, Nat.min_eq_left (by omega)]
    rw [Int.fdiv_eq_ediv_of_nonneg _ (by exact_mod_cast Nat.zero_le _)]
    norm_cast
  rw [e1]
  unfold andI
  rw [show IntKind.i64.bits = 64 from rfl]
  have e2 : (BitVec.ofInt 64 ((m / 2 ^ d : Nat) : Int) &&& BitVec.ofInt 64 1).toNat = (m / 2 ^ d) % 2 := by
    rw [BitVec.toNat_and]
    rw [show (BitVec.ofInt 64 1).toNat = 1 from rfl, Nat.and_one_is_mod, BitVec.ofInt_natCast, BitVec.toNat_ofNat]
    omega
  rw [e2, wrap_i64 (by omega) (by omega), Nat.testBit_eq_decide_div_mod_eq]
  have : m / 2 ^ d % 2 < 2 := Nat.mod_lt _ (by omega)
  rcases Nat.lt_or_ge (m / 2 ^ d % 2) 1 with h | h
  · have : m / 2 ^ d % 2 = 0 := by omega
    simp [this]
  · have : m / 2 ^ d % 2 = 1 := by omega
    simp [this]

/-! Rows by a function. -/
def rowP (n : Nat) (g : Nat → PV) : List PV := (List.range n).map g
@[simp] theorem rowP_length (n : Nat) (g : Nat → PV) : (rowP n g).length = n := by simp [rowP]
theorem rowP_get? {n : Nat} (g : Nat → PV) {i : Nat} (h : i < n) : (rowP n g)[i]? = some (g i) := by simp [rowP, h]
theorem rowP_getD {n : Nat} (g : Nat → PV) {i : Nat} (d : PV) (h : i < n) : (rowP n g).getD i d = g i := by rw [List.getD_eq_getElem?_getD, rowP_get? g h]; rfl
@[simp] theorem rowP_getElem (n : Nat) (g : Nat → PV) (i : Nat) (h : i < (rowP n g).length) : (rowP n g)[i] = g i := by simp [rowP]
theorem rowP_set {n : Nat} (g : Nat → PV) {i : Nat} (v : PV) (h : i < n) : setR (rowP n g) i [v] = rowP n fun j => if j = i then v else g j := by
  refine List.ext_getElem? fun j => ?_
  have hl : (setR (rowP n g) i [v]).length = n := by rw [setR_length (by simp; omega)]; simp
  rcases Nat.lt_or_ge j n with hj | hj
  · have h1 := setR_getD (cells := rowP n g) (new := [v]) (off := i) (by simp; omega) j
    rw [rowP_get? _ hj, List.getElem?_eq_getElem (by omega)]
    simp only [List.getD, List.getElem?_eq_getElem (show j < (setR (rowP n g) i [v]).length by omega), Option.getD_some, rowP_get? _ hj] at h1
    rw [h1]
    by_cases e : j = i
    · subst e; simp
    · rw [if_neg (by simp; omega)]; simp [e]
  · rw [List.getElem?_eq_none (by omega), List.getElem?_eq_none (by simpa using hj)]
theorem rowP_congr {n : Nat} {f g : Nat → PV} (h : ∀ i, i < n → f i = g i) : rowP n f = rowP n g := List.map_congr_left fun i hi => h i (List.mem_range.1 hi)
theorem rowP_repl (n : Nat) (v : PV) : replP n [v] = rowP n fun _ => v := by
  unfold replP rowP
  induction n with
  | zero => rfl
  | succ n ih => rw [List.range_succ, List.map_append, ← ih, List.replicate_succ', List.flatten_append]; simp
theorem rowP_map (n : Nat) (g : Nat → PV) (f : PV → PV) : (rowP n g).map f = rowP n fun i => f (g i) := by simp [rowP]
theorem chunks_row (n : Nat) (g : Nat → PV) : chunks 1 n (rowP n g) = (List.range n).map fun i => [g i] := by
  unfold chunks
  refine List.map_congr_left fun i hi => ?_
  have hi := List.mem_range.1 hi
  rw [Nat.mul_one, List.drop_eq_getElem_cons (by simpa using hi)]
  simp [rowP]

/-! What reads as something, in parts. -/
theorem PLe.agg {ps qs : List PV} (h : PLeL ps qs) : PLe (.agg ps) (.agg qs) := fun G W v hv => by
  cases hv with
  | agg _ vs h1 h2 =>
    obtain ⟨l1, l2⟩ := h.get
    exact .agg qs vs (by omega) fun i hi => l2 i hi G W _ (h2 i (by omega))
theorem PLe.tup {ps qs : List PV} (h : PLeL ps qs) : PLe (.tup ps) (.tup qs) := fun G W v hv => by
  cases hv with
  | tup _ vs h1 h2 =>
    obtain ⟨l1, l2⟩ := h.get
    exact .tup qs vs (by omega) fun i hi => l2 i hi G W _ (h2 i (by omega))
theorem PLe.ref {ps qs : List PV} (h : PLeL ps qs) : PLe (.ref ps) (.ref qs) := fun G W v hv => by
  cases hv with
  | ref _ b off cv h1 h2 =>
    obtain ⟨l1, l2⟩ := h.get
    exact .ref qs b off cv (fun j hj => h1 j (by omega)) fun j hj => l2 j hj G W _ (h2 j (by omega))
theorem PLe.trans {p q r : PV} (h : PLe p q) (k : PLe q r) : PLe p r := fun G W v hv => k G W v (h G W v hv)
theorem pcalls.wk {P : Program} {σ : Heap} {f : FuncId} {args : List PV} {r : PV} (h : pcalls P f args σ fun o _ => ∃ r', o = .val r' ∧ PLe r' r) : pcalls P f args σ fun o _ => o = .val r :=
  fun G W xs m h1 h2 => (h G W xs m h1 h2).mono fun e W' ⟨o, σ', G', ⟨r', hr, ho⟩, k2, k3, k4⟩ => by
    subst hr
    refine ⟨.val r, σ', G', rfl, ?_, k3, k4⟩
    cases e <;> simp only [OutRel] at k2 ⊢
    exact ho _ _ _ k2

/-! Freezing rows of integers. -/
@[simp ↓] theorem Heap.minus_at (σ σf : Heap) (id : Nat) : (σ.minus σf) id = if (σf id).isSome then none else σ id := (rfl)
@[simp] theorem frzN_num (n : Nat) (σ : Heap) (v : Value) : frzN n σ (.lit v) = .lit v := by cases n <;> rfl
@[simp] theorem frzN_encI (n : Nat) (σ : Heap) (b : Bool) (l : List Int) : frzN n σ (encI b l) = encI b l := by
  cases n with
  | zero => rfl
  | succ n => simp only [encI, frzN, List.map_map, Function.comp_def, List.map_cons, List.map_nil, frzN_num]

@[simp] theorem frzN_zero (σ : Heap) (v : PV) : frzN 0 σ v = v := (rfl)
def FZP (o : Option (List PV)) (n : Nat) (σ : Heap) (id off : Nat) : PV := match o with | some cs => .ref ((cs.drop off).map (frzN n σ)) | none => .ptr id off
@[simp] theorem FZP_some (cs : List PV) (n : Nat) (σ : Heap) (id off : Nat) : FZP (some cs) n σ id off = .ref ((cs.drop off).map (frzN n σ)) := (rfl)
@[simp] theorem FZP_none (n : Nat) (σ : Heap) (id off : Nat) : FZP none n σ id off = .ptr id off := (rfl)
@[simp] theorem cellsO_none : cellsO none = none := (rfl)
@[simp] theorem frzN_ptr (n : Nat) (σ : Heap) (id off : Nat) : frzN (n + 1) σ (.ptr id off) = FZP (cellsO (σ id)) n σ id off := by
  simp only [frzN, FZP, cellsO]
  cases σ id with
  | none => rfl
  | some o => cases o <;> rfl
def FZM (o : Option (List PV)) (n : Nat) (σ : Heap) (id k off len : Nat) (full : Bool) : PV := match o with | some cs => if off + len * k ≤ cs.length then .slice full (chunks k len ((cs.drop off).map (frzN n σ))) else .msl id k off len full | none => .msl id k off len full
@[simp] theorem FZM_some (cs : List PV) (n : Nat) (σ : Heap) (id k off len : Nat) (full : Bool) : FZM (some cs) n σ id k off len full = if off + len * k ≤ cs.length then .slice full (chunks k len ((cs.drop off).map (frzN n σ))) else .msl id k off len full := (rfl)
@[simp] theorem FZM_none (n : Nat) (σ : Heap) (id k off len : Nat) (full : Bool) : FZM none n σ id k off len full = .msl id k off len full := (rfl)
@[simp] theorem frzN_msl (n : Nat) (σ : Heap) (id k off len : Nat) (full : Bool) : frzN (n + 1) σ (.msl id k off len full) = FZM (cellsO (σ id)) n σ id k off len full := by
  simp only [frzN, FZM, cellsO]
  cases σ id with
  | none => rfl
  | some o => cases o <;> rfl
@[simp] theorem frzN_fn (n : Nat) (σ : Heap) (f : Fn) (a b : List PV) : frzN (n + 1) σ (.fn f a b) = .fn f (a.map (frzN n σ)) (b.map (frzN n σ)) := (rfl)
@[simp] theorem frzN_tup (n : Nat) (σ : Heap) (a : List PV) : frzN (n + 1) σ (.tup a) = .tup (a.map (frzN n σ)) := (rfl)
@[simp] theorem frzN_agg (n : Nat) (σ : Heap) (a : List PV) : frzN (n + 1) σ (.agg a) = .agg (a.map (frzN n σ)) := (rfl)
@[simp] theorem frzN_ref (n : Nat) (σ : Heap) (a : List PV) : frzN (n + 1) σ (.ref a) = .ref (a.map (frzN n σ)) := (rfl)
@[simp] theorem frzN_gd (n : Nat) (σ : Heap) (g : Bool) (v : PV) : frzN (n + 1) σ (.gd g v) = .gd g (frzN n σ v) := (rfl)

theorem encI_one (b : Bool) (l : List Int) : ∀ r ∈ l.map (fun x => [num x]), r.length = 1 := fun r hr => by
  obtain ⟨x, _, rfl⟩ := List.mem_map.1 hr; rfl
/-- A part of a row. -/
theorem Slx_encI {σ : Heap} (ag b : Bool) (l : List Int) (k k' : IntKind) (x y : Nat) (h1 : x ≤ y) (h2 : y ≤ l.length) : Slx (some (none, 1, ag)) σ (encI b l) (some (.lit (.int k (x : Int)))) (some (.lit (.int k' (y : Int)))) none = ⟨True, encI (b && decide (y = l.length)) ((l.drop x).take (y - x))⟩ := by
  have e1 : ((y : Int) - (x : Int)).toNat = y - x := by omega
  unfold encI
  rw [Slx_rows]
  simp [h1, h2]
  congr 1
  rw [decide_eq_decide]; omega

/-- The first part of a row. -/
theorem Slx_encI0 {σ : Heap} (ag b : Bool) (l : List Int) (k' : IntKind) (y : Nat) (h2 : y ≤ l.length) : Slx (some (none, 1, ag)) σ (encI b l) none (some (.lit (.int k' (y : Int)))) none = ⟨True, encI (b && decide (y = l.length)) (l.take y)⟩ := by
  unfold encI
  rw [Slx_rows]
  simp [h2]
  congr 1
  rw [decide_eq_decide]; omega
end Go.Lo
