/-
  The program logic 'Lo', part D: builders, slices, builtins; 'ev' as a whole. Nothing of the program.
-/
import Derived.Test.YtgcoikbgpkfcnaaLoC
set_option linter.unusedSimpArgs false
set_option linter.unusedVariables false
namespace Go.Lo
open Go

def cellsP : PV → List PV
  | .agg cs => cs
  | v => [v]
def isCell : PV → Bool
  | .any => false
  | .lit (.agg _) => false
  | .lit (.tuple _) => false
  | .tup _ => false
  | .gd _ _ => false
  | _ => true

def RelL (G : Gh) (W : World) (cs : List PV) (vs : Array Value) : Prop := vs.size = cs.length ∧ ∀ i, i < cs.length → VRel G W (cs.getD i .any) (vs.getD i undef)

section
variable {P : Program} {G : Gh} {W : World} {σ : Heap} {fr : Fr} {n : Nat} {A : Act}

theorem cells_rel {p : PV} {v : Value} (h : VRel G W p v) (hc : isCell p = true) : RelL G W (cellsP p) v.cells := by
  have one : ∀ v : Value, v.cells = #[v] → VRel G W p v → cellsP p = [p] → RelL G W (cellsP p) v.cells := fun v h1 h2 h3 => by
    rw [h1, h3]
    refine ⟨rfl, fun i hi => ?_⟩
    simp at hi; subst hi; exact h2
  cases h with
  | any v => simp [isCell] at hc
  | lit v =>
    refine one v ?_ (.lit v) rfl
    cases v <;> first | rfl | (simp [isCell] at hc)
  | agg cs vs h1 h2 => exact ⟨h1, h2⟩
  | tup cs vs h1 h2 => simp [isCell] at hc
  | gd g q v h1 h2 => simp [isCell] at hc
  | nilsl full base cap h => exact one _ rfl (.nilsl full base cap h) rfl
  | slice full rows b off len cap k cv h1 h2 h3 h4 h5 h6 h7 => exact one _ rfl (.slice full rows b off len cap k cv h1 h2 h3 h4 h5 h6 h7) rfl
  | ref cs b off cv h1 h2 => exact one _ rfl (.ref cs b off cv h1 h2) rfl
  | ptr id o R δ h => exact one _ rfl (.ptr id o R δ h) rfl
  | msl id k o len cap R δ n b off full e h1 h2 h3 h4 h5 h6 h7 => exact one _ rfl (.msl id k o len cap R δ n b off full e h1 h2 h3 h4 h5 h6 h7) rfl
  | fn f a b c d h1 h2 h3 h4 => exact one _ rfl (.fn f a b c d h1 h2 h3 h4) rfl
  | yld id R h => exact one _ rfl (.yld id R h) rfl
  | map id R h => exact one _ rfl (.map id R h) rfl
  | iface t q v h => exact one _ rfl (.iface t q v h) rfl

/-! ### Filling a row of cells -/
def setR (cells : List PV) (off : Nat) (new : List PV) : List PV := cells.take off ++ new ++ cells.drop (off + new.length)
theorem setR_length {cells new : List PV} {off : Nat} (h : off + new.length ≤ cells.length) : (setR cells off new).length = cells.length := by
  simp [setR]; omega
theorem setR_getD {cells new : List PV} {off : Nat} (h : off + new.length ≤ cells.length) (i : Nat) :
    (setR cells off new).getD i .any = if off ≤ i ∧ i < off + new.length then new.getD (i - off) .any else cells.getD i .any := by
  unfold setR
  simp only [List.getD]
  rcases Nat.lt_or_ge i off with h1 | h1
  · rw [List.append_assoc, List.getElem?_append_left (by simp; omega), List.getElem?_take, if_pos h1, if_neg (by omega)]
  · rcases Nat.lt_or_ge i (off + new.length) with h2 | h2
    · rw [List.getElem?_append_left (by simp; omega), List.getElem?_append_right (by simp; omega), if_pos ⟨h1, h2⟩]
      simp only [List.length_take]
      rw [show min off cells.length = off by omega]
    · rw [List.getElem?_append_right (by simp; omega), if_neg (by omega), List.getElem?_drop]
      simp only [List.length_append, List.length_take]
      rw [show off + new.length + (i - (min off cells.length + new.length)) = i by omega]

theorem foldSet (off : Nat) : ∀ (vs : List Value) (j : Nat) (cs : Array Value), ((vs.zipIdx j).foldl (fun cs (x : Value × Nat) => cs.setIfInBounds (off + x.2) x.1) cs).size = cs.size ∧
    ∀ i, off + j + vs.length ≤ cs.size → ((vs.zipIdx j).foldl (fun cs (x : Value × Nat) => cs.setIfInBounds (off + x.2) x.1) cs).getD i undef =
      if off + j ≤ i ∧ i < off + j + vs.length then vs.getD (i - (off + j)) undef else cs.getD i undef := by
  intro vs
  induction vs with
  | nil => intro j cs; refine ⟨rfl, fun i _ => ?_⟩; rw [if_neg (by simp)]; rfl
  | cons v vs ih =>
    intro j cs
    simp only [List.zipIdx_cons, List.foldl_cons, List.length_cons]
    obtain ⟨h1, h2⟩ := ih (j + 1) (cs.setIfInBounds (off + j) v)
    refine ⟨by rw [h1]; simp, fun i hi => ?_⟩
    rw [h2 i (by simp; omega)]
    by_cases ha : i = off + j
    · subst ha
      have hlt : off + j < cs.size := by omega
      rw [if_neg (by omega), if_pos (by omega)]
      simp [hlt]
    · by_cases hb : off + j ≤ i ∧ i < off + j + (vs.length + 1)
      · rw [if_pos (by omega), if_pos hb, show i - (off + j) = (i - (off + (j + 1))) + 1 by omega]
        simp
      · rw [if_neg (by omega), if_neg hb]
        rw [Array.getD_eq_getD_getElem?, Array.getD_eq_getD_getElem?, Array.getElem?_setIfInBounds_ne (by omega)]

theorem set_rel {cs new : List PV} {vs : Array Value} {ws : Array Value} {off : Nat} (h : RelL G W cs vs) (hn : RelL G W new ws) (hl : off + new.length ≤ cs.length) :
    RelL G W (setR cs off new) (ws.zipIdx.foldl (fun cs (c, j) => cs.setIfInBounds (off + j) c) vs) := by
  obtain ⟨h1, h2⟩ := h
  obtain ⟨h3, h4⟩ := hn
  have hws : ws.toList.length = new.length := by simpa using h3
  have e : ws.zipIdx.foldl (fun cs (c, j) => cs.setIfInBounds (off + j) c) vs = (ws.toList.zipIdx 0).foldl (fun cs (x : Value × Nat) => cs.setIfInBounds (off + x.2) x.1) vs := by
    rw [← Array.foldl_toList, Array.toList_zipIdx]
  obtain ⟨f1, f2⟩ := foldSet off ws.toList 0 vs
  rw [e]
  refine ⟨by rw [f1, setR_length hl, h1], fun i hi => ?_⟩
  rw [setR_length hl] at hi
  rw [f2 i (by omega), setR_getD hl]
  simp only [Nat.add_zero, hws]
  split
  · rename_i hx
    have := h4 (i - off) (by omega)
    have hlt : i - off < ws.size := by omega
    rw [List.getD, Array.getElem?_toList]
    simpa [Array.getD_eq_getD_getElem?] using this
  · exact h2 i hi

def fillP (place : Nat → Option (Nat × Nat)) (cells : List PV) : List (Nat × PV) → Option (List PV)
  | [] => some cells
  | (i, v) :: rest =>
    match place i with
    | none => none
    | some (off, size) => if isCell v && (cellsP v).length == size && decide (off + size ≤ cells.length) then fillP place (setR cells off (cellsP v)) rest else none

theorem fill_rel {place : Nat → Option (Nat × Nat)} : ∀ (ps : List (Nat × PV)) (qs : List (Nat × Value)) (cs r : List PV) (vs : Array Value), RelL G W cs vs →
    qs.length = ps.length → (∀ i, i < ps.length → (qs.getD i (0, undef)).1 = (ps.getD i (0, .any)).1 ∧ VRel G W (ps.getD i (0, .any)).2 (qs.getD i (0, undef)).2) → fillP place cs ps = some r →
    ∃ ws, Instr.fill place vs qs = some ws ∧ RelL G W r ws := by
  intro ps
  induction ps with
  | nil =>
    intro qs cs r vs h hl _ hf
    have : qs = [] := List.eq_nil_of_length_eq_zero (by simpa using hl)
    subst this
    simp [fillP] at hf; subst hf
    exact ⟨vs, rfl, h⟩
  | cons p ps ih =>
    intro qs cs r vs h hl hx hf
    obtain ⟨i, v⟩ := p
    match qs, hl with
    | q :: qs, hl =>
    obtain ⟨j, w⟩ := q
    have h0 := hx 0 (by simp)
    simp at h0
    obtain ⟨e, hv⟩ := h0
    subst e
    simp only [fillP] at hf
    cases hp : place j with
    | none => simp [hp] at hf
    | some os =>
      obtain ⟨off, size⟩ := os
      simp only [hp] at hf
      split at hf
      · rename_i hc
        simp only [Bool.and_eq_true, beq_iff_eq, decide_eq_true_eq] at hc
        obtain ⟨⟨c1, c2⟩, c3⟩ := hc
        have hcr := cells_rel hv c1
        have hs := set_rel (off := off) h hcr (by omega)
        obtain ⟨ws, g1, g2⟩ := ih qs _ r _ hs (by simpa using hl) (fun i hi => by have := hx (i + 1) (by simpa using hi); simpa using this) hf
        refine ⟨ws, ?_, g2⟩
        simp only [Instr.fill, hp]
        rw [if_neg]
        · exact g1
        · simp only [hcr.1, h.1, Bool.or_eq_true, decide_eq_true_eq]
          omega
      · cases hf

/-- A type's zero value, as cells. -/
def zeroP (P : Program) (t : TypeId) : Option (List PV) := ((P.info? t).bind (·.zero)).map fun v => v.cells.toList.map .lit
theorem lits_rel (vs : Array Value) : RelL G W (vs.toList.map .lit) vs := by
  refine ⟨by simp, fun i hi => ?_⟩
  have hlt : i < vs.size := by simpa using hi
  have e1 : (vs.toList.map PV.lit).getD i .any = .lit (vs.getD i undef) := by
    simp [List.getD, hlt]
  rw [e1]; exact .lit _
theorem zeroP_run {t : TypeId} {zs : List PV} (h : zeroP P t = some zs) : ∃ v, (zeroValue t).run P W = .ok v W ∧ RelL G W zs v.cells ∧ zs = v.cells.toList.map .lit := by
  unfold zeroP at h
  cases hi : P.info? t with
  | none => simp [hi] at h
  | some i =>
    cases hz : i.zero with
    | none => simp [hi, hz] at h
    | some v =>
      simp [hi, hz] at h
      refine ⟨v, ?_, by rw [← h]; exact lits_rel _, h.symm⟩
      simp [zeroValue, typeInfo, Sem.run_bind, hi, hz, program, Sem.run]

/-- Where a struct's fields lie. -/
def places (P : Program) (t : TypeId) : Option (List (Nat × Nat)) :=
  match P.underlying t with
  | some (.struct fs) => fs.toList.mapM fun f => (inf P f.type).map fun i => (f.offset, i.1)
  | _ => none

theorem places_run {fs : List Field} {l : List (Nat × Nat)} (h : (fs.mapM fun f => (inf P f.type).map fun i => (f.offset, i.1)) = some l) :
    ((fs.mapM fun f => do pure (f.offset, ← sizeOf f.type) : Sem (List (Nat × Nat)))).run P W = .ok l W := by
  induction fs generalizing l with
  | nil => simp at h; subst h; simp [go_sem]
  | cons f fs ih =>
    rw [List.mapM_cons] at h
    obtain ⟨x, hx, h⟩ := Option.bind_eq_some_iff.1 h
    obtain ⟨l', hl', h⟩ := Option.bind_eq_some_iff.1 h
    simp at h; subst h
    cases hi : inf P f.type with
    | none => simp [hi] at hx
    | some i =>
      simp [hi] at hx; subst hx
      have := ih hl'
      rw [List.mapM_cons]
      simp only [Sem.run_bind, inf_size (k := i.1) (a := i.2) hi, Result.andThen_ok, Sem.run_pure, this]

/-! ### Slices of slices -/
def bnd (x : Option PV) (d : Int) : Option Int :=
  match x with
  | none => some d
  | some (.lit (.int _ z)) => some z
  | _ => none

def evSl (P : Program) (σ : Heap) (t : TypeId) (x : PV) (lo hi mx : Option PV) : EV :=
  match x, ixi P t with
  | .slice full rows, some (none, sz, _) => match bnd lo 0, bnd hi rows.length, bnd mx rows.length with
    | some l, some h, some m => ⟨0 ≤ l ∧ l ≤ h ∧ h ≤ m ∧ m ≤ rows.length ∧ (mx.isSome = true → hi.isSome = true) ∧ ∀ r ∈ rows, r.length = sz,
        .slice (if mx.isSome then decide (m = h) else full && decide (h = rows.length)) ((rows.drop l.toNat).take (h - l).toNat)⟩
    | _, _, _ => .no
  | .lit (.slice none 0 0), some (none, _, _) => match bnd lo 0, bnd hi 0, bnd mx 0 with
    | some l, some h, some m => ⟨l = 0 ∧ h = 0 ∧ m = 0 ∧ (mx.isSome = true → hi.isSome = true), .lit (.slice none 0 0)⟩
    | _, _, _ => .no
  | .msl id k off len full, some (none, sz, _) => match bnd lo 0, bnd hi len, bnd mx len with
    | some l, some h, some m => ⟨0 ≤ l ∧ l ≤ h ∧ h ≤ m ∧ m ≤ len ∧ k = sz ∧ (mx.isSome = true → hi.isSome = true),
        .msl id k (off + l.toNat * k) (h - l).toNat (if mx.isSome then decide (m = h) else full && decide (h = len))⟩
    | _, _, _ => .no
  | .ptr id off, some (some n, sz, _) => match σ id with
    | some (.cells cs) => match bnd lo 0, bnd hi n, bnd mx n with
      | some l, some h, some m => ⟨0 ≤ l ∧ l ≤ h ∧ h ≤ m ∧ m ≤ n ∧ off + n * sz ≤ cs.length ∧ n ≤ maxLen ∧ (mx.isSome = true → hi.isSome = true), .msl id sz (off + l.toNat * sz) (h - l).toNat (decide (m = h))⟩
      | _, _, _ => .no
    | _ => .no
  | .ref cs, some (some n, sz, _) => match bnd lo 0, bnd hi n, bnd mx n with
    | some l, some h, some m => ⟨0 ≤ l ∧ l ≤ h ∧ h ≤ m ∧ m ≤ n ∧ n ≤ cs.length ∧ sz = 1 ∧ n ≤ maxLen ∧ (mx.isSome = true → hi.isSome = true), .slice (decide (m = h)) (((cs.drop l.toNat).take (h - l).toNat).map fun c => [c])⟩
    | _, _, _ => .no
  | _, _ => .no

/-- The bounds as the model has them. -/
def BRel (G : Gh) (W : World) : Option PV → Option Value → Prop
  | none, none => True
  | some p, some v => VRel G W p v
  | _, _ => False
theorem BRel.cases {x : Option PV} {y : Option Value} {d z : Int} (h : BRel G W x y) (hb : bnd x d = some z) : (x = none ∧ y = none ∧ z = d) ∨ ∃ k, y = some (.int k z) ∧ x.isSome = true := by
  match x, y, h with
  | none, none, _ => simp [bnd] at hb; exact .inl ⟨rfl, rfl, hb.symm⟩
  | some p, some v, h =>
    right
    unfold bnd at hb
    split at hb
    · simp_all
    · rename_i k z' hx
      simp at hx hb
      subst hx; subst hb
      cases h
      exact ⟨_, rfl, rfl⟩
    · cases hb

theorem sliceBound_run {k : IntKind} {z : Int} {y : Nat} {code : BoundsCode} (h0 : 0 ≤ z) (h1 : z ≤ y) : (Instr.sliceBound (.int k z) y code).run P W = .ok z.toNat W := run_sliceBound W k z y code h0 h1

theorem sliceBounds_run {b : Bool} {len cap : Nat} {lo hi mx : Option PV} {vlo vhi vmx : Option Value} {l h m : Int} (r1 : BRel G W lo vlo) (r2 : BRel G W hi vhi) (r3 : BRel G W mx vmx)
    (b1 : bnd lo 0 = some l) (b2 : bnd hi len = some h) (b3 : bnd mx cap = some m) (g0 : 0 ≤ l) (g1 : l ≤ h) (g2 : h ≤ m) (g3 : m ≤ cap) (g4 : mx.isSome = true → hi.isSome = true) :
    (Instr.sliceBounds b len cap vlo vhi vmx).run P W = .ok (l.toNat, h.toNat, m.toNat) W := by
  have em : (m.toNat : Int) = m := Int.toNat_of_nonneg (by omega)
  have eh : (h.toNat : Int) = h := Int.toNat_of_nonneg (by omega)
  unfold Instr.sliceBounds
  rcases r3.cases b3 with ⟨rfl, rfl, rfl⟩ | ⟨k3, rfl, i3⟩
  · rcases r2.cases b2 with ⟨rfl, rfl, rfl⟩ | ⟨k2, rfl, i2⟩
    · rcases r1.cases b1 with ⟨rfl, rfl, rfl⟩ | ⟨k1, rfl, i1⟩
      · simp
      · simp only [Sem.run_bind, Sem.run_pure, Result.andThen_ok]
        rw [sliceBound_run g0 g1]; simp
    · rcases r1.cases b1 with ⟨rfl, rfl, rfl⟩ | ⟨k1, rfl, i1⟩
      · simp only [Sem.run_bind, Sem.run_pure, Result.andThen_ok]
        rw [sliceBound_run (by omega) (by omega)]; simp
      · simp only [Sem.run_bind, Sem.run_pure, Result.andThen_ok]
        rw [sliceBound_run (by omega) (by omega)]
        simp only [Result.andThen_ok]
        rw [sliceBound_run g0 (by omega)]; simp
  · rcases r2.cases b2 with ⟨rfl, rfl, rfl⟩ | ⟨k2, rfl, i2⟩
    · simp [i3] at g4
    · rcases r1.cases b1 with ⟨rfl, rfl, rfl⟩ | ⟨k1, rfl, i1⟩
      · simp only [Sem.run_bind]
        rw [sliceBound_run (by omega) (by omega)]
        simp only [Result.andThen_ok]
        rw [sliceBound_run (by omega) (by omega)]; simp
      · simp only [Sem.run_bind]
        rw [sliceBound_run (by omega) (by omega)]
        simp only [Result.andThen_ok]
        rw [sliceBound_run (by omega) (by omega)]
        simp only [Result.andThen_ok]
        rw [sliceBound_run g0 (by omega)]; simp

theorem VRel.rows_cut {full : Bool} {rows : List (List PV)} {b off len cap k : Nat} {cv : Nat → Value} (h1 : rows.length = len) (h3 : len ≤ maxLen)
    (h5 : ∀ i, i < len → (rows.getD i []).length = k) (h6 : ∀ j, j < len * k → G.S b (off + j) ∧ W.cell? ⟨b, off + j, none⟩ = some (cv j))
    (h7 : ∀ i j, i < len → j < k → VRel G W ((rows.getD i []).getD j .any) (cv (i * k + j))) {l m : Nat} (hm : l + m ≤ len) (hc : m ≤ cap) (hf : full = true → cap = m) :
    VRel G W (.slice full ((rows.drop l).take m)) (.slice (some ⟨b, off + l * k, none⟩) m cap) := by
  have e : ∀ i, i < m → ((rows.drop l).take m).getD i [] = rows.getD (l + i) [] := fun i hi => by simp [List.getD, hi]
  refine .slice full _ b (off + l * k) m cap k (fun j => cv (l * k + j)) (by simp; omega) hc (by omega) hf (fun i hi => by rw [e i hi]; exact h5 _ (by omega)) (fun j hj => ?_) (fun i j hi hj => ?_)
  · rw [Nat.add_assoc]
    refine h6 _ ?_
    calc l * k + j < l * k + m * k := by omega
      _ = (l + m) * k := by rw [Nat.add_mul]
      _ ≤ len * k := Nat.mul_le_mul_right k hm
  · rw [e i hi]
    have := h7 (l + i) j (by omega) hj
    rwa [Nat.add_mul, Nat.add_assoc] at this

theorem VRel.rows_nil (full : Bool) (b off cap : Nat) (hf : full = true → cap = 0) : VRel G W (.slice full []) (.slice (some ⟨b, off, none⟩) 0 cap) :=
  .slice full [] b off 0 cap 0 (fun _ => undef) rfl (Nat.zero_le _) (Nat.zero_le _) hf (by simp) (by simp) (by simp)

theorem bnd_some {p : PV} {d d' : Int} : bnd (some p) d = bnd (some p) d' := by
  unfold bnd; split <;> simp_all

/-- The third bound as the model has it: the capacity where none is given. -/
theorem third {mx : Option PV} {vmx : Option Value} {len cap : Nat} {h m : Int} (r3 : BRel G W mx vmx) (b3 : bnd mx len = some m) (g2 : h ≤ m) (g3 : m ≤ len) (hc : len ≤ cap) :
    ∃ m' : Int, bnd mx cap = some m' ∧ h ≤ m' ∧ m' ≤ cap ∧ ((mx.isSome = true ∧ m' = m) ∨ (mx.isSome = false ∧ m' = cap)) := by
  rcases r3.cases b3 with ⟨rfl, rfl, rfl⟩ | ⟨k3, rfl, i3⟩
  · exact ⟨cap, rfl, by omega, by omega, .inr ⟨rfl, rfl⟩⟩
  · match mx, i3 with
    | some p, _ => exact ⟨m, bnd_some.trans b3, g2, by omega, .inl ⟨rfl, rfl⟩⟩

theorem evSl_run (hr : HRel G W σ) {t : TypeId} {x : PV} {lo hi mx : Option PV} {v : Value} {vlo vhi vmx : Option Value} (hv : VRel G W x v) (r1 : BRel G W lo vlo) (r2 : BRel G W hi vhi) (r3 : BRel G W mx vmx)
    (h : (evSl P σ t x lo hi mx).D) : ∃ u, (Instr.sliceAt t v vlo vhi vmx).run P W = .ok u W ∧ VRel G W (evSl P σ t x lo hi mx).V u := by
  unfold evSl at h ⊢
  split at h
  · rename_i full rows sz ag hx
    obtain ⟨e, ht, hi'⟩ := ixi_slice hx
    cases hv with
    | nilsl _ base cap hcap =>
      split at h
      · rename_i l hh m b1 b2 b3
        obtain ⟨g0, g1, g2, g3, g4, g5⟩ := h
        have q3 : m ≤ 0 := g3
        have e1 : l = 0 := by omega
        have e2 : hh = 0 := by omega
        have e3 : m = 0 := by omega
        subst e1; subst e2; subst e3
        obtain ⟨m', b3', hm1, hm2, hm3⟩ := third (len := 0) (cap := cap) r3 b3 (by omega) (by omega) (Nat.zero_le _)
        have hb := sliceBounds_run (P := P) (b := true) (len := 0) (cap := cap) r1 r2 r3 b1 b2 b3' (by omega) (by omega) hm1 hm2 g4
        refine ⟨_, by simp only [Instr.sliceAt, Instr.slice, Sem.run_bind, run_underlying ht, Result.andThen_ok, hb, inf_size hi', Sem.run_pure]; rfl, ?_⟩
        have hfl : (if mx.isSome = true then decide ((0 : Int) = 0) else full && decide ((0 : Int) = (([] : List (List PV)).length : Int))) = true → m'.toNat = 0 := by
          intro hf
          rcases hm3 with ⟨q1, q2⟩ | ⟨q1, q2⟩
          · omega
          · rw [if_neg (by simp [q1])] at hf
            simp at hf
            have := hcap hf
            omega
        exact .nilsl _ _ _ (by simpa using hfl)
      · exact h.elim
    | slice _ _ b off len cap k cv h1 h2 h3 h4 h5 h6 h7 =>
    split at h
    · rename_i l hh m b1 b2 b3
      obtain ⟨g0, g1, g2, g3, g4, g5⟩ := h
      subst h1
      obtain ⟨m', b3', hm1, hm2, hm3⟩ := third r3 b3 g2 g3 h2
      have hb := sliceBounds_run (P := P) (b := true) (len := rows.length) (cap := cap) r1 r2 r3 b1 b2 b3' g0 g1 hm1 hm2 g4
      refine ⟨_, by simp only [Instr.sliceAt, Instr.slice, Sem.run_bind, run_underlying ht, Result.andThen_ok, hb, inf_size hi', Sem.run_pure]; rfl, ?_⟩
      have hfl : (if mx.isSome = true then decide (m = hh) else full && decide (hh = (rows.length : Int))) = true → m'.toNat - l.toNat = hh.toNat - l.toNat := by
        intro hf
        rcases hm3 with ⟨q1, q2⟩ | ⟨q1, q2⟩
        · rw [if_pos q1] at hf; simp at hf; omega
        · rw [if_neg (by simp [q1])] at hf
          simp at hf
          have := h4 hf.1
          omega
      by_cases hml : m'.toNat = l.toNat
      · rw [if_pos hml, show hh.toNat - l.toNat = 0 by omega, show (hh - l).toNat = 0 by omega, List.take_zero]
        exact VRel.rows_nil _ _ _ _ fun hf => by have := hfl hf; omega
      · rw [if_neg hml]
        simp only [Option.map_some, add_cell]
        rw [show (hh - l).toNat = hh.toNat - l.toNat by omega]
        rcases Nat.eq_zero_or_pos (hh.toNat - l.toNat) with hz | hz
        · rw [hz, List.take_zero]
          exact VRel.rows_nil _ _ _ _ fun hf => by have := hfl hf; omega
        · have hk : sz = k := by
            have h0 : 0 < rows.length := by omega
            have e1 := h5 0 h0
            have e2 := g5 (rows[0]) (List.getElem_mem h0)
            simp [List.getD, h0] at e1
            omega
          subst hk
          exact VRel.rows_cut rfl h3 h5 h6 h7 (by omega) (by omega) hfl
    · exact h.elim
  · rename_i sz ag hx
    obtain ⟨e, ht, hi'⟩ := ixi_slice hx
    cases hv
    split at h
    · rename_i l hh m b1 b2 b3
      obtain ⟨rfl, rfl, rfl, g4⟩ := h
      have hb := sliceBounds_run (P := P) (b := true) (len := 0) (cap := 0) r1 r2 r3 b1 b2 b3 (by omega) (by omega) (by omega) (by omega) g4
      refine ⟨_, by simp only [Instr.sliceAt, Instr.slice, Sem.run_bind, run_underlying ht, Result.andThen_ok, hb, inf_size hi', Sem.run_pure]; rfl, ?_⟩
      exact .lit _
    · exact h.elim
  · rename_i id k off len full sz ag hx
    obtain ⟨e, ht, hi'⟩ := ixi_slice hx
    cases hv with
    | msl _ _ _ _ cap R δ n b off' _ e' h1 h2 h3 h4 h5 h6 h7 =>
    split at h
    · rename_i l hh m b1 b2 b3
      obtain ⟨g0, g1, g2, g3, rfl, g4⟩ := h
      obtain ⟨m', b3', hm1, hm2, hm3⟩ := third r3 b3 g2 g3 h2
      have hb := sliceBounds_run (P := P) (b := true) (len := len) (cap := cap) r1 r2 r3 b1 b2 b3' g0 g1 hm1 hm2 g4
      refine ⟨_, by simp only [Instr.sliceAt, Instr.slice, Sem.run_bind, run_underlying ht, Result.andThen_ok, hb, inf_size hi', Sem.run_pure]; rfl, ?_⟩
      have hfl : (if mx.isSome = true then decide (m = hh) else full && decide (hh = (len : Int))) = true → m'.toNat - l.toNat = hh.toNat - l.toNat := by
        intro hf
        rcases hm3 with ⟨q1, q2⟩ | ⟨q1, q2⟩
        · rw [if_pos q1] at hf; simp at hf; omega
        · rw [if_neg (by simp [q1])] at hf
          simp at hf
          have := h4 hf.1
          omega
      rw [show (hh - l).toNat = hh.toNat - l.toNat by omega]
      by_cases hml : m'.toNat = l.toNat
      · rw [if_pos hml]
        exact .msl id k _ _ _ R δ n b off' _ e' h1 (by omega) (by omega) hfl (by omega) h6 (by omega)
      · rw [if_neg hml]
        simp only [Option.map_some, add_cell]
        obtain ⟨rfl, rfl⟩ := h5 (by omega)
        refine .msl id k _ _ _ _ δ n _ _ _ e' h1 (by omega) (by omega) hfl (fun _ => ⟨rfl, by omega⟩) h6 (fun _ => ?_)
        have := h7 (by omega)
        have hx : δ + (off + l.toNat * k) + (m'.toNat - l.toNat) * k = δ + off + m'.toNat * k := by
          rw [Nat.sub_mul]
          have : l.toNat * k ≤ m'.toNat * k := Nat.mul_le_mul_right k (by omega)
          omega
        have hy : m'.toNat * k ≤ cap * k := Nat.mul_le_mul_right k (by omega)
        omega
    · exact h.elim
  · rename_i id off n sz ag hx
    obtain ⟨e, ht, hi'⟩ := ixi_array hx
    cases hv with
    | ptr _ _ R δ h1 =>
    split at h
    · rename_i cs ho
      split at h
      · rename_i l hh m b1 b2 b3
        obtain ⟨g0, g1, g2, g3, g4, g6, g5⟩ := h
        have hb := sliceBounds_run (P := P) (b := false) (len := n) (cap := n) r1 r2 r3 b1 b2 b3 g0 g1 g2 (by omega) g5
        refine ⟨_, by simp only [Instr.sliceAt, Instr.sureAddr, Sem.run_bind, run_underlying ht, Result.andThen_ok, hb, inf_size hi', Sem.run_pure]; rfl, ?_⟩
        obtain ⟨loc, hl, horel, _⟩ := hr.obj id _ ho
        rw [h1] at hl; cases hl
        obtain ⟨arr, e'', q1, q2, _⟩ := horel
        have hsh : W.shape? R = some (e'', arr.size) := by unfold World.shape?; simp only at q1; rw [q1]
        rw [show (hh - l).toNat = hh.toNat - l.toNat by omega]
        by_cases hml : m.toNat = l.toNat
        · rw [if_pos hml]
          exact .msl id sz _ _ _ R δ _ _ _ _ e'' h1 (by omega) (by omega) (fun hf => by simp at hf; omega) (by omega) hsh (by omega)
        · rw [if_neg hml]
          simp only [add_cell]
          refine .msl id sz _ _ _ R δ _ _ _ _ e'' h1 (by omega) (by omega) (fun hf => by simp at hf; omega) (fun _ => ⟨rfl, by omega⟩) hsh (fun _ => ?_)
          have hx : δ + (off + l.toNat * sz) + (m.toNat - l.toNat) * sz = δ + off + m.toNat * sz := by
            rw [Nat.sub_mul]
            have : l.toNat * sz ≤ m.toNat * sz := Nat.mul_le_mul_right sz (by omega)
            omega
          have hy : m.toNat * sz ≤ n * sz := Nat.mul_le_mul_right sz (by omega)
          simp only at q2
          omega
      · exact h.elim
    · exact h.elim
  · rename_i cs n sz ag hx
    obtain ⟨e, ht, hi'⟩ := ixi_array hx
    cases hv with
    | ref _ b off cv h1 h2 =>
    split at h
    · rename_i l hh m b1 b2 b3
      obtain ⟨g0, g1, g2, g3, g4, rfl, g6, g5⟩ := h
      have hb := sliceBounds_run (P := P) (b := false) (len := n) (cap := n) r1 r2 r3 b1 b2 b3 g0 g1 g2 (by omega) g5
      refine ⟨_, by simp only [Instr.sliceAt, Instr.sureAddr, Sem.run_bind, run_underlying ht, Result.andThen_ok, hb, inf_size hi', Sem.run_pure]; rfl, ?_⟩
      rw [show (hh - l).toNat = hh.toNat - l.toNat by omega]
      by_cases hz : hh.toNat - l.toNat = 0
      · rw [hz, List.take_zero]
        by_cases hml : m.toNat = l.toNat
        · rw [if_pos hml]; exact VRel.rows_nil _ _ _ _ fun hf => by simp at hf; omega
        · rw [if_neg hml]; simp only [add_cell]; exact VRel.rows_nil _ _ _ _ fun hf => by simp at hf; omega
      · rw [if_neg (by omega)]
        simp only [add_cell, Nat.mul_one]
        have e1 : ∀ i, i < hh.toNat - l.toNat → (((cs.drop l.toNat).take (hh.toNat - l.toNat)).map fun c => [c]).getD i [] = [cs.getD (l.toNat + i) .any] := fun i hi => by
          have : l.toNat + i < cs.length := by omega
          simp [List.getD, hi, this]
        refine .slice _ _ b (off + l.toNat) _ _ 1 (fun j => cv (l.toNat + j)) (by simp; omega) (by omega) (by omega) (fun hf => by simp at hf; omega) (fun i hi => by rw [e1 i hi]; rfl) (fun j hj => ?_) (fun i j hi hj => ?_)
        · rw [Nat.add_assoc]; exact h1 _ (by omega)
        · rw [e1 i hi]
          have : j = 0 := by omega
          subst this
          simpa using h2 (l.toNat + i) (by omega)
    · exact h.elim
  · exact h.elim
end
end Go.Lo
