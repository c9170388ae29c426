/-
  The program logic 'Lo', part E: builtins, builders, 'ev' as a whole. Nothing of the program.
-/
import Derived.Test.YtgcoikbgpkfcnaaLoD
set_option linter.unusedSimpArgs false
set_option linter.unusedVariables false
namespace Go.Lo
open Go

section
variable {P : Program} {G : Gh} {W : World} {σ : Heap} {fr : Fr} {n : Nat} {A : Act}

/-! ### A new block whose cells stay as they are -/
def Gh.plus (G : Gh) (b m : Nat) : Gh := { G with S := fun b' o => G.S b' o ∨ (b' = b ∧ o < m) }
theorem heap_alloc_new (W : World) (o : Obj) : (W.alloc o).heap[W.heap.size]? = some o := World.alloc_heap_new W o
theorem heap_alloc_old (W : World) (o : Obj) {b : Nat} (h : b < W.heap.size) : (W.alloc o).heap[b]? = W.heap[b]? := Go.RowKit.Below.heap_alloc W o b h
theorem cell_alloc_new (W : World) (arr : Array Value) (e : TypeId) (fz : Nat × Nat) {o : Nat} (h : o < arr.size) : (W.alloc (.cells arr e fz)).cell? ⟨W.heap.size, o, none⟩ = some (arr.getD o undef) := by
  unfold World.cell?
  rw [heap_alloc_new]
  simp [h]
theorem size_alloc (W : World) (o : Obj) : (W.alloc o).heap.size = W.heap.size + 1 := by simp

theorem QEv.alloc (hr : HRel G W σ) (arr : Array Value) (e : TypeId) : QEv G W (G.plus W.heap.size arr.size) (W.alloc (.cells arr e)) where
  os := rfl
  tape := rfl
  output := rfl
  size := by rw [size_alloc]; omega
  keep b hb := heap_alloc_old W _ hb
  S b o h := .inl h
  snew b o h := h.elim .inl (fun x => .inr (by omega))
  stab b o h := by
    rcases h with h | ⟨rfl, h⟩
    · obtain ⟨v, hv⟩ := hr.stab b o h
      exact ⟨v, (World.cell_block (heap_alloc_old W _ (lt_of_cell hv))).trans hv⟩
    · exact ⟨_, cell_alloc_new W arr e _ h⟩
  β _ _ h := h
  bnd := hr.bnd

/-- A draw. -/
theorem QEv.drew (hr : HRel G W σ) : QEv G W G W.drew := ⟨rfl, rfl, rfl, Nat.le_refl _, fun _ _ => rfl, fun _ _ h => h, fun _ _ h => .inl h, hr.stab, fun _ _ h => h, hr.bnd⟩

/-! ### len, min, max -/
def evLen (P : Program) (σ : Heap) (t : TypeId) (x : PV) : EV :=
  match P.underlying t, x with
  | some (.slice _), .lit (.slice none 0 0) => ⟨True, .lit (.int .i64 0)⟩
  | some (.slice _), .slice _ rows => ⟨True, .lit (.int .i64 rows.length)⟩
  | some (.slice _), .msl _ _ _ len _ => ⟨True, .lit (.int .i64 len)⟩
  | some .string, .lit (.string s) => ⟨True, .lit (.int .i64 s.size)⟩
  | some (.array m _), _ => ⟨True, .lit (.int .i64 m)⟩
  | some (.map _ _), .map id => match σ id with
    | some (.map es) => ⟨True, .lit (.int .i64 es.length)⟩
    | _ => .no
  | some (.map _ _), .lit (.map none) => ⟨True, .lit (.int .i64 0)⟩
  | _, _ => .no

theorem evLen_run (hr : HRel G W σ) {t ty : TypeId} {ts : Array TypeId} {x : PV} {v : Value} (hts : ts[0]? = some t) (hv : VRel G W x v) (h : (evLen P σ t x).D) :
    ∃ u, (Builtin.len_ ts ty #[v]).run P W = .ok u W ∧ VRel G W (evLen P σ t x).V u := by
  unfold evLen at h ⊢
  split at h
  · rename_i e ht; cases hv; exact ⟨_, by simp [Builtin.len_, hts, run_underlying ht, goInt], .lit _⟩
  · rename_i e full rows ht
    cases hv with
    | nilsl => exact ⟨_, by simp [Builtin.len_, hts, run_underlying ht, goInt], .lit _⟩
    | slice _ _ b off len cap k cv h1 h2 h3 h4 h5 h6 h7 =>
    exact ⟨.int .i64 rows.length, by subst h1; simp [Builtin.len_, hts, run_underlying ht, goInt], .lit _⟩
  · rename_i e a1 a2 a3 len a5 ht
    cases hv with
    | msl _ _ _ _ cap R δ n b off' _ e' h1 h2 h3 h4 h5 h6 h7 =>
    exact ⟨_, by simp [Builtin.len_, hts, run_underlying ht, goInt], .lit _⟩
  · rename_i s ht; cases hv; exact ⟨_, by simp [Builtin.len_, hts, run_underlying ht, goInt], .lit _⟩
  · rename_i m e ht
    refine ⟨_, ?_, .lit _⟩
    simp [Builtin.len_, hts, Sem.run_bind, run_underlying ht, goInt]
  · rename_i a b id ht
    split at h
    · rename_i es ho
      obtain ⟨loc, hl, horel, _⟩ := hr.obj id _ ho
      obtain ⟨_, ms, clock, g1, g2, _⟩ := horel
      cases hv with
      | map _ R hb =>
      rw [hb] at hl; cases hl
      refine ⟨_, ?_, .lit _⟩
      simp only at g1
      simp [Builtin.len_, hts, run_underlying ht, goInt, getObj, Sem.run, g1, g2]
    · exact h.elim
  · rename_i a b ht; cases hv; exact ⟨_, by simp [Builtin.len_, hts, run_underlying ht, goInt], .lit _⟩
  · exact h.elim

def evMM (mx : Bool) (a b : PV) : EV :=
  match a, b with
  | .lit (.int k x), .lit (.int _ y) => ⟨True, .lit (.int k (if mx then max x y else min x y))⟩
  | _, _ => .no
theorem evMax_run {ty : TypeId} {ts : Array TypeId} {a b : PV} {v w : Value} (hv : VRel G W a v) (hw : VRel G W b w) (h : (evMM true a b).D) :
    ∃ u, (Builtin.max_ ts ty #[v, w]).run P W = .ok u W ∧ VRel G W (evMM true a b).V u := by
  unfold evMM at h ⊢
  split at h
  · rename_i k x k' y
    cases hv; cases hw
    refine ⟨_, run_max_int2 W ts ty k k' x y, ?_⟩
    have : (if y > x then y else x) = max x y := by omega
    rw [this]; exact .lit _
  · exact h.elim
theorem evMin_run {ty : TypeId} {ts : Array TypeId} {a b : PV} {v w : Value} (hv : VRel G W a v) (hw : VRel G W b w) (h : (evMM false a b).D) :
    ∃ u, (Builtin.min_ ts ty #[v, w]).run P W = .ok u W ∧ VRel G W (evMM false a b).V u := by
  unfold evMM at h ⊢
  split at h
  · rename_i k x k' y
    cases hv; cases hw
    refine ⟨_, run_min_int2 W ts ty k k' x y, ?_⟩
    have : (if y < x then y else x) = min x y := by omega
    rw [this]; exact .lit _
  · exact h.elim

/-! ### Builders -/
def partsP (fr : Fr) (ps : Array (Nat × Operand)) : List (Nat × PV) := ps.toList.map fun p => (p.1, sv (opv fr p.2))

theorem parts_rel (hT : TRel G W n fr A.tmps) {ps : Array (Nat × Operand)} (ha : ∀ p ∈ ps.toList, avt (opv fr p.2)) :
    ((ps.map fun (i, x) => (i, A.eval x)).toList).length = (partsP fr ps).length ∧
    ∀ i, i < (partsP fr ps).length → (((ps.map fun (i, x) => (i, A.eval x)).toList).getD i (0, undef)).1 = ((partsP fr ps).getD i (0, .any)).1 ∧
      VRel G W ((partsP fr ps).getD i (0, .any)).2 (((ps.map fun (i, x) => (i, A.eval x)).toList).getD i (0, undef)).2 := by
  refine ⟨by simp [partsP], fun i hi => ?_⟩
  have hlt : i < ps.size := by simpa [partsP] using hi
  have hm := ha ps[i] (by simp)
  have := sv_rel (opv_rel hT (ps[i]).2) hm
  simp [partsP, List.getD, hlt, this]

def evBuild (P : Program) (t : TypeId) (ps : List (Nat × PV)) : EV :=
  match zeroP P t, places P t, ixi P t with
  | some zs, some pl, _ => match fillP (pl[·]?) zs ps with
    | some r => ⟨True, .agg r⟩
    | none => .no
  | some zs, none, some (some _, sz, _) => match fillP (fun i => some (i * sz, sz)) zs ps with
    | some r => ⟨True, .agg r⟩
    | none => .no
  | _, _, _ => .no

theorem evBuild_run {t : TypeId} {ps : List (Nat × PV)} {qs : Array (Nat × Value)} (hl : qs.toList.length = ps.length)
    (hx : ∀ i, i < ps.length → (qs.toList.getD i (0, undef)).1 = (ps.getD i (0, .any)).1 ∧ VRel G W (ps.getD i (0, .any)).2 (qs.toList.getD i (0, undef)).2) (h : (evBuild P t ps).D) :
    ∃ u, (Instr.build t qs).run P W = .ok u W ∧ VRel G W (evBuild P t ps).V u := by
  unfold evBuild at h ⊢
  split at h
  · rename_i zs pl hz hp
    split at h
    · rename_i r hf
      obtain ⟨v, z1, z2, z3⟩ := zeroP_run (P := P) (W := W) (G := G) hz
      unfold places at hp
      split at hp
      · rename_i fs ht
        have hm := places_run (P := P) (W := W) hp
        obtain ⟨ws, w1, w2⟩ := fill_rel ps qs.toList zs r v.cells z2 hl hx hf
        refine ⟨_, ?_, .agg _ _ w2.1 w2.2⟩
        simp only [Instr.build, Sem.run_bind, z1, Result.andThen_ok, run_underlying ht, Array.mapM_eq_mapM_toList, Sem.run_map]
        rw [hm]
        simp only [Result.andThen_ok, List.getElem?_toArray]
        rw [w1]
        rfl
      · cases hp
    · exact h.elim
  · rename_i zs m sz ag hz hp hx'
    split at h
    · rename_i r hf
      obtain ⟨v, z1, z2, z3⟩ := zeroP_run (P := P) (W := W) (G := G) hz
      obtain ⟨e, ht, hi⟩ := ixi_array hx'
      obtain ⟨ws, w1, w2⟩ := fill_rel ps qs.toList zs r v.cells z2 hl hx hf
      refine ⟨_, ?_, .agg _ _ w2.1 w2.2⟩
      simp only [Instr.build, Sem.run_bind, z1, Result.andThen_ok, run_underlying ht, inf_size hi]
      rw [w1]
      rfl
    · exact h.elim
  · exact h.elim

/-- Parts 0, 1, 2 .. in order. -/
def inOrder : Nat → List (Nat × PV) → Bool
  | _, [] => true
  | i, (j, _) :: r => i == j && inOrder (i + 1) r

theorem fill_inOrder {sz : Nat} : ∀ (ps : List (Nat × PV)) (i0 : Nat) (cs : List PV), cs.length = (i0 + ps.length) * sz → inOrder i0 ps = true → (∀ p ∈ ps, isCell p.2 = true ∧ (cellsP p.2).length = sz) →
    ∃ r, fillP (fun i => some (i * sz, sz)) cs ps = some r ∧ r.length = cs.length ∧ (∀ j, j < i0 * sz → r.getD j .any = cs.getD j .any) ∧
      ∀ i j, i < ps.length → j < sz → r.getD ((i0 + i) * sz + j) .any = (cellsP (ps.getD i (0, .any)).2).getD j .any := by
  intro ps
  induction ps with
  | nil => intro i0 cs _ _ _; exact ⟨cs, rfl, rfl, fun _ _ => rfl, fun i j hi => absurd hi (Nat.not_lt_zero _)⟩
  | cons p ps ih =>
    intro i0 cs hl ho hp
    obtain ⟨j0, v⟩ := p
    simp only [inOrder, Bool.and_eq_true, beq_iff_eq] at ho
    obtain ⟨rfl, ho⟩ := ho
    obtain ⟨c1, c2⟩ := hp _ (List.mem_cons_self ..)
    simp only at c1 c2
    have hfit : i0 * sz + (cellsP v).length ≤ cs.length := by
      rw [c2, hl, List.length_cons]
      have : (i0 + 1) * sz ≤ (i0 + (ps.length + 1)) * sz := Nat.mul_le_mul_right sz (by omega)
      rw [Nat.add_mul, Nat.one_mul] at this
      exact this
    obtain ⟨r, r1, r2, r3, r4⟩ := ih (i0 + 1) (setR cs (i0 * sz) (cellsP v)) (by rw [setR_length hfit, hl, List.length_cons]; congr 1; omega) ho (fun q hq => hp q (List.mem_cons_of_mem _ hq))
    refine ⟨r, ?_, by rw [r2, setR_length hfit], fun j hj => ?_, fun i j hi hj => ?_⟩
    · simp only [fillP, c1, c2, beq_self_eq_true, Bool.and_self, Bool.true_and]
      rw [if_pos (by simpa [c2] using hfit)]
      exact r1
    · rw [r3 j (by rw [Nat.add_mul]; omega), setR_getD hfit, if_neg (by omega)]
    · cases i with
      | zero =>
        rw [Nat.add_zero, r3 _ (by rw [Nat.add_mul]; omega), setR_getD hfit, if_pos (by omega)]
        simp
      | succ i =>
        have := r4 i j (by simpa using hi) hj
        rw [show i0 + (i + 1) = i0 + 1 + i by omega, this]
        simp

def evBS (P : Program) (t : TypeId) (len : Nat) (ps : List (Nat × PV)) : EV :=
  match ixi P t with
  | some (none, sz, _) => ⟨inOrder 0 ps = true ∧ ps.length = len ∧ (∀ p ∈ ps, isCell p.2 = true ∧ (cellsP p.2).length = sz) ∧ len * sz ≤ 16777216 ∧ len ≤ 16777216 ∧ (len * sz = 0 ∨ (match P.underlying t with | some (.slice e) => (zeroP P e).isSome = true | _ => False)),
      .slice true (ps.map fun p => cellsP p.2)⟩
  | _ => .no

theorem buildSlice_cells {t e : TypeId} {len sz : Nat} {ag : Bool} {ps : List (Nat × PV)} {qs : Array (Nat × Value)} (ht : P.underlying t = some (.slice e)) (hi : inf P e = some (sz, ag)) (hl : qs.toList.length = ps.length)
    (hx : ∀ i, i < ps.length → (qs.toList.getD i (0, undef)).1 = (ps.getD i (0, .any)).1 ∧ VRel G W (ps.getD i (0, .any)).2 (qs.toList.getD i (0, undef)).2)
    (ho : inOrder 0 ps = true) (hlen : ps.length = len) (hp : ∀ p ∈ ps, isCell p.2 = true ∧ (cellsP p.2).length = sz) (hsz : len * sz ≤ 16777216) (hz : len * sz = 0 ∨ (zeroP P e).isSome = true) :
    ∃ arr : Array Value, (Instr.buildSlice t len qs).run P W = .ok (.slice (some ⟨W.heap.size, 0, none⟩) len len) (W.alloc (.cells arr e)) ∧ arr.size = len * sz ∧
      ∀ i j, i < len → j < sz → VRel G W ((cellsP (ps.getD i (0, .any)).2).getD j .any) (arr.getD (i * sz + j) undef) := by
  obtain ⟨zero, hzero⟩ : ∃ zero : Array Value, (len * sz = 0 ∧ zero = #[]) ∨ (len * sz ≠ 0 ∧ ∃ v, (zeroValue e).run P W = .ok v W ∧ zero = v.cells) := by
    by_cases h0 : len * sz = 0
    · exact ⟨#[], .inl ⟨h0, rfl⟩⟩
    · rcases hz with h | h
      · exact absurd h h0
      · obtain ⟨zs, hzs⟩ := Option.isSome_iff_exists.1 h
        obtain ⟨v, z1, _, _⟩ := zeroP_run (P := P) (W := W) (G := G) hzs
        exact ⟨v.cells, .inr ⟨h0, v, z1, rfl⟩⟩
  have hinit : RelL G W (((List.range (len * sz)).map fun j => PV.lit (zero[j % zero.size]!))) ((Array.range (len * sz)).map (zero[· % zero.size]!)) := by
    refine ⟨by simp, fun i hi => ?_⟩
    simp at hi
    simp [List.getD, hi]
    exact .lit _
  obtain ⟨r, r1, r2, _, r4⟩ := fill_inOrder ps 0 ((List.range (len * sz)).map fun j => PV.lit (zero[j % zero.size]!)) (by simp [hlen]) ho hp
  obtain ⟨ws, w1, w2⟩ := fill_rel ps qs.toList _ r _ hinit hl hx r1
  refine ⟨ws, ?_, by rw [w2.1, r2]; simp, fun i j hi hj => ?_⟩
  · simp only [Instr.buildSlice, Sem.run_bind, run_underlying ht, Result.andThen_ok, inf_size hi]
    rw [Sem.run_ite, if_neg (by omega)]
    rcases hzero with ⟨h0, rfl⟩ | ⟨h0, v, z1, rfl⟩
    · rw [if_pos h0]
      simp only [pure_bind]
      rw [w1]
      simp [newRow]
    · rw [if_neg h0]
      simp only [pure_bind, Sem.run_bind, z1, Result.andThen_ok]
      rw [w1]
      simp [newRow]
  · have := r4 i j (by omega) hj
    rw [Nat.zero_add] at this
    rw [← this]
    refine w2.2 _ ?_
    rw [r2]
    simp
    calc i * sz + j < i * sz + sz := by omega
      _ = (i + 1) * sz := by rw [Nat.add_mul, Nat.one_mul]
      _ ≤ len * sz := Nat.mul_le_mul_right sz hi

theorem evBS_run (hr : HRel G W σ) {t : TypeId} {len : Nat} {ps : List (Nat × PV)} {qs : Array (Nat × Value)} (hl : qs.toList.length = ps.length)
    (hx : ∀ i, i < ps.length → (qs.toList.getD i (0, undef)).1 = (ps.getD i (0, .any)).1 ∧ VRel G W (ps.getD i (0, .any)).2 (qs.toList.getD i (0, undef)).2) (h : (evBS P t len ps).D) :
    ∃ u G' W', (Instr.buildSlice t len qs).run P W = .ok u W' ∧ QEv G W G' W' ∧ VRel G' W' (evBS P t len ps).V u := by
  unfold evBS at h ⊢
  split at h
  · rename_i sz ag hx'
    obtain ⟨e, ht, hi⟩ := ixi_slice hx'
    simp only [ht] at h
    obtain ⟨h1, h2, h3, h4, h6, h5⟩ := h
    obtain ⟨arr, g1, g2, g3⟩ := buildSlice_cells ht hi hl hx h1 h2 h3 h4 h5
    have q := QEv.alloc hr arr e
    refine ⟨_, _, _, g1, q, ?_⟩
    have e1 : ∀ i, i < len → (ps.map fun p => cellsP p.2).getD i [] = cellsP (ps.getD i (0, .any)).2 := fun i hi => by
      have : i < ps.length := by omega
      simp [List.getD, this]
    refine .slice true _ W.heap.size 0 len len sz (fun j => arr.getD j undef) (by simp [h2]) (Nat.le_refl _) ?_ (fun _ => rfl) (fun i hi => ?_) (fun j hj => ?_) (fun i j hi hj => ?_)
    · unfold maxLen; omega
    · rw [e1 i hi]
      have hlt : i < ps.length := by omega
      have := (h3 ps[i] (List.getElem_mem hlt)).2
      simpa [List.getD, hlt] using this
    · rw [Nat.zero_add]
      exact ⟨.inr ⟨rfl, by omega⟩, cell_alloc_new W arr e _ (by omega)⟩
    · rw [e1 i hi]
      exact (g3 i j hi hj).mono ((q.evol hr).ext hr)
  · exact h.elim

/-! ### 'ev' as a whole -/
def gate (fr : Fr) (xs : List Operand) (e : EV) : EV := ⟨(∀ x ∈ xs, avt (opv fr x)) ∧ e.D, e.V⟩
def pickV (c : Bool) (a b : PV) : PV :=
  match a, b with
  | .lit (.bool x), .lit (.bool y) => .lit (.bool (bif c then x else y))
  | a, b => bif c then a else b
def evPick (fr : Fr) (c a b : Operand) : EV :=
  match sv (opv fr c) with
  | .lit (.bool t) => ⟨avt (opv fr c) ∧ (t = true → avt (opv fr a)) ∧ (t = false → avt (opv fr b)), pickV t (sv (opv fr a)) (sv (opv fr b))⟩
  | _ => .no
def notIface (P : Program) (t : TypeId) : Bool :=
  match P.underlying t with
  | some (.interface _) => false
  | some _ => true
  | none => false
def evExtract (x : PV) (i : Nat) : EV :=
  match x with
  | .tup cs => ⟨i < cs.length, cs.getD i .any⟩
  | _ => .no
def evNil (x : PV) : EV :=
  match x with
  | .ptr id off => ⟨True, .ptr id off⟩
  | .ref cs => ⟨True, .ref cs⟩
  | .fn (.func f) a b => ⟨True, .fn (.func f) a b⟩
  | _ => .no
def evCall (P : Program) (σ : Heap) (fr : Fr) (c : Call) : EV :=
  match c.callee with
  | .builtin .len => match c.args.toList, c.argTypes.toList with
    | [x], t :: _ => gate fr [x] (evLen P σ t (sv (opv fr x)))
    | _, _ => .no
  | .builtin .max => match c.args.toList with
    | [x, y] => gate fr [x, y] (evMM true (sv (opv fr x)) (sv (opv fr y)))
    | _ => .no
  | .builtin .min => match c.args.toList with
    | [x, y] => gate fr [x, y] (evMM false (sv (opv fr x)) (sv (opv fr y)))
    | _ => .no
  | _ => .no

def ev (P : Program) (σ : Heap) (fr : Fr) (o : Oper) : EV :=
  match o.op with
  | .move x => gate fr [x] ⟨True, sv (opv fr x)⟩
  | .assign x => gate fr [x] ⟨True, sv (opv fr x)⟩
  | .pick c a b => evPick fr c a b
  | .build t ps => gate fr (ps.toList.map (·.2)) (evBuild P t (partsP fr ps))
  | .buildSlice t len ps => gate fr (ps.toList.map (·.2)) (evBS P t len (partsP fr ps))
  | .load t a => gate fr [a] (evL P σ t (sv (opv fr a)))
  | .nilCheck x => gate fr [x] (evNil (sv (opv fr x)))
  | .binOp op t x y _ => gate fr [x, y] (evBin P op t (sv (opv fr x)) (sv (opv fr y)))
  | .unOp op _ x => gate fr [x] (evUn op (sv (opv fr x)))
  | .convert s d x => gate fr [x] (evConv P s d (sv (opv fr x)))
  | .makeInterface t x => gate fr [x] ⟨notIface P t = true, .iface t (sv (opv fr x))⟩
  | .makeFunc f first cap => gate fr (first.toList ++ cap.toList) ⟨True, .fn f (first.toList.map fun x => sv (opv fr x)) (cap.toList.map fun x => sv (opv fr x))⟩
  | .slice t x lo hi mx => gate fr (x :: (lo.toList ++ hi.toList ++ mx.toList)) (evSl P σ t (sv (opv fr x)) (lo.map fun x => sv (opv fr x)) (hi.map fun x => sv (opv fr x)) (mx.map fun x => sv (opv fr x)))
  | .fieldAddr s x f => gate fr [x] (evFA P s (sv (opv fr x)) f)
  | .field t x f => gate fr [x] (evF P t (sv (opv fr x)) f)
  | .indexAddr t x i => gate fr [x, i] (evIA P t (sv (opv fr x)) (sv (opv fr i)))
  | .index t x i => gate fr [x, i] (evI P t (sv (opv fr x)) (sv (opv fr i)))
  | .extract x i => gate fr [x] (evExtract (sv (opv fr x)) i)
  | .call c => evCall P σ fr c
  | _ => .no

theorem bif_rel {c : Bool} {a b : PV} {v w : Value} (ha : c = true → VRel G W a v) (hb : c = false → VRel G W b w) : VRel G W (pickV c a b) (if c then v else w) := by
  unfold pickV
  split
  · cases c
    · have := hb rfl; cases this; exact .lit _
    · have := ha rfl; cases this; exact .lit _
  · cases c
    · exact hb rfl
    · exact ha rfl

theorem list_rel (hT : TRel G W n fr A.tmps) {xs : Array Operand} (ha : ∀ x ∈ xs.toList, avt (opv fr x)) :
    (xs.map A.eval).size = (xs.toList.map fun x => sv (opv fr x)).length ∧ ∀ i, i < (xs.toList.map fun x => sv (opv fr x)).length → VRel G W ((xs.toList.map fun x => sv (opv fr x)).getD i .any) ((xs.map A.eval).getD i undef) := by
  refine ⟨by simp, fun i hi => ?_⟩
  have hlt : i < xs.size := by simpa using hi
  have := sv_rel (opv_rel hT xs[i]) (ha xs[i] (by simp))
  simpa [List.getD, hlt] using this

theorem ret_ok {s : Sem Value} {u : Value} {W' : World} (h : s.run P W = .ok u W') : (do pure (Next.value (← s)) : Sem Next).run P W = .ok (.value u) W' := by
  simp [h]

theorem opt_rel (hT : TRel G W n fr A.tmps) (x : Option Operand) (ha : ∀ y ∈ x.toList, avt (opv fr y)) : BRel G W (x.map fun x => sv (opv fr x)) (x.map A.eval) := by
  cases x with
  | none => trivial
  | some y => exact sv_rel (opv_rel hT y) (ha y (by simp))

theorem ev_run (hr : HRel G W σ) (hT : TRel G W n fr A.tmps) (o : Oper) (h : (ev P σ fr o).D) : RunQ P G W (execOp A.eval o) (ev P σ fr o).V := by
  obtain ⟨dst, op, ty, pos, after, guard⟩ := o
  have R : ∀ x, avt (opv fr x) → VRel G W (sv (opv fr x)) (A.eval x) := fun x hx => sv_rel (opv_rel hT x) hx
  cases op <;> simp only [ev] at h ⊢
  case move x => exact RunQ.same hr (by simp [execOp]) (R x (h.1 x (by simp)))
  case assign x => exact RunQ.same hr (by simp [execOp]) (R x (h.1 x (by simp)))
  case pick c a b =>
    unfold evPick at h ⊢
    split at h
    · rename_i t ht
      obtain ⟨h1, h2, h3⟩ := h
      have hc := R c h1
      rw [ht] at hc
      have hc := lit_inv hc
      refine RunQ.same hr (v := if t then A.eval a else A.eval b) ?_ (bif_rel (fun e => R a (h2 e)) (fun e => R b (h3 e)))
      simp [execOp, hc, asBool]
    · exact h.elim
  case build t ps =>
    obtain ⟨h1, h2⟩ := h
    obtain ⟨p1, p2⟩ := parts_rel hT (ps := ps) (fun p hp => h1 p.2 (List.mem_map.2 ⟨p, hp, rfl⟩))
    obtain ⟨u, r1, r2⟩ := evBuild_run p1 p2 h2
    exact RunQ.same hr (ret_ok r1) r2
  case buildSlice t len ps =>
    obtain ⟨h1, h2⟩ := h
    obtain ⟨p1, p2⟩ := parts_rel hT (ps := ps) (fun p hp => h1 p.2 (List.mem_map.2 ⟨p, hp, rfl⟩))
    obtain ⟨u, G', W', r1, r2, r3⟩ := evBS_run hr p1 p2 h2
    exact ⟨u, G', W', ret_ok r1, r2, r3⟩
  case load t a =>
    obtain ⟨u, r1, r2⟩ := evL_run (P := P) hr (R a (h.1 a (by simp))) h.2
    exact RunQ.same hr (ret_ok r1) r2
  case nilCheck x =>
    obtain ⟨h1, h2⟩ := h
    have hx := R x (h1 x (by simp))
    unfold evNil at h2
    simp only [gate, evNil]
    split at h2
    · rename_i id off e
      rw [e] at hx
      generalize hv : A.eval x = v at hx
      cases hx with
      | ptr _ _ R δ hb => exact RunQ.same hr (by simp [execOp, hv]) (.ptr _ _ R δ hb)
    · rename_i cs e
      rw [e] at hx
      generalize hv : A.eval x = v at hx
      cases hx with
      | ref _ b off cv g1 g2 => exact RunQ.same hr (by simp [execOp, hv]) (.ref _ b off cv g1 g2)
    · rename_i f a b e
      rw [e] at hx
      generalize hv : A.eval x = v at hx
      cases hx with
      | fn _ _ _ vf vc g1 g2 g3 g4 => exact RunQ.same hr (by simp [execOp, hv]) (.fn _ _ _ vf vc g1 g2 g3 g4)
    · exact h2.elim
  case binOp op t x y _ =>
    obtain ⟨u, r1, r2⟩ := evBin_run (P := P) (x := x) (y := y) (R x (h.1 x (by simp))) (R y (h.1 y (by simp))) h.2
    exact RunQ.same hr (ret_ok r1) r2
  case unOp op t x =>
    obtain ⟨u, r1, r2⟩ := evUn_run (P := P) (R x (h.1 x (by simp))) h.2
    exact RunQ.same hr (ret_ok r1) r2
  case convert s d x =>
    obtain ⟨u, r1, r2⟩ := evConv_run (P := P) (R x (h.1 x (by simp))) h.2
    exact RunQ.same hr (ret_ok r1) r2
  case makeInterface t x =>
    obtain ⟨h1, h2⟩ := h
    simp only [notIface] at h2
    refine RunQ.same hr (ret_ok (u := .iface t (A.eval x)) ?_) (.iface t _ _ (R x (h1 x (by simp))))
    split at h2
    · cases h2
    · rename_i d hn hd
      cases d <;> first | (simp [Instr.makeInterface, Sem.run_bind, run_underlying hd]; done) | exact (hn _ rfl).elim
    · cases h2
  case makeFunc f first cap =>
    obtain ⟨h1, _⟩ := h
    obtain ⟨a1, a2⟩ := list_rel hT (xs := first) (fun x hx => h1 x (by simp [hx]))
    obtain ⟨b1, b2⟩ := list_rel hT (xs := cap) (fun x hx => h1 x (by simp [hx]))
    exact RunQ.same hr (by simp [execOp, Instr.makeFunc]) (.fn f _ _ _ _ a1 a2 b1 b2)
  case slice t x lo hi mx =>
    obtain ⟨h1, h2⟩ := h
    obtain ⟨u, r1, r2⟩ := evSl_run (P := P) hr (R x (h1 x (by simp))) (opt_rel hT lo (fun y hy => h1 y (by simp; simp at hy; simp [hy]))) (opt_rel hT hi (fun y hy => h1 y (by simp; simp at hy; simp [hy])))
      (opt_rel hT mx (fun y hy => h1 y (by simp; simp at hy; simp [hy]))) h2
    exact RunQ.same hr (ret_ok r1) r2
  case fieldAddr s x f =>
    obtain ⟨u, r1, r2⟩ := evFA_run (P := P) (R x (h.1 x (by simp))) h.2
    exact RunQ.same hr (ret_ok r1) r2
  case field t x f =>
    obtain ⟨u, r1, r2⟩ := evF_run (P := P) (R x (h.1 x (by simp))) h.2
    exact RunQ.same hr (ret_ok r1) r2
  case indexAddr t x i =>
    obtain ⟨u, r1, r2⟩ := evIA_run (P := P) (R x (h.1 x (by simp))) (R i (h.1 i (by simp))) h.2
    exact RunQ.same hr (ret_ok r1) r2
  case index t x i =>
    obtain ⟨u, r1, r2⟩ := evI_run (P := P) (R x (h.1 x (by simp))) (R i (h.1 i (by simp))) h.2
    exact RunQ.same hr (ret_ok r1) r2
  case extract x i =>
    obtain ⟨h1, h2⟩ := h
    have hx := R x (h1 x (by simp))
    simp only [gate]
    unfold evExtract at h2 ⊢
    split at h2
    · rename_i cs e
      rw [e] at hx
      generalize hv : A.eval x = v at hx
      cases hx with
      | tup _ vs g1 g2 =>
      have hlt : i < vs.size := by have : i < cs.length := h2; omega
      refine RunQ.same hr (v := vs.getD i undef) ?_ (g2 i h2)
      simp [execOp, hv, Instr.extract, hlt]
    · exact h2.elim
  case call c =>
    obtain ⟨callee, args, argTypes⟩ := c
    unfold evCall at h ⊢
    split at h
    · rename_i hcal
      split at h
      · rename_i x t ts e1 e2
        obtain ⟨h1, h2⟩ := h
        have e3 : args = #[x] := by rw [← Array.toArray_toList (xs := args)]; simp only at e1; rw [e1]
        have e4 : argTypes[0]? = some t := by rw [← Array.getElem?_toList]; simp only at e2; rw [e2]; rfl
        obtain ⟨u, r1, r2⟩ := evLen_run (P := P) (ty := ty) hr e4 (R x (h1 x (by simp))) h2
        simp only at hcal
        subst hcal; subst e3
        refine RunQ.same hr (v := u) ?_ (by simpa [gate] using r2)
        simp only [execOp, resolve, Sem.run_bind, Sem.run_pure, Result.andThen_ok, invoke, builtin]
        rw [show Array.map A.eval _ = _ from rfl]
        simp [r1]
      · exact h.elim
    · rename_i hcal
      split at h
      · rename_i x y e1
        obtain ⟨h1, h2⟩ := h
        have e3 : args = #[x, y] := by rw [← Array.toArray_toList (xs := args)]; simp only at e1; rw [e1]
        obtain ⟨u, r1, r2⟩ := evMax_run (P := P) (ts := argTypes) (ty := ty) (R x (h1 x (by simp))) (R y (h1 y (by simp))) h2
        simp only at hcal
        subst hcal; subst e3
        refine RunQ.same hr (v := u) ?_ (by simpa [gate] using r2)
        simp only [execOp, resolve, Sem.run_bind, Sem.run_pure, Result.andThen_ok, invoke, builtin]
        rw [show Array.map A.eval _ = _ from rfl]
        simp [r1]
      · exact h.elim
    · rename_i hcal
      split at h
      · rename_i x y e1
        obtain ⟨h1, h2⟩ := h
        have e3 : args = #[x, y] := by rw [← Array.toArray_toList (xs := args)]; simp only at e1; rw [e1]
        obtain ⟨u, r1, r2⟩ := evMin_run (P := P) (ts := argTypes) (ty := ty) (R x (h1 x (by simp))) (R y (h1 y (by simp))) h2
        simp only at hcal
        subst hcal; subst e3
        refine RunQ.same hr (v := u) ?_ (by simpa [gate] using r2)
        simp only [execOp, resolve, Sem.run_bind, Sem.run_pure, Result.andThen_ok, invoke, builtin]
        rw [show Array.map A.eval _ = _ from rfl]
        simp [r1]
      · exact h.elim
    · exact h.elim
  all_goals exact h.elim
end
end Go.Lo
