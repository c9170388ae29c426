/-
  The program logic 'Lo', part I: operations that make or write memory. Nothing of the program.
-/
import Derived.Test.YtgcoikbgpkfcnaaLoG
set_option linter.unusedSimpArgs false
set_option linter.unusedVariables false
namespace Go.Lo
open Go

section
variable {P : Program} {rd : Bool} {n : Nat} {fr : Fr} {σ : Heap} {G : Gh} {W : World}

def Gh.bind (G : Gh) (id : Nat) (loc : Nat × Nat) : Gh := { G with β := fun j => if j = id then some loc else G.β j }
theorem bind_same (G : Gh) (id : Nat) (loc : Nat × Nat) : (G.bind id loc).β id = some loc := if_pos rfl
theorem bind_ext {G : Gh} {id : Nat} {loc : Nat × Nat} (h : G.β id = none) : ∀ j l, G.β j = some l → (G.bind id loc).β j = some l := fun j l hj => by
  show (if j = id then some loc else G.β j) = some l
  rw [if_neg (fun e => by subst e; rw [h] at hj; cases hj)]; exact hj
theorem fresh_id (hr : HRel G W σ) : ∃ id, G.β id = none ∧ σ id = none := by
  obtain ⟨N, hN⟩ := hr.bnd
  refine ⟨N, hN N (Nat.le_refl _), ?_⟩
  cases hx : σ N with
  | none => rfl
  | some o => obtain ⟨loc, l1, _⟩ := hr.obj N o hx; rw [hN N (Nat.le_refl _)] at l1; cases l1
theorem bnd_bind {G : Gh} {id : Nat} {loc : Nat × Nat} (h : ∃ N, ∀ id, N ≤ id → G.β id = none) : ∃ N, ∀ j, N ≤ j → (G.bind id loc).β j = none := by
  obtain ⟨N, hN⟩ := h
  refine ⟨max N (id + 1), fun j hj => ?_⟩
  show (if j = id then some loc else G.β j) = none
  rw [if_neg (by omega)]; exact hN j (by omega)

theorem ext_alloc (hr : HRel G W σ) {id : Nat} (hid : G.β id = none) (loc : Nat × Nat) (ob : Obj) : Ext G W (G.bind id loc) (W.alloc ob) :=
  ⟨fun _ _ h => h, fun b o hs => by obtain ⟨v, hv⟩ := hr.stab b o hs; exact World.cell_block (heap_alloc_old W ob (lt_of_cell hv)), bind_ext hid,
   fun b s hs => (shape_block (heap_alloc_old W ob (lt_of_shape hs))).trans hs⟩

/-- A new object in a new block. -/
theorem new_obj (hr : HRel G W σ) {id : Nat} (hid : G.β id = none) (ob : Obj) (o : PObj) (ho : ORel (G.bind id (W.heap.size, 0)) (W.alloc ob) (W.heap.size, 0) o) :
    HRel (G.bind id (W.heap.size, 0)) (W.alloc ob) (σ.set id o) ∧ Evol G W σ (G.bind id (W.heap.size, 0)) (W.alloc ob) (σ.set id o) := by
  have hE := ext_alloc hr hid (W.heap.size, 0) ob
  have hSn : ∀ o, ¬ G.S W.heap.size o := fun o hs => by obtain ⟨v, hv⟩ := hr.stab _ _ hs; have := lt_of_cell hv; omega
  have old : ∀ j x, σ.set id o j = some x → (j = id ∧ x = o) ∨ (j ≠ id ∧ σ j = some x) := fun j x hx => by
    unfold Heap.set at hx
    by_cases e : j = id
    · rw [if_pos e] at hx; cases hx; exact .inl ⟨e, rfl⟩
    · rw [if_neg e] at hx; exact .inr ⟨e, hx⟩
  have img : ∀ {b}, Img (G.bind id (W.heap.size, 0)) (σ.set id o) b → W.heap.size ≤ b ∨ Img G σ b := fun {b} ⟨j, loc, h1, h2, h3⟩ => by
    obtain ⟨x, hx⟩ := some_of_ne h1
    rcases old j x hx with ⟨rfl, rfl⟩ | ⟨hne, hx'⟩
    · rw [bind_same] at h2; cases h2; exact .inl (by omega)
    · obtain ⟨loc', l1, _⟩ := hr.obj j x hx'
      have := hE.β _ _ l1; rw [h2] at this; cases this
      exact .inr ⟨j, loc, by rw [hx']; simp, l1, h3⟩
  refine ⟨⟨fun j x hx => ?_, fun j j' l l' h1 h2 h3 h4 h5 => ?_, fun b o hs => ?_, bnd_bind hr.bnd⟩, ?_⟩
  · rcases old j x hx with ⟨rfl, rfl⟩ | ⟨hne, hx'⟩
    · exact ⟨_, bind_same _ _ _, ho, hSn⟩
    · obtain ⟨loc, l1, l2, l3⟩ := hr.obj j x hx'
      exact ⟨loc, hE.β _ _ l1, l2.mono hE (heap_alloc_old W ob (img_lt hr ⟨j, loc, by rw [hx']; simp, l1, rfl⟩)), l3⟩
  · obtain ⟨x, hx⟩ := some_of_ne h1
    obtain ⟨x', hx'⟩ := some_of_ne h2
    have lt : ∀ j x l, j ≠ id → σ j = some x → (G.bind id (W.heap.size, 0)).β j = some l → G.β j = some l ∧ l.1 < W.heap.size := fun j x l hne hx hl => by
      obtain ⟨loc, l1, _⟩ := hr.obj j x hx
      have := hE.β _ _ l1; rw [hl] at this; cases this
      exact ⟨l1, img_lt hr ⟨j, l, by rw [hx]; simp, l1, rfl⟩⟩
    rcases old j x hx with ⟨q1, _⟩ | ⟨hne, hxo⟩ <;> rcases old j' x' hx' with ⟨q2, _⟩ | ⟨hne', hxo'⟩
    · rw [q1, q2]
    · obtain ⟨_, q⟩ := lt j' x' l' hne' hxo' h4
      rw [q1, bind_same] at h3; cases h3
      simp only at h5; omega
    · obtain ⟨_, q⟩ := lt j x l hne hxo h3
      rw [q2, bind_same] at h4; cases h4
      simp only at h5; omega
    · exact hr.inj j j' l l' (by rw [hxo]; simp) (by rw [hxo']; simp) (lt j x l hne hxo h3).1 (lt j' x' l' hne' hxo' h4).1 h5
  · obtain ⟨v, hv⟩ := hr.stab b o hs
    exact ⟨v, (hE.cell b o hs).trans hv⟩
  · exact
    { os := rfl, tape := rfl, output := rfl, size := by rw [size_alloc]; omega
      keep := fun b hb _ => heap_alloc_old W ob hb
      shape := hE.shape, S := fun _ _ h => h, snew := fun _ _ h => .inl h, β := hE.β
      own := fun b hb => img hb
      fresh := fun j hj => by
        obtain ⟨x, hx⟩ := some_of_ne hj
        rcases old j x hx with ⟨rfl, rfl⟩ | ⟨hne, hx'⟩
        · exact .inr hid
        · exact .inl (by rw [hx']; simp) }

/-- An object turned in its own block. -/
theorem upd_obj (hr : HRel G W σ) {id : Nat} {o0 o : PObj} {loc : Nat × Nat} (ho0 : σ id = some o0) (hb : G.β id = some loc) (ob : Obj)
    (hshape : ∀ s, W.shape? loc.1 = some s → (W.putObj loc.1 ob).shape? loc.1 = some s) (ho : Ext G W G (W.putObj loc.1 ob) → ORel G (W.putObj loc.1 ob) loc o) :
    HRel G (W.putObj loc.1 ob) (σ.set id o) ∧ Evol G W σ G (W.putObj loc.1 ob) (σ.set id o) := by
  have hI : Img G σ loc.1 := ⟨id, loc, by rw [ho0]; simp, hb, rfl⟩
  have hlt := img_lt hr hI
  obtain ⟨loc', l1, l2, l3⟩ := hr.obj id o0 ho0
  rw [hb] at l1; cases l1
  have hE : Ext G W G (W.putObj loc.1 ob) := ⟨fun _ _ h => h, fun b o hs => World.cell_block (World.putObj_heap_other (fun e => l3 o (e ▸ hs))), fun _ _ h => h, fun b s hs => by
    by_cases e : b = loc.1
    · subst e; exact hshape s hs
    · exact (shape_block (World.putObj_heap_other e)).trans hs⟩
  have old : ∀ j x, σ.set id o j = some x → (j = id ∧ x = o) ∨ (j ≠ id ∧ σ j = some x) := fun j x hx => by
    unfold Heap.set at hx
    by_cases e : j = id
    · rw [if_pos e] at hx; cases hx; exact .inl ⟨e, rfl⟩
    · rw [if_neg e] at hx; exact .inr ⟨e, hx⟩
  have dom : ∀ j, σ.set id o j ≠ none → σ j ≠ none := fun j hj => by
    obtain ⟨x, hx⟩ := some_of_ne hj
    rcases old j x hx with ⟨rfl, rfl⟩ | ⟨_, hx'⟩
    · rw [ho0]; simp
    · rw [hx']; simp
  refine ⟨⟨fun j x hx => ?_, fun j j' l l' h1 h2 h3 h4 h5 => hr.inj j j' l l' (dom j h1) (dom j' h2) h3 h4 h5, fun b o hs => ?_, hr.bnd⟩, ?_⟩
  · rcases old j x hx with ⟨rfl, rfl⟩ | ⟨hne, hx'⟩
    · exact ⟨loc, hb, ho hE, l3⟩
    · obtain ⟨lj, m1, m2, m3⟩ := hr.obj j x hx'
      refine ⟨lj, m1, m2.mono hE (World.putObj_heap_other fun e => hne ?_), m3⟩
      exact hr.inj j id lj loc (by rw [hx']; simp) (by rw [ho0]; simp) m1 hb e
  · obtain ⟨v, hv⟩ := hr.stab b o hs
    exact ⟨v, (hE.cell b o hs).trans hv⟩
  · exact
    { os := rfl, tape := rfl, output := rfl, size := by rw [World.putObj_size]; omega
      keep := fun b _ hi => World.putObj_heap_other fun e => hi (e ▸ hI)
      shape := hE.shape, S := fun _ _ h => h, snew := fun _ _ h => .inl h, β := fun _ _ h => h
      own := fun b hb => .inr (hb.more dom)
      fresh := fun j hj => .inl (dom j hj) }

/-! ### box, alloc -/
theorem orel_new {cs : List PV} {arr : Array Value} {e : TypeId} {id : Nat} (hr : HRel G W σ) (hid : G.β id = none) (h : RelL G W cs arr) : ORel (G.bind id (W.heap.size, 0)) (W.alloc (.cells arr e)) (W.heap.size, 0) (.cells cs) :=
  ⟨arr, e, heap_alloc_new W _, by simp [h.1], fun j hj => by rw [Nat.zero_add]; exact (h.2 j hj).mono (ext_alloc hr hid _ _)⟩

theorem gop_new {o : Oper} {K : Out → Heap → Prop} (hd : ∀ c, o.op ≠ .defer c)
    (h : ∀ (G : Gh) (W : World) (A : Act), HRel G W σ → TRel G W n fr A.tmps → ∃ (cs : List PV) (arr : Array Value) (e : TypeId) (v : Value) (V : Nat → PV), (execOp A.eval o).run P W = .ok (.value v) (W.alloc (.cells arr e)) ∧ RelL G W cs arr ∧
      (∀ id, σ id = none → K (.val (V id)) (σ.set id (.cells cs))) ∧ ∀ id G', G'.β id = some (W.heap.size, 0) → VRel G' (W.alloc (.cells arr e)) (V id) v) : gop P rd n o fr σ K := by
  intro G W A r m _ h2 h3 next Q hn _
  obtain ⟨cs, arr, e, v, V, e1, e2, e3, e4⟩ := h G W A h2 h3
  obtain ⟨id, f1, f2⟩ := fresh_id h2
  obtain ⟨k1, k2⟩ := new_obj h2 f1 (.cells arr e) (.cells cs) (orel_new h2 f1 e2)
  exact wpIn_value hd e1 (hn _ _ _ _ v (e3 id f2) k2 k1 (e4 id _ (bind_same _ _ _)))

theorem gop_box {o : Oper} {t : TypeId} {x : Operand} {K : Out → Heap → Prop} (ho : o.op = .box t x) (ha : avt (opv fr x)) (hc : isCell (sv (opv fr x)) = true)
    (h : ∀ id, σ id = none → K (.val (.ptr id 0)) (σ.set id (.cells (cellsP (sv (opv fr x)))))) : gop P rd n o fr σ K :=
  gop_new (fun c hd => by rw [ho] at hd; cases hd) fun G W A h2 h3 => by
    have hv := cells_rel (sv_rel (opv_rel h3 x) ha) hc
    refine ⟨_, _, t, .pointer (some ⟨W.heap.size, 0, none⟩), fun id => .ptr id 0, ?_, hv, h, fun id G' hb => .ptr id 0 W.heap.size 0 hb⟩
    simp [execOp, ho, Instr.box, newVar, newRow]

theorem gop_alloc {o : Oper} {t : TypeId} {zs : List PV} {K : Out → Heap → Prop} (ho : o.op = .alloc t) (hz : zeroP P t = some zs)
    (h : ∀ id, σ id = none → K (.val (.ptr id 0)) (σ.set id (.cells zs))) : gop P rd n o fr σ K :=
  gop_new (fun c hd => by rw [ho] at hd; cases hd) fun G W A h2 h3 => by
    obtain ⟨v, z1, z2, _⟩ := zeroP_run (P := P) (W := W) (G := G) hz
    refine ⟨_, _, t, .pointer (some ⟨W.heap.size, 0, none⟩), fun id => .ptr id 0, ?_, z2, h, fun id G' hb => .ptr id 0 W.heap.size 0 hb⟩
    simp [execOp, ho, Instr.alloc, newVar, newRow, Sem.run_bind, z1]

/-! ### store -/
/-- One cell, for sure. -/
def isCell1 : PV → Bool
  | .agg _ => false
  | v => isCell v
theorem isCell1_one {p : PV} {v : Value} (h : VRel G W p v) (hc : isCell1 p = true) : v.oneCell' = true := by
  cases h with
  | lit v => cases v <;> first | rfl | (simp [isCell1, isCell] at hc)
  | any v => simp [isCell1, isCell] at hc
  | agg cs vs h1 h2 => simp [isCell1] at hc
  | tup cs vs h1 h2 => simp [isCell1, isCell] at hc
  | gd g q v h1 h2 => simp [isCell1, isCell] at hc
  | _ => rfl

theorem setCell_put {R : Nat} {arr : Array Value} {e : TypeId} {fz : Nat × Nat} (h : W.heap[R]? = some (.cells arr e fz)) (o : Nat) (v : Value) :
    W.setCell ⟨R, o, none⟩ v = W.putObj R (.cells (arr.setIfInBounds o v) e fz) := by
  unfold World.setCell World.putObj
  congr 1
  obtain ⟨hlt, hg⟩ := Array.getElem?_eq_some_iff.1 h
  apply Array.ext_getElem?
  intro i
  rw [Array.getElem?_modify, Array.getElem?_setIfInBounds]
  by_cases e : R = i
  · subst e; simp [hlt, hg]
  · simp [e]

theorem putObj_put (W : World) (R : Nat) (a b : Obj) : (W.putObj R a).putObj R b = W.putObj R b := by
  unfold World.putObj
  congr 1
  simp
theorem putObj_same {R : Nat} {a : Obj} (h : W.heap[R]? = some a) : W.putObj R a = W := by
  unfold World.putObj
  obtain ⟨hlt, hg⟩ := Array.getElem?_eq_some_iff.1 h
  have : W.heap.setIfInBounds R a = W.heap := by
    apply Array.ext_getElem?
    intro i
    rw [Array.getElem?_setIfInBounds]
    by_cases e : R = i
    · subst e; simp [hlt, hg]
    · simp [e]
  rw [this]

theorem storeCells_run {R e : Nat} : ∀ (vs : List Value) (arr : Array Value) (W : World) (off i : Nat), W.heap[R]? = some (.cells arr e (0, 0)) → off + i + vs.length ≤ arr.size → (∀ v ∈ vs, v.oneCell' = true) →
    (storeCells ⟨R, off, none⟩ vs i).run P W = .ok () (W.putObj R (.cells ((vs.zipIdx i).foldl (fun cs (x : Value × Nat) => cs.setIfInBounds (off + x.2) x.1) arr) e (0, 0))) := by
  intro vs
  induction vs with
  | nil => intro arr W off i h _ _; simp [storeCells, putObj_same h]
  | cons v vs ih =>
    intro arr W off i h hl hv
    have hlt : off + i < arr.size := by simp at hl; omega
    have hc : W.cell? ⟨R, off + i, none⟩ = some arr[off + i] := by simp [World.cell?, h, hlt]
    have hf : W.frozen? ⟨R, off + i, none⟩ = false := by simp [World.frozen?, h]
    have h1 : (Go.store ((⟨R, off, none⟩ : Addr).add i) v).run P W = .ok () (W.putObj R (.cells (arr.setIfInBounds (off + i) v) e (0, 0))) := by
      rw [add_cell, run_store P W _ v _ (hv v (List.mem_cons_self ..)), hc]
      simp [hf, setCell_put h]
    simp only [storeCells, Sem.run_bind, h1, Result.andThen_ok]
    rw [ih (arr.setIfInBounds (off + i) v) _ off (i + 1) (World.putObj_heap_same (lt_of_heap h)) (by simp at hl ⊢; omega) (fun x hx => hv x (List.mem_cons_of_mem _ hx)), putObj_put]
    rfl

/-- What a store leaves. -/
def storeP (P : Program) (σ : Heap) (t : TypeId) (a x : PV) (C : Heap → Prop) : Prop :=
  match a, inf P t with
  | .ptr id off, some (sz, _) => match σ id with
    | some (.cells cs) => (cellsP x).length = sz ∧ isCell x = true ∧ (∀ c ∈ cellsP x, isCell1 c = true) ∧ off + sz ≤ cs.length ∧ C (σ.set id (.cells (setR cs off (cellsP x))))
    | _ => False
  | _, _ => False

theorem gop_store {o : Oper} {t : TypeId} {a x : Operand} {K : Out → Heap → Prop} (ho : o.op = .store t a x) (ha : avt (opv fr a)) (hx : avt (opv fr x))
    (h : storeP P σ t (sv (opv fr a)) (sv (opv fr x)) fun σ' => K (.val (.lit undef)) σ') : gop P rd n o fr σ K := by
  intro G W A r m _ h2 h3 next Q hn _
  have va := sv_rel (opv_rel h3 a) ha
  have vx := sv_rel (opv_rel h3 x) hx
  generalize hav : A.eval a = av at va
  generalize hxv : A.eval x = xv at vx
  unfold storeP at h
  split at h
  · rename_i id off sz ag e1 hi
    rw [e1] at va
    split at h
    · rename_i cs hs
      obtain ⟨c1, c2, c3, c4, hK⟩ := h
      cases va with
      | ptr _ _ R δ hb =>
      obtain ⟨loc, l1, l2, l3⟩ := h2.obj id _ hs
      rw [hb] at l1; cases l1
      obtain ⟨arr, e, g1, g2, g3⟩ := l2
      simp only at g1 g2 g3
      have hcr := cells_rel vx c2
      have hone : ∀ v ∈ xv.cells.toList, v.oneCell' = true := fun v hv => by
        obtain ⟨i, hi', hv'⟩ := List.getElem_of_mem hv
        have hlen : i < (cellsP (sv (opv fr x))).length := by rw [← hcr.1]; simpa using hi'
        have hrel := hcr.2 i hlen
        have e1 : (xv.cells).getD i undef = v := by
          have : i < xv.cells.size := by simpa using hi'
          simp [this]; simpa using hv'
        rw [e1] at hrel
        refine isCell1_one hrel (c3 _ ?_)
        simp [List.getD, hlen]
      have hsz : xv.cells.size = sz := by rw [hcr.1]; exact c1
      obtain ⟨arr', harr⟩ : ∃ arr', arr' = (xv.cells.toList.zipIdx 0).foldl (fun cs (x : Value × Nat) => cs.setIfInBounds (δ + off + x.2) x.1) arr := ⟨_, rfl⟩
      obtain ⟨f1, f2⟩ := foldSet (δ + off) xv.cells.toList 0 arr
      rw [← harr] at f1
      have hrun : (execOp A.eval o).run P W = .ok .skip (W.putObj R (.cells arr' e (0, 0))) := by
        have hst := storeCells_run (P := P) xv.cells.toList arr W (δ + off) 0 g1 (by rw [Array.length_toList, hsz]; omega) hone
        rw [harr]
        simp only [execOp, ho, hav, hxv, Instr.storeAt, Instr.sureAddr, storeVar, Sem.run_bind, Sem.run_pure, Result.andThen_ok, inf_size hi]
        rw [Sem.run_ite, if_neg (by simp [hsz])]
        simp only [hst, Result.andThen_ok]
      have hshape : ∀ s, W.shape? R = some s → (W.putObj R (.cells arr' e (0, 0))).shape? R = some s := fun s hs' => by
        unfold World.shape? at hs' ⊢
        rw [World.putObj_heap_same (lt_of_heap g1)]
        rw [g1] at hs'
        simpa [f1] using hs'
      obtain ⟨k1, k2⟩ := upd_obj h2 hs hb _ hshape (o := .cells (setR cs off (cellsP (sv (opv fr x))))) fun hE => by
        have hfit : off + (cellsP (sv (opv fr x))).length ≤ cs.length := by omega
        refine ⟨arr', e, World.putObj_heap_same (lt_of_heap g1), ?_, fun j hj => ?_⟩
        · rw [setR_length hfit, f1]; exact g2
        · rw [setR_length hfit] at hj
          have f3 := f2 (δ + j) (by rw [Array.length_toList]; omega)
          rw [← harr] at f3
          simp only [Nat.add_zero, Array.length_toList, hsz] at f3
          rw [setR_getD hfit, f3]
          by_cases hin : off ≤ j ∧ j < off + (cellsP (sv (opv fr x))).length
          · rw [if_pos hin, if_pos (by omega)]
            have h1 := (hcr.2 (j - off) (by omega)).mono hE
            have e3 : xv.cells.toList.getD (δ + j - (δ + off)) undef = xv.cells.getD (j - off) undef := by
              rw [show δ + j - (δ + off) = j - off by omega, List.getD, Array.getElem?_toList, Array.getD_eq_getD_getElem?]
            rw [e3]; exact h1
          · rw [if_neg hin, if_neg (by omega)]
            exact (g3 j hj).mono hE
      exact wpIn_skipped (fun c hd => by rw [ho] at hd; cases hd) hrun (hn _ _ _ _ _ hK k2 k1 (.lit _))
    · exact h.elim
  · exact h.elim

/-! ### make -/
def elemB (P : Program) (t : TypeId) : Option (Nat × List PV) :=
  match P.underlying t with
  | some (.slice e) => match P.info? e, zeroP P e with
    | some i, some zs => if zs.length = i.size then some (i.bytes, zs) else none
    | _, _ => none
  | _ => none

theorem elemB_some {t : TypeId} {b : Nat} {zs : List PV} (h : elemB P t = some (b, zs)) : ∃ e i, P.underlying t = some (.slice e) ∧ P.info? e = some i ∧ i.bytes = b ∧ zeroP P e = some zs ∧ zs.length = i.size := by
  unfold elemB at h
  split at h
  · rename_i e ht
    split at h
    · rename_i i zs' hi hz
      split at h
      · rename_i hl
        simp at h
        obtain ⟨rfl, rfl⟩ := h
        exact ⟨e, i, ht, hi, rfl, hz, hl⟩
      · cases h
    · cases h
  · cases h

def replP (m : Nat) (zs : List PV) : List PV := (List.replicate m zs).flatten
def makeP (P : Program) (σ : Heap) (t : TypeId) (l c : PV) (C : PV → Heap → Prop) : Prop :=
  match elemB P t, l, c with
  | some (b, zs), .lit (.int .i64 x), .lit (.int .i64 y) => 0 ≤ x ∧ x ≤ y ∧ y ≤ 4294967296 ∧ b ≤ 65536 ∧ zs ≠ [] ∧
      ∀ id, σ id = none → C (.msl id zs.length 0 x.toNat (decide (x = y))) (σ.set id (.cells (replP y.toNat zs)))
  | _, _, _ => False

theorem flatten_replicate_getD (zs : List PV) (hz : zs ≠ []) : ∀ (m j : Nat), j < m * zs.length → ((List.replicate m zs).flatten).getD j .any = zs.getD (j % zs.length) .any := by
  have hpos : 0 < zs.length := List.length_pos_iff.2 hz
  intro m
  induction m with
  | zero => intro j hj; omega
  | succ m ih =>
    intro j hj
    rw [List.replicate_succ, List.flatten_cons]
    simp only [List.getD] at ih ⊢
    rcases Nat.lt_or_ge j zs.length with h | h
    · rw [List.getElem?_append_left h, Nat.mod_eq_of_lt h]
    · rw [List.getElem?_append_right h, ih (j - zs.length) (by rw [Nat.add_mul] at hj; omega), ← Nat.mod_eq_sub_mod h]

theorem gop_make {o : Oper} {t : TypeId} {l c : Operand} {K : Out → Heap → Prop} (ho : o.op = .makeSlice t l c) (hl : avt (opv fr l)) (hc : avt (opv fr c))
    (h : makeP P σ t (sv (opv fr l)) (sv (opv fr c)) fun V σ' => K (.val V) σ') : gop P rd n o fr σ K := by
  unfold makeP at h
  split at h
  · rename_i b zs x y e1 e2 e3
    obtain ⟨h0, h1, h2, h3, h4, hK⟩ := h
    unfold replP at hK
    obtain ⟨e, i, ht, hi, rfl, hz, hlen⟩ := elemB_some e1
    refine gop_new (fun c hd => by rw [ho] at hd; cases hd) fun G W A g2 g3 => ?_
    have vl := lit_inv (by have := sv_rel (opv_rel g3 l) hl; rwa [e2] at this)
    have vc := lit_inv (by have := sv_rel (opv_rel g3 c) hc; rwa [e3] at this)
    obtain ⟨v, z1, z2, z3⟩ := zeroP_run (P := P) (W := W) (G := G) hz
    have hpos : 0 < zs.length := List.length_pos_iff.2 h4
    have hvs : v.cells.size = zs.length := z2.1
    have wl : IntKind.i64.wrap x = x := IntWalk.i64_in x ⟨by omega, by omega⟩
    have wc : IntKind.i64.wrap y = y := IntWalk.i64_in y ⟨by omega, by omega⟩
    have hb : (i.bytes : Int) * y ≤ 281474976710656 := by
      calc (i.bytes : Int) * y ≤ 65536 * 4294967296 := Int.mul_le_mul (by omega) h2 (by omega) (by omega)
        _ = 281474976710656 := by decide
    obtain ⟨zero, hzero⟩ : ∃ zero : Array Value, zero = if y.toNat * i.size = 0 then #[] else v.cells := ⟨_, rfl⟩
    refine ⟨(List.replicate y.toNat zs).flatten, (Array.range (y.toNat * i.size)).map (zero[· % zero.size]!), e, .slice (some ⟨W.heap.size, 0, none⟩) x.toNat y.toNat, fun id => .msl id zs.length 0 x.toNat (decide (x = y)), ?_, ?_, hK, ?_⟩
    · simp only [execOp, ho, vl, vc, Instr.makeSlice, Sem.run_bind, run_underlying ht, Result.andThen_ok, asInt, asIntOf, Sem.run_pure, typeInfo, run_program, hi]
      rw [Sem.run_ite, if_neg]
      · simp only [Sem.run_bind, run_askRoom, Result.andThen_ok, sizeOf, typeInfo, run_program, hi, Sem.run_pure, wl, wc]
        rw [Sem.run_ite]
        by_cases hz0 : y.toNat * i.size = 0
        · rw [if_pos hz0] at hzero ⊢
          subst hzero
          simp [newRow, hz0]
        · rw [if_neg hz0] at hzero ⊢
          subst hzero
          simp [newRow, z1]
      · simp only [wl, wc]
        simp only [Bool.or_eq_true, decide_eq_true_eq, not_or]
        refine ⟨⟨⟨by omega, ?_⟩, by omega⟩, by omega⟩
        have : (2 : Int) ^ 48 = 281474976710656 := by decide
        omega
    · refine ⟨by simp [hlen, List.length_flatten], fun j hj => ?_⟩
      have hj' : j < y.toNat * zs.length := by simpa [List.length_flatten] using hj
      rw [flatten_replicate_getD zs h4 _ _ hj']
      have hne : y.toNat * i.size ≠ 0 := by rw [← hlen]; omega
      rw [if_neg hne] at hzero
      subst hzero
      have hjr : j < y.toNat * i.size := by rw [← hlen]; exact hj'
      have hm : j % zs.length < v.cells.size := by rw [hvs]; exact Nat.mod_lt _ hpos
      have e4 : ((Array.range (y.toNat * i.size)).map (v.cells[· % v.cells.size]!)).getD j undef = v.cells.getD (j % zs.length) undef := by
        rw [Array.getD_eq_getD_getElem?, Array.getElem?_map, Array.getElem?_range]
        simp only [hjr, if_true, Option.map_some, Option.getD_some]
        have hm' : j % v.cells.size < v.cells.size := by rw [hvs] at hm ⊢; exact hm
        rw [getElem!_pos v.cells _ hm', show j % zs.length = j % v.cells.size by rw [hvs]]
        simp [hm']
      rw [e4]
      exact z2.2 _ (Nat.mod_lt _ hpos)
    · intro id G' hb'
      refine .msl id zs.length 0 x.toNat y.toNat W.heap.size 0 _ _ _ _ e hb' (by omega) (by unfold maxLen; omega) (fun hf => by simp at hf; omega) (fun _ => ⟨rfl, rfl⟩) (by unfold World.shape?; rw [heap_alloc_new]) (fun _ => ?_)
      simp [hlen]
  · exact h.elim

/-! ### append -/
/-- An object turned in its own block, under a new name. -/
theorem move_obj (hr : HRel G W σ) {id0 id : Nat} {o0 o : PObj} {R δ δ' : Nat} (ho0 : σ id0 = some o0) (hb : G.β id0 = some (R, δ)) (hid : G.β id = none) (ob : Obj)
    (hshape : ∀ s, W.shape? R = some s → (W.putObj R ob).shape? R = some s) (ho : Ext G W (G.bind id (R, δ')) (W.putObj R ob) → ORel (G.bind id (R, δ')) (W.putObj R ob) (R, δ') o) :
    HRel (G.bind id (R, δ')) (W.putObj R ob) ((σ.del id0).set id o) ∧ Evol G W σ (G.bind id (R, δ')) (W.putObj R ob) ((σ.del id0).set id o) := by
  have hI : Img G σ R := ⟨id0, (R, δ), by rw [ho0]; simp, hb, rfl⟩
  have hlt := img_lt hr hI
  obtain ⟨loc', l1, l2, l3⟩ := hr.obj id0 o0 ho0
  rw [hb] at l1; cases l1
  simp only at l3
  have hE : Ext G W (G.bind id (R, δ')) (W.putObj R ob) := ⟨fun _ _ h => h, fun b o hs => World.cell_block (World.putObj_heap_other (fun e => l3 o (e ▸ hs))), bind_ext hid, fun b s hs => by
    by_cases e : b = R
    · subst e; exact hshape s hs
    · exact (shape_block (World.putObj_heap_other e)).trans hs⟩
  have old : ∀ j x, (σ.del id0).set id o j = some x → (j = id ∧ x = o) ∨ (j ≠ id ∧ j ≠ id0 ∧ σ j = some x) := fun j x hx => by
    unfold Heap.set Heap.del at hx
    by_cases e : j = id
    · rw [if_pos e] at hx; cases hx; exact .inl ⟨e, rfl⟩
    · rw [if_neg e] at hx
      by_cases e0 : j = id0
      · rw [if_pos e0] at hx; cases hx
      · rw [if_neg e0] at hx; exact .inr ⟨e, e0, hx⟩
  have rest : ∀ j x l, j ≠ id → j ≠ id0 → σ j = some x → (G.bind id (R, δ')).β j = some l → G.β j = some l ∧ l.1 ≠ R := fun j x l h1 h0 hx hl => by
    obtain ⟨loc, m1, _⟩ := hr.obj j x hx
    have := hE.β _ _ m1; rw [hl] at this; cases this
    exact ⟨m1, fun e => h0 (hr.inj j id0 l (R, δ) (by rw [hx]; simp) (by rw [ho0]; simp) m1 hb e)⟩
  refine ⟨⟨fun j x hx => ?_, fun j j' l l' h1 h2 h3 h4 h5 => ?_, fun b o hs => ?_, bnd_bind hr.bnd⟩, ?_⟩
  · rcases old j x hx with ⟨rfl, rfl⟩ | ⟨hne, hne0, hx'⟩
    · exact ⟨_, bind_same _ _ _, ho hE, l3⟩
    · obtain ⟨loc, m1, m2, m3⟩ := hr.obj j x hx'
      have := (rest j x loc hne hne0 hx' (hE.β _ _ m1)).2
      exact ⟨loc, hE.β _ _ m1, m2.mono hE (World.putObj_heap_other this), m3⟩
  · obtain ⟨x, hx⟩ := some_of_ne h1
    obtain ⟨x', hx'⟩ := some_of_ne h2
    rcases old j x hx with ⟨q1, _⟩ | ⟨hne, hne0, hxo⟩ <;> rcases old j' x' hx' with ⟨q2, _⟩ | ⟨hne', hne0', hxo'⟩
    · rw [q1, q2]
    · obtain ⟨_, q⟩ := rest j' x' l' hne' hne0' hxo' h4
      rw [q1, bind_same] at h3; cases h3
      exact absurd h5.symm q
    · obtain ⟨_, q⟩ := rest j x l hne hne0 hxo h3
      rw [q2, bind_same] at h4; cases h4
      exact absurd h5 q
    · exact hr.inj j j' l l' (by rw [hxo]; simp) (by rw [hxo']; simp) (rest j x l hne hne0 hxo h3).1 (rest j' x' l' hne' hne0' hxo' h4).1 h5
  · obtain ⟨v, hv⟩ := hr.stab b o hs
    exact ⟨v, (hE.cell b o hs).trans hv⟩
  · exact
    { os := rfl, tape := rfl, output := rfl, size := by rw [World.putObj_size]; omega
      keep := fun b _ hi => World.putObj_heap_other fun e => hi (e ▸ hI)
      shape := hE.shape, S := fun _ _ h => h, snew := fun _ _ h => .inl h, β := hE.β
      own := fun b ⟨j, loc, h1, h2, h3⟩ => by
        obtain ⟨x, hx⟩ := some_of_ne h1
        rcases old j x hx with ⟨rfl, _⟩ | ⟨hne, hne0, hx'⟩
        · rw [bind_same] at h2; cases h2; exact .inr (h3 ▸ hI)
        · exact .inr ⟨j, loc, by rw [hx']; simp, (rest j x loc hne hne0 hx' h2).1, h3⟩
      fresh := fun j hj => by
        obtain ⟨x, hx⟩ := some_of_ne hj
        rcases old j x hx with ⟨rfl, _⟩ | ⟨hne, hne0, hx'⟩
        · exact .inr hid
        · exact .inl (by rw [hx']; simp) }

/-- What is appended. -/
structure YV where
  D : Prop
  n : Nat
  cs : List PV
def yv (σ : Heap) (sz : Nat) (y : PV) : YV :=
  match y with
  | .slice _ rows => ⟨∀ r ∈ rows, r.length = sz, rows.length, rows.flatten⟩
  | .lit (.slice none 0 0) => ⟨True, 0, []⟩
  | .msl id k off len _ => match σ id with
    | some (.cells cs) => ⟨k = sz ∧ off + len * k ≤ cs.length, len, (cs.drop off).take (len * k)⟩
    | _ => ⟨False, 0, []⟩
  | _ => ⟨False, 0, []⟩

theorem flatten_getD {k : Nat} : ∀ {rows : List (List PV)}, (∀ r ∈ rows, r.length = k) → rows.flatten.length = rows.length * k ∧ ∀ i j, i < rows.length → j < k → rows.flatten.getD (i * k + j) .any = (rows.getD i []).getD j .any := by
  intro rows
  induction rows with
  | nil => intro _; exact ⟨by simp, fun i j hi => absurd hi (Nat.not_lt_zero _)⟩
  | cons r rows ih =>
    intro h
    obtain ⟨h1, h2⟩ := ih (fun x hx => h x (List.mem_cons_of_mem _ hx))
    have hr := h r (List.mem_cons_self ..)
    refine ⟨by rw [List.flatten_cons, List.length_append, h1, hr, List.length_cons, Nat.add_mul]; omega, fun i j hi hj => ?_⟩
    cases i with
    | zero => simp [List.getD, List.getElem?_append_left (show j < r.length by omega)]
    | succ i =>
      have := h2 i j (by simpa using hi) hj
      rw [← List.getD_cons_succ (x := r)] at this
      rw [List.getD_cons_succ] at this ⊢
      rw [← this, List.flatten_cons]
      simp only [List.getD]
      rw [List.getElem?_append_right (by rw [hr, Nat.add_mul]; omega), hr]
      congr 2
      rw [Nat.add_mul]; omega

theorem row_split {m k j : Nat} (hj : j < m * k) : ∃ i r, j = i * k + r ∧ i < m ∧ r < k := by
  have hk : 0 < k := by
    rcases Nat.eq_zero_or_pos k with h | h
    · subst h; simp at hj
    · exact h
  refine ⟨j / k, j % k, by rw [Nat.mul_comm]; exact (Nat.div_add_mod j k).symm, (Nat.div_lt_iff_lt_mul hk).2 hj, Nat.mod_lt _ hk⟩

/-- The real cells behind a slice. -/
theorem slice_cells (hr : HRel G W σ) {sz : Nat} {y : PV} {w : Value} (hv : VRel G W y w) (h : (yv σ sz y).D) :
    (yv σ sz y).cs.length = (yv σ sz y).n * sz ∧ (Builtin.lenOf w).run P W = .ok (yv σ sz y).n W ∧
    ∃ cv : Nat → Value, (Builtin.firstCells sz (yv σ sz y).n w).run P W = .ok ((List.range ((yv σ sz y).n * sz)).map cv).toArray W ∧ ∀ j, j < (yv σ sz y).n * sz → VRel G W ((yv σ sz y).cs.getD j .any) (cv j) := by
  have run : ∀ (b off m cap : Nat) (cv : Nat → Value), (∀ j, j < m * sz → W.cell? ⟨b, off + j, none⟩ = some (cv j)) → (Builtin.firstCells sz m (.slice (some ⟨b, off, none⟩) m cap)).run P W = .ok ((List.range (m * sz)).map cv).toArray W := fun b off m cap cv hc => by
    simp only [Builtin.firstCells, loadCells]
    rw [loadCells_run cv (m * sz) 0 #[] (fun j hj => by simpa using hc j hj)]
    simp
  unfold yv at h ⊢
  split at h
  · rename_i full rows
    have h : ∀ r ∈ rows, r.length = sz := h
    obtain ⟨f1, f2⟩ := flatten_getD h
    cases hv with
    | nilsl _ base cap _ => exact ⟨f1, rfl, fun _ => undef, by cases base <;> simp [Builtin.firstCells, loadCells, loadCellsFrom], by simp⟩
    | slice _ _ b off len cap k cv h1 h2 h3 h4 h5 h6 h7 =>
    subst h1
    have hk : 0 < rows.length → k = sz := fun hp => by
      have e1 := h5 0 hp
      have e2 := h (rows[0]) (List.getElem_mem hp)
      simp [List.getD, hp] at e1
      omega
    refine ⟨f1, rfl, cv, run b off _ cap cv (fun j hj => ?_), fun j hj => ?_⟩
    · have hp : 0 < rows.length := by
        rcases Nat.eq_zero_or_pos rows.length with e | e
        · rw [e] at hj; simp at hj
        · exact e
      rw [← hk hp] at hj; exact (h6 j hj).2
    · have hj : j < rows.length * sz := hj
      obtain ⟨i, r, rfl, hi, hr'⟩ := row_split hj
      simp only
      rw [f2 i r hi hr']
      have := h7 i r hi (by rw [hk (by omega)]; exact hr')
      rwa [hk (by omega)] at this
  · cases hv
    exact ⟨by simp, rfl, fun _ => undef, by simp [Builtin.firstCells], by simp⟩
  · rename_i id k off len full
    split at h
    · rename_i cs ho
      obtain ⟨rfl, h2⟩ := h
      obtain ⟨loc, l1, l2, _⟩ := hr.obj id _ ho
      obtain ⟨cv, hc⟩ := l2.cell
      cases hv with
      | msl _ _ _ _ cap R δ n b off' _ e' g1 g2 g3 g4 g5 g6 g7 =>
      rw [g1] at l1; cases l1
      simp only at hc
      refine ⟨by simp; omega, rfl, fun j => cv (off + j), ?_, fun j hj => ?_⟩
      · rcases Nat.eq_zero_or_pos len with e | e
        · subst e
          have := run b off' 0 cap (fun j => cv (off + j)) (by simp)
          simpa using this
        · obtain ⟨rfl, rfl⟩ := g5 (by omega)
          exact run _ _ len cap _ (fun j hj => by rw [Nat.add_assoc]; exact (hc (off + j) (by omega)).1)
      · have hj : j < len * k := hj
        simp only
        rw [getD_take _ _ _ hj, getD_drop]; exact (hc (off + j) (by omega)).2
    · exact h.elim
  · exact h.elim

theorem growBy_le (L : Nat) : ∀ (r c : Nat), Builtin.growBy L r c ≤ max c (L + (L + 768) / 4) := by
  intro r
  induction r with
  | zero => intro c; simp only [Builtin.growBy]; omega
  | succ r ih =>
    intro c
    simp only [Builtin.growBy]
    split
    · omega
    · have := ih (c + (c + 768) / 4); omega
theorem nextcap_le {need cap : Nat} (h : cap < need) : Builtin.nextslicecap need cap ≤ 2 * need + 1000 := by
  unfold Builtin.nextslicecap
  have := growBy_le need 4 cap
  split
  · omega
  · split
    · omega
    · omega

def isSliceT (P : Program) (t : TypeId) : Bool :=
  match P.underlying t with
  | some (.slice _) => true
  | _ => false
theorem isSliceT_some {t : TypeId} (h : isSliceT P t = true) : ∃ e, P.underlying t = some (.slice e) := by
  unfold isSliceT at h
  split at h
  · rename_i e he; exact ⟨e, he⟩
  · cases h

section app
variable {t t2 e ty : TypeId} {ts : Array TypeId} {i : TypeInfo} {zs : List PV} {w : Value} {m : Nat}

/-- There is room. -/
theorem app_room {a : Addr} {sLen sCap : Nat} {new : Array Value} {W' : World} (h0 : ts[0]? = some t) (h1 : ts[1]? = some t2) (hni : isSliceT P t2 = true) (ht : P.underlying t = some (.slice e)) (hi : P.info? e = some i)
    (hl : (Builtin.lenOf w).run P W = .ok m W) (hc : (Builtin.firstCells i.size m w).run P W = .ok new W) (hroom : sLen + m ≤ sCap) (hst : (storeCells (a.add (sLen * i.size)) new.toList).run P W = .ok () W') :
    (Builtin.append_ ts ty #[.slice (some a) sLen sCap, w]).run P W = .ok (.slice (some a) (sLen + m) sCap) W' := by
  obtain ⟨e2, hd⟩ := isSliceT_some hni
  have hsz : (sizeOf e).run P W = .ok i.size W := by simp [sizeOf, typeInfo, hi]
  unfold Builtin.append_
  simp only [h0, h1, List.getElem?_toArray, List.getElem?_cons_zero, List.getElem?_cons_succ, Sem.run_bind, run_underlying ht, run_underlying hd, Result.andThen_ok, hsz, Sem.run_pure, Bool.false_eq_true, if_false, hl, hroom, if_true, Bool.not_false, hc, hst]

/-- It must grow. -/
theorem app_grow {base : Option Addr} {sLen sCap : Nat} {old new : Array Value} (h0 : ts[0]? = some t) (h1 : ts[1]? = some t2) (hni : isSliceT P t2 = true) (ht : P.underlying t = some (.slice e)) (hi : P.info? e = some i)
    (hz0 : zeroP P e = some zs) (hl : (Builtin.lenOf w).run P W = .ok m W) (hroom : sCap < sLen + m) (hmax : sLen + m ≤ 4294967296) (hb : i.bytes ≤ 4096)
    (o1 : (Builtin.firstCells i.size sLen (.slice base sLen sCap)).run P W.drew = .ok old W.drew)
    (n1 : (Builtin.firstCells i.size m w).run P W.drew = .ok new W.drew) :
    ∃ (newCap : Nat) (rest : Array Value), sLen + m ≤ newCap ∧ rest.size = (newCap - (sLen + m)) * zs.length ∧
      (Builtin.append_ ts ty #[.slice base sLen sCap, w]).run P W = .ok (.slice (some ⟨W.heap.size, 0, none⟩) (sLen + m) newCap) (W.drew.alloc (.cells (old ++ new ++ rest) e)) := by
  obtain ⟨e2, hd⟩ := isSliceT_some hni
  have hsz : ∀ W : World, (sizeOf e).run P W = .ok i.size W := fun W => by simp [sizeOf, typeInfo, hi]
  have hti : ∀ W : World, (typeInfo e).run P W = .ok i W := fun W => by simp [typeInfo, hi]
  obtain ⟨v, z1, z2, z3⟩ := zeroP_run (P := P) (W := W.drew) (G := ⟨fun _ _ => False, fun _ => none⟩) hz0
  have hcap := nextcap_le hroom
  have hbig : ¬ (Builtin.nextslicecap (sLen + m) sCap * i.bytes > 2 ^ 48) := by
    have : Builtin.nextslicecap (sLen + m) sCap * i.bytes ≤ (2 * 4294967296 + 1000) * 4096 := Nat.mul_le_mul (by omega) hb
    have h2 : (2 : Nat) ^ 48 = 281474976710656 := by decide
    omega
  have hi64 : ¬ (((sLen + m : Nat) : Int) > IntKind.i64.max ∧ (False ∨ i.bytes = 0)) := by
    intro ⟨hx, _⟩
    have : IntKind.i64.max = 9223372036854775807 := by decide
    omega
  refine ⟨sLen + m + W.tape W.drawn (.appendCap (sLen + m) sCap e) % (2 ^ 63 - (sLen + m)), Builtin.zeroCells v.cells (sLen + m + W.tape W.drawn (.appendCap (sLen + m) sCap e) % (2 ^ 63 - (sLen + m)) - (sLen + m)), by omega, ?_, ?_⟩
  · rw [← z2.1]; simp [Builtin.zeroCells]
  · unfold Builtin.append_
    simp only [h0, h1, List.getElem?_toArray, List.getElem?_cons_zero, List.getElem?_cons_succ, Sem.run_bind, run_underlying ht, run_underlying hd, Result.andThen_ok, hsz, Sem.run_pure, Bool.false_eq_true, if_false, hl]
    rw [if_neg (by omega)]
    simp only [Sem.run_bind, hti, Result.andThen_ok]
    rw [Sem.run_ite, if_neg (by simpa using hi64)]
    simp only [Sem.run_bind, hti, Result.andThen_ok]
    rw [Sem.run_ite, if_neg hbig]
    simp only [Sem.run_bind, run_choose_drew, Question.forced, Bool.false_eq_true, if_false, Result.andThen_ok, Question.cut, hti, run_askRoom, o1, Bool.not_false, if_true, n1, z1, newRow, run_newObj_alloc, Sem.run_pure]
    rfl
end app

def appendP (P : Program) (σ : Heap) (t t2 : TypeId) (x y : PV) (C : PV → Heap → Prop) : Prop :=
  match elemB P t with
  | some (b, zs) => isSliceT P t2 = true ∧ b ≤ 4096 ∧ zs ≠ [] ∧ (yv σ zs.length y).D ∧ (yv σ zs.length x).D ∧ (yv σ zs.length x).n + (yv σ zs.length y).n ≤ 4294967296 ∧
    match x with
    | .msl id0 _ off len false => (match σ id0 with | some (.cells cs) => off + len * zs.length = cs.length | _ => False) ∧ (∀ c ∈ (yv σ zs.length y).cs, isCell1 c = true) ∧
        ∀ id, σ id = none → C (.msl id zs.length 0 (len + (yv σ zs.length y).n) false) ((σ.del id0).set id (.cells ((yv σ zs.length x).cs ++ (yv σ zs.length y).cs)))
    | .lit (.slice none 0 0) | .slice true _ | .msl _ _ _ _ true => ((yv σ zs.length y).n = 0 → C x σ) ∧
        ((yv σ zs.length y).n ≠ 0 → ∀ id, σ id = none → C (.msl id zs.length 0 ((yv σ zs.length x).n + (yv σ zs.length y).n) false) (σ.set id (.cells ((yv σ zs.length x).cs ++ (yv σ zs.length y).cs))))
    | _ => False
  | none => False

/-- Growth, or nothing to append: the first operand's capacity is its length. -/
theorem append_full (hr : HRel G W σ) {t t2 e ty : TypeId} {ts : Array TypeId} {i : TypeInfo} {zs : List PV} {x y : PV} {w : Value} {base : Option Addr} {l : Nat} {C : PV → Heap → Prop}
    (h0 : ts[0]? = some t) (h1 : ts[1]? = some t2) (hni : isSliceT P t2 = true) (ht : P.underlying t = some (.slice e)) (hi : P.info? e = some i) (hz : zeroP P e = some zs) (hzl : zs.length = i.size) (hne : zs ≠ []) (hb : i.bytes ≤ 4096)
    (hx : VRel G W x (.slice base l l)) (hy : VRel G W y w) (dx : (yv σ zs.length x).D) (dy : (yv σ zs.length y).D) (hmax : (yv σ zs.length x).n + (yv σ zs.length y).n ≤ 4294967296)
    (c0 : (yv σ zs.length y).n = 0 → C x σ)
    (c1 : (yv σ zs.length y).n ≠ 0 → ∀ id, σ id = none → C (.msl id zs.length 0 ((yv σ zs.length x).n + (yv σ zs.length y).n) false) (σ.set id (.cells ((yv σ zs.length x).cs ++ (yv σ zs.length y).cs)))) :
    ∃ V σ' G' W' v, (Builtin.append_ ts ty #[.slice base l l, w]).run P W = .ok v W' ∧ C V σ' ∧ Evol G W σ G' W' σ' ∧ HRel G' W' σ' ∧ VRel G' W' V v := by
  have hlx : (yv σ zs.length x).n = l := by
    obtain ⟨_, q, _⟩ := slice_cells (P := P) hr hx dx
    simp [Builtin.lenOf] at q; exact q.symm
  have qd := QEv.drew hr
  have hr' : HRel G W.drew σ := qd.hrel hr
  have hE := (qd.evol hr).ext hr
  obtain ⟨y1, y2, cy, y3, y4⟩ := slice_cells (P := P) hr' (hy.mono hE) dy
  obtain ⟨x1, x2, cx, x3, x4⟩ := slice_cells (P := P) hr' (hx.mono hE) dx
  obtain ⟨_, yl, cy0, y30, _⟩ := slice_cells (P := P) hr hy dy
  generalize hny : (yv σ zs.length y).n = m at *
  generalize hycs : (yv σ zs.length y).cs = ycs at *
  generalize hxcs : (yv σ zs.length x).cs = xcs at *
  rw [hlx] at *
  have hk : zs.length = i.size := hzl
  by_cases hm : m = 0
  · subst hm
    refine ⟨x, σ, G, W, .slice base l l, ?_, c0 rfl, .refl _ _ _, hr, hx⟩
    obtain ⟨e2, hd⟩ := isSliceT_some hni
    have hsz : (sizeOf e).run P W = .ok i.size W := by simp [sizeOf, typeInfo, hi]
    rw [hk] at y30
    unfold Builtin.append_
    simp only [h0, h1, List.getElem?_toArray, List.getElem?_cons_zero, List.getElem?_cons_succ, Sem.run_bind, run_underlying ht, run_underlying hd, Result.andThen_ok, hsz, Sem.run_pure, Bool.false_eq_true, if_false, yl, Nat.add_zero, Nat.le_refl, if_true, Bool.not_false, y30]
    cases base with
    | none => rfl
    | some a => simp [storeCells]
  · have hgrow : l < l + m := by omega
    rw [hk] at y3 x3
    obtain ⟨newCap, rest, g1, g2, g3⟩ := app_grow (ty := ty) h0 h1 hni ht hi hz yl hgrow hmax hb x3 y3
    obtain ⟨id, f1, f2⟩ := fresh_id hr
    have sx : xcs.length = l * zs.length := x1
    have sy : ycs.length = m * zs.length := y1
    have ho : ORel (G.bind id (W.drew.heap.size, 0)) (W.drew.alloc (.cells (((List.range (l * i.size)).map cx).toArray ++ ((List.range (m * i.size)).map cy).toArray ++ rest) e)) (W.drew.heap.size, 0) (.cells (xcs ++ ycs)) := by
      refine ⟨_, e, heap_alloc_new _ _, by simp [sx, sy, hk], fun j hj => ?_⟩
      have hE2 := ext_alloc hr' f1 (W.drew.heap.size, 0) (.cells (((List.range (l * i.size)).map cx).toArray ++ ((List.range (m * i.size)).map cy).toArray ++ rest) e)
      rw [List.length_append, sx, sy, hk] at hj
      refine VRel.mono hE2 ?_
      rw [Nat.zero_add]
      rw [hk] at sx sy x4 y4
      rcases Nat.lt_or_ge j (l * i.size) with hl | hl
      · have := x4 j hl
        have e1 : (xcs ++ ycs).getD j .any = xcs.getD j .any := by simp [List.getD, List.getElem?_append_left (show j < xcs.length by omega)]
        rw [e1]
        have e2 : (((List.range (l * i.size)).map cx).toArray ++ ((List.range (m * i.size)).map cy).toArray ++ rest).getD j undef = cx j := by
          rw [Array.getD_eq_getD_getElem?, Array.getElem?_append_left (by simp; omega), Array.getElem?_append_left (by simpa using hl)]
          simp [hl]
        rw [e2]; exact this
      · have := y4 (j - l * i.size) (by omega)
        have e1 : (xcs ++ ycs).getD j .any = ycs.getD (j - l * i.size) .any := by simp [List.getD, List.getElem?_append_right (show xcs.length ≤ j by omega), sx]
        rw [e1]
        have e2 : (((List.range (l * i.size)).map cx).toArray ++ ((List.range (m * i.size)).map cy).toArray ++ rest).getD j undef = cy (j - l * i.size) := by
          rw [Array.getD_eq_getD_getElem?, Array.getElem?_append_left (by simp; omega), Array.getElem?_append_right (by simpa using hl)]
          simp [show j - l * i.size < m * i.size by omega]
        rw [e2]; exact this
    obtain ⟨k1, k2⟩ := new_obj hr' f1 _ _ ho
    refine ⟨_, _, _, _, _, g3, c1 hm id f2, (qd.evol hr).trans k2, k1, ?_⟩
    have hkn : newCap * i.size = l * i.size + m * i.size + (newCap - (l + m)) * i.size := by
      rw [← Nat.add_mul, ← Nat.add_mul]; congr 1; omega
    refine .msl id zs.length 0 (l + m) newCap W.drew.heap.size 0 (l * i.size + m * i.size + (newCap - (l + m)) * i.size) _ _ false e (bind_same _ _ _) g1 (by unfold maxLen; omega) (by simp) (fun _ => ⟨rfl, rfl⟩) ?_ (fun _ => ?_)
    · unfold World.shape?
      rw [heap_alloc_new]
      simp [g2, hk]
    · rw [hk, hkn]; omega

/-- In its own memory, or grown: the slice ends where what is known of its object ends. -/
theorem append_own (hr : HRel G W σ) {t t2 e ty : TypeId} {ts : Array TypeId} {i : TypeInfo} {zs cs : List PV} {y : PV} {u w : Value} {id0 off len : Nat} {C : PV → Heap → Prop}
    (h0 : ts[0]? = some t) (h1 : ts[1]? = some t2) (hni : isSliceT P t2 = true) (ht : P.underlying t = some (.slice e)) (hi : P.info? e = some i) (hz : zeroP P e = some zs) (hzl : zs.length = i.size) (hne : zs ≠ []) (hb : i.bytes ≤ 4096)
    (hx : VRel G W (.msl id0 zs.length off len false) u) (hy : VRel G W y w) (ho : σ id0 = some (.cells cs)) (hend : off + len * zs.length = cs.length) (dy : (yv σ zs.length y).D) (hmax : len + (yv σ zs.length y).n ≤ 4294967296)
    (hone : ∀ c ∈ (yv σ zs.length y).cs, isCell1 c = true)
    (c1 : ∀ id, σ id = none → C (.msl id zs.length 0 (len + (yv σ zs.length y).n) false) ((σ.del id0).set id (.cells (cs.drop off ++ (yv σ zs.length y).cs)))) :
    ∃ V σ' G' W' v, (Builtin.append_ ts ty #[u, w]).run P W = .ok v W' ∧ C V σ' ∧ Evol G W σ G' W' σ' ∧ HRel G' W' σ' ∧ VRel G' W' V v := by
  have hk : zs.length = i.size := hzl
  have dx : (yv σ zs.length (.msl id0 zs.length off len false)).D := by simp only [yv, ho]; exact ⟨trivial, by omega⟩
  have xcs : (yv σ zs.length (.msl id0 zs.length off len false)).cs = cs.drop off := by
    simp only [yv, ho]
    rw [List.take_of_length_le]
    simp; omega
  have xn : (yv σ zs.length (.msl id0 zs.length off len false)).n = len := by simp only [yv, ho]
  have hx0 := hx
  obtain ⟨loc, l1, l2, l3⟩ := hr.obj id0 _ ho
  cases hx with
  | msl _ _ _ _ cap R δ n b off' _ e' q1 q2 q3 q4 q5 q6 q7 =>
  rw [q1] at l1; cases l1
  obtain ⟨arr, e2, a1, a2, a3⟩ := l2
  simp only at a1 a2 a3
  have hsh : (e2, arr.size) = (e', n) := by
    have := q6; unfold World.shape? at this; rw [a1] at this; simpa using this
  simp only [Prod.mk.injEq] at hsh
  obtain ⟨rfl, rfl⟩ := hsh
  obtain ⟨_, yl, cy0, y30, y40⟩ := slice_cells (P := P) hr hy dy
  by_cases hroom : len + (yv σ zs.length y).n ≤ cap
  · -- in its own memory
    obtain ⟨id, f1, f2⟩ := fresh_id hr
    have ylen := (slice_cells (P := P) hr hy dy).1
    obtain ⟨m, hm⟩ : ∃ m, m = (yv σ zs.length y).n := ⟨_, rfl⟩
    obtain ⟨ycs, hycs⟩ : ∃ ycs, ycs = (yv σ zs.length y).cs := ⟨_, rfl⟩
    have c1 := c1 id f2
    rw [← hm] at hroom yl y30 y40 ylen c1
    rw [← hycs] at ylen y40 c1 hone
    have ones : ∀ v ∈ (List.range (m * zs.length)).map cy0, v.oneCell' = true := fun v hv => by
      obtain ⟨j, hj, rfl⟩ := List.mem_map.1 hv
      have hj := List.mem_range.1 hj
      refine isCell1_one (y40 j hj) (hone _ ?_)
      have : j < ycs.length := by omega
      simp [List.getD, this]
    obtain ⟨W2, arr', hst, hW2, harr1, harr2⟩ : ∃ W2 arr', (storeCells ((⟨b, off', none⟩ : Addr).add (len * i.size)) ((List.range (m * zs.length)).map cy0)).run P W = .ok () W2 ∧ W2 = W.putObj R (.cells arr' e2 (0, 0)) ∧ arr'.size = arr.size ∧
        ∀ j, j < arr.size → arr'.getD j undef = if δ + off + len * zs.length ≤ j ∧ j < δ + off + len * zs.length + m * zs.length then cy0 (j - (δ + off + len * zs.length)) else arr.getD j undef := by
      rcases Nat.eq_zero_or_pos cap with hc | hc
      · have : m = 0 := by omega
        subst this
        refine ⟨W, arr, by simp [storeCells], (putObj_same a1).symm, rfl, fun j _ => ?_⟩
        rw [if_neg (by omega)]
      · obtain ⟨rfl, rfl⟩ := q5 hc
        have hfit : δ + off + len * zs.length + 0 + ((List.range (m * zs.length)).map cy0).length ≤ arr.size := by
          have := q7 hc
          have h2 : (len + m) * zs.length ≤ cap * zs.length := Nat.mul_le_mul_right _ hroom
          rw [Nat.add_mul] at h2
          simp; omega
        have := storeCells_run (P := P) ((List.range (m * zs.length)).map cy0) arr W (δ + off + len * zs.length) 0 a1 hfit ones
        obtain ⟨s1, s2⟩ := foldSet (δ + off + len * zs.length) ((List.range (m * zs.length)).map cy0) 0 arr
        refine ⟨_, _, ?_, rfl, s1, fun j hj => ?_⟩
        · rw [add_cell, ← hk]; exact this
        · rw [s2 j (by simp at hfit ⊢; omega)]
          simp only [Nat.add_zero, List.length_map, List.length_range]
          split
          · rename_i hin
            simp [show j - (δ + off + len * zs.length) < m * zs.length by omega]
          · rfl
    subst hW2
    rw [hk] at y30
    have hrun := app_room (ty := ty) (sLen := len) (sCap := cap) h0 h1 hni ht hi yl y30 hroom (by rw [← hk]; rw [hk]; simpa [hk] using hst)
    have hshape : ∀ s, W.shape? R = some s → (W.putObj R (.cells arr' e2 (0, 0))).shape? R = some s := fun s hs => by
      unfold World.shape? at hs ⊢
      rw [World.putObj_heap_same (lt_of_heap a1)]
      rw [a1] at hs
      simpa [harr1] using hs
    have clen : (cs.drop off).length = len * zs.length := by rw [List.length_drop]; omega
    obtain ⟨k1, k2⟩ := move_obj hr (id := id) (δ' := δ + off) (o := .cells (cs.drop off ++ ycs)) ho q1 f1 (.cells arr' e2 (0, 0)) hshape fun hE => by
      refine ⟨arr', e2, World.putObj_heap_same (lt_of_heap a1), ?_, fun j hj => ?_⟩
      · rw [List.length_append, clen, ylen, harr1]
        simp only
        rcases Nat.eq_zero_or_pos cap with hc | hc
        · have h1 : len = 0 := by omega
          have h2 : m = 0 := by omega
          subst h1; subst h2
          simp at hend ⊢; omega
        · have := q7 hc
          have h2 : (len + m) * zs.length ≤ cap * zs.length := Nat.mul_le_mul_right _ hroom
          rw [Nat.add_mul] at h2; omega
      · rw [List.length_append, clen, ylen] at hj
        simp only
        have hj2 : δ + off + j < arr.size := by
          rcases Nat.eq_zero_or_pos cap with hc | hc
          · have h1 : len = 0 := by omega
            have h2 : m = 0 := by omega
            subst h1; subst h2; simp at hj
          · have := q7 hc
            have h2 : (len + m) * zs.length ≤ cap * zs.length := Nat.mul_le_mul_right _ hroom
            rw [Nat.add_mul] at h2; omega
        rw [harr2 _ hj2]
        refine VRel.mono hE ?_
        rcases Nat.lt_or_ge j (len * zs.length) with hl | hl
        · rw [if_neg (by omega)]
          have := a3 (off + j) (by omega)
          have e1 : (cs.drop off ++ ycs).getD j .any = cs.getD (off + j) .any := by
            simp [List.getD, List.getElem?_append_left (show j < (cs.drop off).length by omega)]
          rw [e1, Nat.add_assoc]; exact this
        · rw [if_pos (by omega)]
          have := y40 (j - len * zs.length) (by omega)
          have e1 : (cs.drop off ++ ycs).getD j .any = ycs.getD (j - len * zs.length) .any := by
            simp only [List.getD]
            rw [List.getElem?_append_right (by omega), clen]
          rw [e1, show δ + off + j - (δ + off + len * zs.length) = j - len * zs.length by omega]; exact this
    refine ⟨_, _, _, _, _, hrun, c1, k2, k1, ?_⟩
    refine .msl id zs.length 0 (len + m) cap R (δ + off) arr.size b off' false e2 (bind_same _ _ _) hroom (by unfold maxLen; omega) (by simp) (fun hc => ⟨(q5 hc).1, by have := (q5 hc).2; omega⟩) ?_ (fun hc => by have := q7 hc; omega)
    unfold World.shape?
    rw [World.putObj_heap_same (lt_of_heap a1)]
    simp [harr1]
  · -- grown
    have qd := QEv.drew hr
    have hr' : HRel G W.drew σ := qd.hrel hr
    have hE := (qd.evol hr).ext hr
    obtain ⟨y1, y2, cy, y3, y4⟩ := slice_cells (P := P) hr' (hy.mono hE) dy
    obtain ⟨x1, x2, cx, x3, x4⟩ := slice_cells (P := P) hr' (hx0.mono hE) dx
    rw [xcs] at x1 x4
    rw [xn] at x1 x3 x4
    obtain ⟨m, hm⟩ : ∃ m, m = (yv σ zs.length y).n := ⟨_, rfl⟩
    obtain ⟨ycs, hycs⟩ : ∃ ycs, ycs = (yv σ zs.length y).cs := ⟨_, rfl⟩
    rw [← hm] at hroom yl y1 y3 y4 hmax c1
    rw [← hycs] at y1 y4 c1
    rw [hk] at y3 x3
    obtain ⟨newCap, rest, g1, g2, g3⟩ := app_grow (ty := ty) h0 h1 hni ht hi hz yl (by omega) hmax hb x3 y3
    obtain ⟨id, f1, f2⟩ := fresh_id hr
    have sx : (cs.drop off).length = len * zs.length := x1
    have sy : ycs.length = m * zs.length := y1
    have ho2 : ORel (G.bind id (W.drew.heap.size, 0)) (W.drew.alloc (.cells (((List.range (len * i.size)).map cx).toArray ++ ((List.range (m * i.size)).map cy).toArray ++ rest) e)) (W.drew.heap.size, 0) (.cells (cs.drop off ++ ycs)) := by
      refine ⟨_, e, heap_alloc_new _ _, by simp [sx, sy, hk] at *, fun j hj => ?_⟩
      have hE2 := ext_alloc hr' f1 (W.drew.heap.size, 0) (.cells (((List.range (len * i.size)).map cx).toArray ++ ((List.range (m * i.size)).map cy).toArray ++ rest) e)
      rw [List.length_append, sx, sy, hk] at hj
      refine VRel.mono hE2 ?_
      rw [Nat.zero_add]
      rw [hk] at sx sy x4 y4
      rcases Nat.lt_or_ge j (len * i.size) with hl | hl
      · have := x4 j hl
        have e1 : (cs.drop off ++ ycs).getD j .any = (cs.drop off).getD j .any := by simp only [List.getD]; rw [List.getElem?_append_left (by omega)]
        rw [e1]
        have e2 : (((List.range (len * i.size)).map cx).toArray ++ ((List.range (m * i.size)).map cy).toArray ++ rest).getD j undef = cx j := by
          rw [Array.getD_eq_getD_getElem?, Array.getElem?_append_left (by simp; omega), Array.getElem?_append_left (by simpa using hl)]
          simp [hl]
        rw [e2]; exact this
      · have := y4 (j - len * i.size) (by omega)
        have e1 : (cs.drop off ++ ycs).getD j .any = ycs.getD (j - len * i.size) .any := by simp only [List.getD]; rw [List.getElem?_append_right (by omega), sx]
        rw [e1]
        have e2 : (((List.range (len * i.size)).map cx).toArray ++ ((List.range (m * i.size)).map cy).toArray ++ rest).getD j undef = cy (j - len * i.size) := by
          rw [Array.getD_eq_getD_getElem?, Array.getElem?_append_left (by simp; omega), Array.getElem?_append_right (by simpa using hl)]
          simp [show j - len * i.size < m * i.size by omega]
        rw [e2]; exact this
    obtain ⟨k1, k2⟩ := new_obj hr' f1 _ _ ho2
    have sub : ∀ j x, ((σ.del id0).set id (.cells (cs.drop off ++ ycs))) j = some x → (σ.set id (.cells (cs.drop off ++ ycs))) j = some x := fun j x hx => by
      unfold Heap.set Heap.del at *
      split
      · rename_i e; rw [if_pos e] at hx; exact hx
      · rename_i e; rw [if_neg e] at hx
        split at hx
        · cases hx
        · exact hx
    refine ⟨_, _, _, _, _, g3, c1 id f2, ((qd.evol hr).trans k2).less (fun j hj => ?_), k1.less sub, ?_⟩
    · obtain ⟨x, hx⟩ := some_of_ne hj; rw [sub j x hx]; simp
    have hkn : newCap * i.size = len * i.size + m * i.size + (newCap - (len + m)) * i.size := by
      rw [← Nat.add_mul, ← Nat.add_mul]; congr 1; omega
    refine .msl id zs.length 0 (len + m) newCap W.drew.heap.size 0 (len * i.size + m * i.size + (newCap - (len + m)) * i.size) _ _ false e (bind_same _ _ _) g1 (by unfold maxLen; omega) (by simp) (fun _ => ⟨rfl, rfl⟩) ?_ (fun _ => ?_)
    · unfold World.shape?
      rw [heap_alloc_new]
      simp [g2, hk]
    · rw [hk, hkn]; omega

theorem gop_append {o : Oper} {x y : Operand} {t t2 : TypeId} {tail : List TypeId} {K : Out → Heap → Prop} (ho : ∃ c, o.op = .call c ∧ c.callee = .builtin .append ∧ c.args.toList = [x, y] ∧ c.argTypes.toList = t :: t2 :: tail)
    (hax : avt (opv fr x)) (hay : avt (opv fr y)) (h : appendP P σ t t2 (sv (opv fr x)) (sv (opv fr y)) fun V σ' => K (.val V) σ') : gop P rd n o fr σ K := by
  obtain ⟨c, ho, hcal, hargs, hts⟩ := ho
  obtain ⟨callee, args, argTypes⟩ := c
  simp only at hcal hargs hts
  subst hcal
  have e3 : args = #[x, y] := by rw [← Array.toArray_toList (xs := args), hargs]
  have e4 : argTypes[0]? = some t := by rw [← Array.getElem?_toList, hts]; rfl
  have e5 : argTypes[1]? = some t2 := by rw [← Array.getElem?_toList, hts]; rfl
  subst e3
  intro G W A r m _ h2 h3 next Q hn _
  have vx := sv_rel (opv_rel h3 x) hax
  have vy := sv_rel (opv_rel h3 y) hay
  have key : (∃ V σ' G' W' v, (Builtin.append_ argTypes o.type #[A.eval x, A.eval y]).run P W = .ok v W' ∧ K (.val V) σ' ∧ Evol G W σ G' W' σ' ∧ HRel G' W' σ' ∧ VRel G' W' V v) → o.wpIn (FW r) m P A W next Q := by
    rintro ⟨V, σ', G', W', v, r1, r2, r3, r4, r5⟩
    refine wpIn_value (fun c hd => by rw [ho] at hd; cases hd) (v := v) (W' := W') ?_ (hn _ _ _ _ _ r2 r3 r4 r5)
    simp only [execOp, ho, resolve, Sem.run_bind, Sem.run_pure, Result.andThen_ok, invoke, builtin]
    rw [show Array.map A.eval #[x, y] = #[A.eval x, A.eval y] by simp]
    simp [r1]
  refine key ?_
  generalize A.eval x = u at vx
  generalize A.eval y = w at vy
  generalize sv (opv fr x) = X at vx h
  generalize sv (opv fr y) = Y at vy h
  unfold appendP at h
  split at h
  · rename_i b zs he
    obtain ⟨e, i, ht, hi, rfl, hz, hzl⟩ := elemB_some he
    obtain ⟨h1, hb, hne, dy, dx, hmax, h⟩ := h
    split at h
    · rename_i id0 k off len
      obtain ⟨h5, h6, h7⟩ := h
      split at h5
      · rename_i cs hcs
        have hk : k = zs.length := by simp only [yv, hcs] at dx; exact dx.1
        subst hk
        have ec : (yv σ zs.length (.msl id0 zs.length off len false)).cs = cs.drop off := by
          simp only [yv, hcs]; rw [List.take_of_length_le]; simp; omega
        have en : (yv σ zs.length (.msl id0 zs.length off len false)).n = len := by simp only [yv, hcs]
        rw [ec] at h7
        rw [en] at hmax
        exact append_own h2 e4 e5 h1 ht hi hz hzl hne hb vx vy hcs h5 dy hmax h6 h7
      · exact h5.elim
    · cases vx
      exact append_full h2 e4 e5 h1 ht hi hz hzl hne hb (.lit _) vy dx dy hmax h.1 h.2
    · rename_i rows
      have vx0 := vx
      cases vx with
      | nilsl _ base cap hcap =>
        have := hcap rfl
        subst this
        exact append_full h2 e4 e5 h1 ht hi hz hzl hne hb vx0 vy dx dy hmax h.1 h.2
      | slice _ _ b off len cap k cv g1 g2 g3 g4 g5 g6 g7 =>
      have := g4 rfl
      subst this
      exact append_full h2 e4 e5 h1 ht hi hz hzl hne hb vx0 vy dx dy hmax h.1 h.2
    · have vx0 := vx
      cases vx with
      | msl _ _ _ _ cap R δ n b off' _ e' q1 q2 q3 q4 q5 q6 q7 =>
      have := q4 rfl
      subst this
      exact append_full h2 e4 e5 h1 ht hi hz hzl hne hb vx0 vy dx dy hmax h.1 h.2
    · exact h.elim
  · exact h.elim
end
end Go.Lo
