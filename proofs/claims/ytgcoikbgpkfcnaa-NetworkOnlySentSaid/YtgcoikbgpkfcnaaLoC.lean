/-
  The program logic 'Lo', part C: addresses, loads, parts of values, builders; 'ev' as a whole. Nothing of the program.
-/
import Derived.Test.YtgcoikbgpkfcnaaLoB
import Derived.Laws.BytesString
set_option linter.unusedSimpArgs false
set_option linter.unusedVariables false
namespace Go.Lo
open Go

section
variable {P : Program} {G : Gh} {W : World} {σ : Heap} {fr : Fr} {n : Nat} {A : Act}

/-! ### Reading cells -/
theorem add_cell (b off i : Nat) : (⟨b, off, none⟩ : Addr).add i = ⟨b, off + i, none⟩ := by
  unfold Addr.add
  by_cases h : i = 0 <;> simp [h]

theorem loadCells_run {b off : Nat} (cv : Nat → Value) : ∀ (m i : Nat) (acc : Array Value), (∀ j, j < m → W.cell? ⟨b, off + (i + j), none⟩ = some (cv (i + j))) →
    (loadCellsFrom ⟨b, off, none⟩ i m acc).run P W = .ok (acc ++ ((List.range m).map fun j => cv (i + j)).toArray) W := by
  intro m
  induction m with
  | zero => intro i acc _; simp [loadCellsFrom, go_sem]
  | succ m ih =>
    intro i acc h
    have h0 := h 0 (by omega)
    simp only [Nat.add_zero] at h0
    simp only [loadCellsFrom, Sem.run_bind, add_cell, load, Sem.run, h0, Result.andThen_ok]
    rw [ih (i + 1) (acc.push (cv i)) (fun j hj => by have := h (j + 1) (by omega); rw [show i + 1 + j = i + (j + 1) by omega]; exact this)]
    congr 1
    rw [List.range_succ_eq_map]
    simp [Function.comp_def, Nat.add_assoc, Nat.add_comm 1]

/-! ### Conversions -/
def isB : List PV → Bool
  | [.lit (.int .u8 _)] => true
  | _ => false
def valB : List PV → Int
  | [.lit (.int _ n)] => n
  | _ => 0
/-- The bytes of rows. -/
def strB (rows : List (List PV)) : ByteArray := (rows.map valB).foldl (fun r n => r.push (UInt8.ofNat n.toNat)) ByteArray.empty
def evConv (P : Program) (src dst : TypeId) (a : PV) : EV :=
  match a, P.underlying src, P.underlying dst with
  | .lit (.int _ n), some _, some (.int k) => ⟨True, .lit (.int k (k.wrap n))⟩
  | .lit (.string s), some .string, some .string => ⟨True, .lit (.string s)⟩
  | .slice _ rows, some (.slice e), some .string => ⟨P.underlying e = some (.int .u8) ∧ rows.all isB = true, .lit (.string (strB rows))⟩
  | .lit (.slice none 0 0), some (.slice e), some .string => ⟨P.underlying e = some (.int .u8), .lit (.string ByteArray.empty)⟩
  | _, _, _ => .no
theorem isB_inv {r : List PV} (h : isB r = true) : ∃ n, r = [.lit (.int .u8 n)] ∧ valB r = n := by
  unfold isB at h
  split at h
  · exact ⟨_, rfl, rfl⟩
  · cases h
theorem bytes_run {full : Bool} {rows : List (List PV)} {v : Value} (hv : VRel G W (.slice full rows) v) (hb : rows.all isB = true) : (Conv.bytesToString v).run P W = .ok (.string (strB rows)) W := by
  cases hv with
  | nilsl _ base cap _ =>
    cases base with
    | none => simp [Conv.bytesToString, strB, go_sem]
    | some a =>
      rw [run_bytesToString W a 0 cap [] (by simp [loadCells, loadCellsFrom, go_sem])]
      rfl
  | slice _ _ b off len cap k cv h1 h2 h3 h4 h5 h6 h7 =>
    subst h1
    rcases Nat.eq_zero_or_pos rows.length with h0 | h0
    · have : rows = [] := List.length_eq_zero_iff.1 h0
      subst this
      rw [List.length_nil, run_bytesToString W _ 0 cap [] (by simp [loadCells, loadCellsFrom, go_sem])]
      rfl
    · rw [List.all_eq_true] at hb
      have hk : k = 1 := by
        have := h5 0 h0
        obtain ⟨n, e, _⟩ := isB_inv (hb _ (List.getElem_mem h0))
        rw [List.getD_eq_getElem?_getD, List.getElem?_eq_getElem h0, Option.getD_some, e] at this
        simpa using this.symm
      subst hk
      have hcv : ∀ i (hi : i < rows.length), cv i = .int .u8 (valB rows[i]) := fun i hi => by
        have := h7 i 0 hi (by omega)
        obtain ⟨n, e, e2⟩ := isB_inv (hb _ (List.getElem_mem hi))
        rw [List.getD_eq_getElem?_getD (l := rows), List.getElem?_eq_getElem hi, Option.getD_some, e] at this
        simp only [Nat.mul_one, Nat.add_zero] at this
        rw [e2]
        exact lit_inv this
      have hl : (loadCells ⟨b, off, none⟩ rows.length).run P W = .ok ((rows.map valB).map (Value.int .u8)).toArray W := by
        unfold loadCells
        rw [loadCells_run cv rows.length 0 #[] (fun j hj => by simpa using (h6 j (by omega)).2)]
        congr 1
        simp only [Nat.zero_add, List.map_map]
        rw [show (#[] : Array Value) ++ (List.map (fun j => cv j) (List.range rows.length)).toArray = (List.map (fun j => cv j) (List.range rows.length)).toArray by simp]
        congr 1
        refine List.ext_getElem (by simp) fun i q1 q2 => ?_
        simp only [List.getElem_map, List.getElem_range, Function.comp]
        exact hcv i (by simpa using q2)
      exact run_bytesToString W _ _ cap _ hl
theorem evConv_run {src dst : TypeId} {a : PV} {v : Value} (hv : VRel G W a v) (h : (evConv P src dst a).D) : ∃ u, (convert src dst v).run P W = .ok u W ∧ VRel G W (evConv P src dst a).V u := by
  unfold evConv at h ⊢
  split at h
  · rename_i n s k hs hd
    cases hv
    refine ⟨_, ?_, .lit _⟩
    simp only [convert, Sem.run_bind, run_underlying hs, run_underlying hd, Result.andThen_ok, Conv.intToInt]
    cases s <;> rfl
  · rename_i s hs hd
    cases hv
    refine ⟨_, ?_, .lit _⟩
    simp only [convert, Sem.run_bind, run_underlying hs, run_underlying hd, Result.andThen_ok]
    rfl
  · rename_i full rows e hs hd
    have hr := bytes_run (P := P) hv h.2
    obtain ⟨base, l, c, rfl⟩ : ∃ base l c, v = .slice base l c := by cases hv <;> exact ⟨_, _, _, rfl⟩
    exact ⟨_, by rw [run_convert_bytes_string W src dst e base l c hs h.1 hd]; exact hr, .lit _⟩
  · rename_i e hs hd
    cases hv
    exact ⟨_, by rw [run_convert_bytes_string W src dst e none 0 0 hs h hd]; simp [Conv.bytesToString, go_sem], .lit _⟩
  · exact h.elim

theorem load_run {a : Addr} {v : Value} (h : W.cell? a = some v) : (Go.load a).run P W = .ok v W := by simp [Go.load, Sem.run, h]

theorem getD_toArray_map (f : Nat → Value) (m i : Nat) (hi : i < m) : (((List.range m).map f).toArray).getD i undef = f i := by
  simp [hi]

/-! ### Fields -/
def evFA (P : Program) (t : TypeId) (x : PV) (f : Nat) : EV :=
  match fldT P t f, x with
  | some (o, sz, _), .ref cs => ⟨sz ≠ 0, .ref (cs.drop o)⟩
  | some (o, sz, _), .ptr id off => ⟨sz ≠ 0, .ptr id (off + o)⟩
  | _, _ => .no

theorem fldT_some {t : TypeId} {f o sz : Nat} {ag : Bool} (h : fldT P t f = some (o, sz, ag)) : ∃ fs x, P.underlying t = some (.struct fs) ∧ fs[f]? = some x ∧ inf P x.type = some (sz, ag) ∧ x.offset = o := by
  unfold fldT at h
  split at h
  · rename_i fs ht
    split at h
    · rename_i x hx
      cases hi : inf P x.type with
      | none => simp [hi] at h
      | some i => simp [hi] at h; exact ⟨fs, x, ht, hx, by rw [hi, ← h.2.1, ← h.2.2], h.1⟩
    · cases h
  · cases h

theorem getD_drop (cs : List PV) (o j : Nat) : (cs.drop o).getD j .any = cs.getD (o + j) .any := by
  simp [List.getD]

theorem VRel.ref_drop {cs : List PV} {v : Value} (h : VRel G W (.ref cs) v) (o : Nat) : ∃ b off, v = .pointer (some ⟨b, off, none⟩) ∧ VRel G W (.ref (cs.drop o)) (.pointer (some ⟨b, off + o, none⟩)) := by
  cases h with
  | ref _ b off cv h1 h2 =>
    refine ⟨b, off, rfl, .ref _ b (off + o) (fun j => cv (o + j)) (fun j hj => ?_) (fun j hj => ?_)⟩
    · rw [List.length_drop] at hj
      have := h1 (o + j) (by omega)
      rw [Nat.add_assoc]; exact this
    · rw [List.length_drop] at hj
      rw [getD_drop]; exact h2 (o + j) (by omega)

theorem evFA_run {t : TypeId} {f : Nat} {x : PV} {v : Value} (hv : VRel G W x v) (h : (evFA P t x f).D) : ∃ u, (Instr.fieldAt t v f).run P W = .ok u W ∧ VRel G W (evFA P t x f).V u := by
  unfold evFA at h ⊢
  split at h
  · rename_i o sz ag cs hf
    obtain ⟨fs, y, h1, h2, h3, h4⟩ := fldT_some hf
    obtain ⟨b, off, rfl, hr⟩ := hv.ref_drop o
    have h : sz ≠ 0 := h
    refine ⟨_, ?_, hr⟩
    simp [Instr.fieldAt, Instr.sureAddr, Sem.run_bind, run_underlying h1, h2, fieldPlace, inf_size h3, h, h4, add_cell]
  · rename_i o sz ag id off hf
    obtain ⟨fs, y, h1, h2, h3, h4⟩ := fldT_some hf
    cases hv with
    | ptr _ _ R δ hb =>
    have h : sz ≠ 0 := h
    refine ⟨_, ?_, .ptr id (off + o) R δ hb⟩
    simp [Instr.fieldAt, Instr.sureAddr, Sem.run_bind, run_underlying h1, h2, fieldPlace, inf_size h3, h, h4, add_cell, Nat.add_assoc]
  · exact h.elim

def evF (P : Program) (t : TypeId) (x : PV) (f : Nat) : EV :=
  match fldT P t f, x with
  | some (o, sz, true), .agg cs => ⟨o + sz ≤ cs.length, .agg ((cs.drop o).take sz)⟩
  | some (o, _, false), .agg cs => ⟨o < cs.length, cs.getD o .any⟩
  | _, _ => .no

theorem VRel.agg_part {cs : List PV} {vs : Array Value} (h1 : vs.size = cs.length) (h2 : ∀ i, i < cs.length → VRel G W (cs.getD i .any) (vs.getD i undef)) {o sz : Nat} (h : o + sz ≤ cs.length) :
    VRel G W (.agg ((cs.drop o).take sz)) (.agg (vs.extract o (o + sz))) := by
  refine .agg _ _ ?_ ?_
  · simp; omega
  · intro i hi
    simp at hi
    have := h2 (o + i) (by omega)
    have e1 : ((cs.drop o).take sz).getD i .any = cs.getD (o + i) .any := by
      simp only [List.getD, List.getElem?_take, List.getElem?_drop]
      rw [if_pos (by omega)]
    have e2 : (vs.extract o (o + sz)).getD i undef = vs.getD (o + i) undef := by
      have hx : i < (vs.extract o (o + sz)).size := by simp; omega
      have hy : o + i < vs.size := by omega
      rw [Array.getD_eq_getD_getElem?, Array.getD_eq_getD_getElem?, Array.getElem?_eq_getElem hx, Array.getElem?_eq_getElem hy]
      simp
    rw [e1, e2]; exact this

theorem part_run {t : TypeId} {sz o : Nat} {ag : Bool} {cs : List PV} {vs : Array Value} (hi : inf P t = some (sz, ag)) (h1 : vs.size = cs.length) (h2 : ∀ i, i < cs.length → VRel G W (cs.getD i .any) (vs.getD i undef))
    (h : if ag then o + sz ≤ cs.length else o < cs.length) : ∃ u, (part t vs o).run P W = .ok u W ∧ VRel G W (if ag then .agg ((cs.drop o).take sz) else cs.getD o .any) u := by
  cases ag with
  | true =>
    simp only [if_true] at h ⊢
    exact ⟨_, by simp [part, Sem.run_bind, inf_agg hi, inf_size hi], VRel.agg_part h1 h2 h⟩
  | false =>
    simp only [Bool.false_eq_true, if_false] at h ⊢
    have hlt : o < vs.size := by omega
    refine ⟨_, by simp [part, Sem.run_bind, inf_agg hi, hlt, go_sem]; rfl, ?_⟩
    have := h2 o h
    simpa [hlt] using this

theorem evF_run {t : TypeId} {f : Nat} {x : PV} {v : Value} (hv : VRel G W x v) (h : (evF P t x f).D) : ∃ u, (Instr.field t v f).run P W = .ok u W ∧ VRel G W (evF P t x f).V u := by
  unfold evF at h ⊢
  split at h
  · rename_i o sz cs hf
    obtain ⟨fs, y, h1, h2, h3, h4⟩ := fldT_some hf
    cases hv with
    | agg _ vs g1 g2 =>
    obtain ⟨u, r1, r2⟩ := part_run (P := P) (o := o) h3 g1 g2 (by simpa using h)
    refine ⟨u, ?_, by simpa using r2⟩
    simp only [Instr.field, Sem.run_bind, run_underlying h1, Result.andThen_ok, h2, asAgg, Sem.run_pure, h4]
    exact r1
  · rename_i o sz cs hf
    obtain ⟨fs, y, h1, h2, h3, h4⟩ := fldT_some hf
    cases hv with
    | agg _ vs g1 g2 =>
    obtain ⟨u, r1, r2⟩ := part_run (P := P) (o := o) h3 g1 g2 (by simpa using h)
    refine ⟨u, ?_, by simpa using r2⟩
    simp only [Instr.field, Sem.run_bind, run_underlying h1, Result.andThen_ok, h2, asAgg, Sem.run_pure, h4]
    exact r1
  · exact h.elim

/-! ### Indexes -/
theorem ixi_slice {t : TypeId} {sz : Nat} {ag : Bool} (h : ixi P t = some (none, sz, ag)) : ∃ e, P.underlying t = some (.slice e) ∧ inf P e = some (sz, ag) := by
  unfold ixi at h
  split at h
  · rename_i e ht
    cases hi : inf P e with
    | none => simp [hi] at h
    | some i => simp [hi] at h; exact ⟨e, ht, by rw [hi, ← h.1, ← h.2]⟩
  · rename_i m e ht
    cases hi : inf P e with
    | none => simp [hi] at h
    | some i => simp [hi] at h
  · cases h
theorem ixi_array {t : TypeId} {m sz : Nat} {ag : Bool} (h : ixi P t = some (some m, sz, ag)) : ∃ e, P.underlying t = some (.array m e) ∧ inf P e = some (sz, ag) := by
  unfold ixi at h
  split at h
  · rename_i e ht
    cases hi : inf P e with
    | none => simp [hi] at h
    | some i => simp [hi] at h
  · rename_i m' e ht
    cases hi : inf P e with
    | none => simp [hi] at h
    | some i => simp [hi] at h; obtain ⟨rfl, h1, h2⟩ := h; exact ⟨e, ht, by rw [hi, ← h1, ← h2]⟩
  · cases h

def evIA (P : Program) (t : TypeId) (x i : PV) : EV :=
  match ixi P t, x, i with
  | some (none, sz, _), .slice _ rows, .lit (.int _ z) => ⟨0 ≤ z ∧ z < rows.length ∧ (rows.getD z.toNat []).length = sz, .ref (rows.getD z.toNat [])⟩
  | some (none, sz, _), .msl id k off len _, .lit (.int _ z) => ⟨0 ≤ z ∧ z < len ∧ k = sz, .ptr id (off + z.toNat * sz)⟩
  | some (some m, sz, _), .ptr id off, .lit (.int _ z) => ⟨0 ≤ z ∧ z < m, .ptr id (off + z.toNat * sz)⟩
  | some (some m, sz, _), .ref cs, .lit (.int _ z) => ⟨0 ≤ z ∧ z < m, .ref (cs.drop (z.toNat * sz))⟩
  | _, _, _ => .no

theorem VRel.row {full : Bool} {rows : List (List PV)} {v : Value} (h : VRel G W (.slice full rows) v) {i : Nat} (hi : i < rows.length) :
    ∃ b off cap, v = .slice (some ⟨b, off, none⟩) rows.length cap ∧ VRel G W (.ref (rows.getD i [])) (.pointer (some ⟨b, off + i * (rows.getD i []).length, none⟩)) := by
  cases h with
  | nilsl => exact absurd hi (Nat.not_lt_zero _)
  | slice _ _ b off len cap k cv h1 h2 h3 h4 h5 h6 h7 =>
    subst h1
    refine ⟨b, off, cap, rfl, ?_⟩
    rw [h5 i hi]
    refine .ref _ _ _ (fun j => cv (i * k + j)) (fun j hj => ?_) (fun j hj => ?_)
    · rw [h5 i hi] at hj
      have hlt : i * k + j < rows.length * k := by
        have : (i + 1) * k ≤ rows.length * k := Nat.mul_le_mul_right k hi
        rw [Nat.add_mul] at this; omega
      have := h6 _ hlt
      rw [Nat.add_assoc]; exact this
    · rw [h5 i hi] at hj
      exact h7 i j hi hj

theorem indexAt_slice {t e : TypeId} {sz : Nat} {ag : Bool} {b off len cap : Nat} {k : IntKind} {z : Int} (ht : P.underlying t = some (.slice e)) (hi : inf P e = some (sz, ag)) (h0 : 0 ≤ z) (h1 : z < len) :
    (Instr.indexAt t (.slice (some ⟨b, off, none⟩) len cap) (.int k z)).run P W = .ok (.pointer (some ⟨b, off + z.toNat * sz, none⟩)) W := by
  simp [Instr.indexAt, asIntOf, Sem.run_bind, run_underlying ht, h0, h1, inf_size hi, add_cell, go_sem]
theorem indexAt_array {t e : TypeId} {sz m : Nat} {ag : Bool} {b off : Nat} {k : IntKind} {z : Int} (ht : P.underlying t = some (.array m e)) (hi : inf P e = some (sz, ag)) (h0 : 0 ≤ z) (h1 : z < m) :
    (Instr.indexAt t (.pointer (some ⟨b, off, none⟩)) (.int k z)).run P W = .ok (.pointer (some ⟨b, off + z.toNat * sz, none⟩)) W := by
  simp [Instr.indexAt, asIntOf, Instr.sureAddr, Sem.run_bind, run_underlying ht, h0, h1, inf_size hi, add_cell, go_sem]

theorem evIA_run {t : TypeId} {x i : PV} {v w : Value} (hv : VRel G W x v) (hw : VRel G W i w) (h : (evIA P t x i).D) : ∃ u, (Instr.indexAt t v w).run P W = .ok u W ∧ VRel G W (evIA P t x i).V u := by
  unfold evIA at h ⊢
  split at h
  · rename_i sz ag full rows k z hx
    obtain ⟨e, ht, hi⟩ := ixi_slice hx
    cases hw
    obtain ⟨h0, h1, h2⟩ := h
    have hz : z.toNat < rows.length := by omega
    obtain ⟨b, off, cap, rfl, hr⟩ := hv.row hz
    rw [h2] at hr
    exact ⟨_, indexAt_slice ht hi h0 h1, hr⟩
  · rename_i sz ag id k' off len full k z hx
    obtain ⟨e, ht, hi⟩ := ixi_slice hx
    cases hw
    obtain ⟨h0, h1, h2⟩ := h
    cases hv with
    | msl _ _ _ _ cap R δ n b off' _ e' hb g1 g2 g3 g4 g5 g6 =>
    obtain ⟨rfl, rfl⟩ := g4 (by omega)
    refine ⟨_, indexAt_slice ht hi h0 h1, ?_⟩
    rw [Nat.add_assoc]; exact .ptr _ _ _ δ hb
  · rename_i m sz ag id off k z hx
    obtain ⟨e, ht, hi⟩ := ixi_array hx
    cases hw
    obtain ⟨h0, h1⟩ := h
    cases hv with
    | ptr _ _ R δ hb =>
    refine ⟨_, indexAt_array ht hi h0 h1, ?_⟩
    rw [Nat.add_assoc]; exact .ptr _ _ R δ hb
  · rename_i m sz ag cs k z hx
    obtain ⟨e, ht, hi⟩ := ixi_array hx
    cases hw
    obtain ⟨h0, h1⟩ := h
    obtain ⟨b, off, rfl, hr⟩ := hv.ref_drop (z.toNat * sz)
    exact ⟨_, indexAt_array ht hi h0 h1, hr⟩
  · exact h.elim

def evI (P : Program) (t : TypeId) (x i : PV) : EV :=
  match ixi P t, x, i with
  | some (some m, sz, true), .agg cs, .lit (.int _ z) => ⟨0 ≤ z ∧ z < m ∧ z.toNat * sz + sz ≤ cs.length, .agg ((cs.drop (z.toNat * sz)).take sz)⟩
  | some (some m, sz, false), .agg cs, .lit (.int _ z) => ⟨0 ≤ z ∧ z < m ∧ z.toNat * sz < cs.length, cs.getD (z.toNat * sz) .any⟩
  | _, .lit (.string s), .lit (.int _ z) => ⟨P.underlying t = some .string ∧ 0 ≤ z ∧ z < s.size, .lit (.int .u8 (s.data.getD z.toNat 0).toNat)⟩
  | _, _, _ => .no

theorem evI_run {t : TypeId} {x i : PV} {v w : Value} (hv : VRel G W x v) (hw : VRel G W i w) (h : (evI P t x i).D) : ∃ u, (Instr.index t v w).run P W = .ok u W ∧ VRel G W (evI P t x i).V u := by
  unfold evI at h ⊢
  split at h
  · rename_i m sz cs k z hx
    obtain ⟨e, ht, hi⟩ := ixi_array hx
    cases hw
    obtain ⟨h0, h1, h2⟩ := h
    cases hv with
    | agg _ vs g1 g2 =>
    obtain ⟨u, r1, r2⟩ := part_run (P := P) (o := z.toNat * sz) hi g1 g2 (by simpa using h2)
    refine ⟨u, ?_, by simpa using r2⟩
    simp only [Instr.index, asIntOf, Sem.run_bind, Sem.run_pure, Result.andThen_ok, run_underlying ht]
    rw [if_pos ⟨h0, h1⟩, Sem.run_bind, inf_size hi, Result.andThen_ok]
    exact r1
  · rename_i m sz cs k z hx
    obtain ⟨e, ht, hi⟩ := ixi_array hx
    cases hw
    obtain ⟨h0, h1, h2⟩ := h
    cases hv with
    | agg _ vs g1 g2 =>
    obtain ⟨u, r1, r2⟩ := part_run (P := P) (o := z.toNat * sz) hi g1 g2 (by simpa using h2)
    refine ⟨u, ?_, by simpa using r2⟩
    simp only [Instr.index, asIntOf, Sem.run_bind, Sem.run_pure, Result.andThen_ok, run_underlying ht]
    rw [if_pos ⟨h0, h1⟩, Sem.run_bind, inf_size hi, Result.andThen_ok]
    exact r1
  · rename_i s k z
    cases hw
    cases hv
    obtain ⟨ht, h0, h1⟩ := h
    refine ⟨_, ?_, .lit _⟩
    have hz : z.toNat < s.size := by omega
    have e1 : s[z.toNat]? = some (s.data.getD z.toNat 0) := by
      have hz' : z.toNat < s.data.size := hz
      show (if h : z.toNat < s.size then some s[z.toNat] else none) = _
      rw [dif_pos hz]
      simp [ByteArray.getElem_eq_getElem_data, Array.getElem?_eq_getElem hz']
    simp only [Instr.index, asIntOf, Sem.run_bind, Sem.run_pure, Result.andThen_ok, run_underlying ht, h0, if_true, e1]
  · exact h.elim

/-! ### Loads -/
def evL (P : Program) (σ : Heap) (t : TypeId) (x : PV) : EV :=
  match inf P t, x with
  | some (sz, true), .ref cs => ⟨sz ≤ cs.length, .agg (cs.take sz)⟩
  | some (_, false), .ref cs => ⟨0 < cs.length, cs.getD 0 .any⟩
  | some (sz, true), .ptr id off => match σ id with
    | some (.cells cs) => ⟨off + sz ≤ cs.length, .agg ((cs.drop off).take sz)⟩
    | _ => .no
  | some (_, false), .ptr id off => match σ id with
    | some (.cells cs) => ⟨off < cs.length, cs.getD off .any⟩
    | _ => .no
  | _, _ => .no

theorem loadVar_agg {t : TypeId} {sz b off : Nat} (hi : inf P t = some (sz, true)) (cv : Nat → Value) (h : ∀ j, j < sz → W.cell? ⟨b, off + j, none⟩ = some (cv j)) :
    (Instr.loadAt t (.pointer (some ⟨b, off, none⟩))).run P W = .ok (.agg ((List.range sz).map cv).toArray) W := by
  simp only [Instr.loadAt, Instr.sureAddr, loadVar, Sem.run_bind, Sem.run_pure, Result.andThen_ok, inf_agg hi, if_true, inf_size hi, loadCells]
  rw [loadCells_run cv sz 0 #[] (fun j hj => by simpa using h j hj)]
  simp
theorem loadVar_one {t : TypeId} {sz b off : Nat} {v : Value} (hi : inf P t = some (sz, false)) (h : W.cell? ⟨b, off, none⟩ = some v) :
    (Instr.loadAt t (.pointer (some ⟨b, off, none⟩))).run P W = .ok v W := by
  simp only [Instr.loadAt, Instr.sureAddr, loadVar, Sem.run_bind, Sem.run_pure, Result.andThen_ok, inf_agg hi, Bool.false_eq_true, if_false]
  exact load_run h

theorem VRel.agg_range {cs : List PV} {m : Nat} (cv : Nat → Value) (hl : cs.length = m) (h : ∀ j, j < m → VRel G W (cs.getD j .any) (cv j)) : VRel G W (.agg cs) (.agg ((List.range m).map cv).toArray) :=
  .agg _ _ (by simp [hl]) fun i hi => by rw [getD_toArray_map cv m i (by omega)]; exact h i (by omega)

theorem ORel.cell {cs : List PV} {loc : Nat × Nat} (h : ORel G W loc (.cells cs)) : ∃ cv : Nat → Value, ∀ j, j < cs.length → W.cell? ⟨loc.1, loc.2 + j, none⟩ = some (cv j) ∧ VRel G W (cs.getD j .any) (cv j) := by
  obtain ⟨arr, e, h1, h2, h3⟩ := h
  refine ⟨fun j => arr.getD (loc.2 + j) undef, fun j hj => ⟨?_, h3 j hj⟩⟩
  have : loc.2 + j < arr.size := by omega
  simp [World.cell?, h1, this]

theorem getD_take (cs : List PV) (m j : Nat) (h : j < m) : (cs.take m).getD j .any = cs.getD j .any := by
  simp [List.getD, h]

theorem evL_run (hr : HRel G W σ) {t : TypeId} {x : PV} {v : Value} (hv : VRel G W x v) (h : (evL P σ t x).D) : ∃ u, (Instr.loadAt t v).run P W = .ok u W ∧ VRel G W (evL P σ t x).V u := by
  unfold evL at h ⊢
  split at h
  · rename_i sz cs hi
    have h : sz ≤ cs.length := h
    cases hv with
    | ref _ b off cv g1 g2 =>
    exact ⟨_, loadVar_agg hi cv (fun j hj => (g1 j (by omega)).2), VRel.agg_range cv (by simp; omega) fun j hj => by rw [getD_take _ _ _ hj]; exact g2 j (by omega)⟩
  · rename_i sz cs hi
    have h : 0 < cs.length := h
    cases hv with
    | ref _ b off cv g1 g2 =>
    exact ⟨_, loadVar_one hi (g1 0 h).2, g2 0 h⟩
  · rename_i sz id off hi
    cases hv with
    | ptr _ _ R δ hb =>
    split at h
    · rename_i cs ho
      have h : off + sz ≤ cs.length := h
      obtain ⟨loc, hl, horel, _⟩ := hr.obj id _ ho
      rw [hb] at hl; cases hl
      obtain ⟨cv, hc⟩ := horel.cell
      refine ⟨_, loadVar_agg hi (fun j => cv (off + j)) (fun j hj => by rw [Nat.add_assoc]; exact (hc (off + j) (by omega)).1), VRel.agg_range _ (by simp; omega) fun j hj => ?_⟩
      rw [getD_take _ _ _ hj, getD_drop]; exact (hc (off + j) (by omega)).2
    · exact h.elim
  · rename_i sz id off hi
    cases hv with
    | ptr _ _ R δ hb =>
    split at h
    · rename_i cs ho
      have h : off < cs.length := h
      obtain ⟨loc, hl, horel, _⟩ := hr.obj id _ ho
      rw [hb] at hl; cases hl
      obtain ⟨cv, hc⟩ := horel.cell
      exact ⟨_, loadVar_one hi (hc off h).1, (hc off h).2⟩
    · exact h.elim
  · exact h.elim
end
end Go.Lo
