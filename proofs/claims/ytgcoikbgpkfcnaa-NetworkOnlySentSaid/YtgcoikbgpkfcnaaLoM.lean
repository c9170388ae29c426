/-
  The program logic 'Lo', part M: memory that nobody writes any more goes inline. Nothing of the program.
-/
import Derived.Test.YtgcoikbgpkfcnaaLoL
set_option linter.unusedSimpArgs false
set_option linter.unusedVariables false
namespace Go.Lo
open Go

def chunks (k len : Nat) (cs : List PV) : List (List PV) := (List.range len).map fun i => (cs.drop (i * k)).take k
def frzN : Nat → Heap → PV → PV
  | 0, _, v => v
  | n + 1, σ, v => match v with
    | .ptr id off => match σ id with
      | some (.cells cs) => .ref ((cs.drop off).map (frzN n σ))
      | _ => .ptr id off
    | .msl id k off len full => match σ id with
      | some (.cells cs) => if off + len * k ≤ cs.length then .slice full (chunks k len ((cs.drop off).map (frzN n σ))) else .msl id k off len full
      | _ => .msl id k off len full
    | .fn f a b => .fn f (a.map (frzN n σ)) (b.map (frzN n σ))
    | .tup vs => .tup (vs.map (frzN n σ))
    | .agg vs => .agg (vs.map (frzN n σ))
    | .gd g v => .gd g (frzN n σ v)
    | .iface t v => .iface t (frzN n σ v)
    | .slice full rows => .slice full (rows.map fun r => r.map (frzN n σ))
    | .ref cs => .ref (cs.map (frzN n σ))
    | v => v
def Heap.minus (σ σf : Heap) : Heap := fun id => if (σf id).isSome then none else σ id
theorem Heap.minus_apply (σ σf : Heap) (id : Nat) : (σ.minus σf) id = if (σf id).isSome then none else σ id := rfl

/-- The part that is frozen. -/
structure Frz (σf σ : Heap) : Prop where
  sub : ∀ id x, σf id = some x → σ id = some x
  cells : ∀ id x, σf id = some x → ∃ cs, x = .cells cs

section
variable {G : Gh} {W : World} {σ σf : Heap}

def Gh.frz (G : Gh) (σf : Heap) : Gh := { G with S := fun b o => G.S b o ∨ ∃ id cs loc j, σf id = some (.cells cs) ∧ G.β id = some loc ∧ loc.1 = b ∧ j < cs.length ∧ o = loc.2 + j }

theorem frz_step (hr : HRel G W σ) (hf : Frz σf σ) : HRel (G.frz σf) W (σ.minus σf) ∧ Evol G W σ (G.frz σf) W (σ.minus σf) := by
  have sub : ∀ id x, (σ.minus σf) id = some x → σ id = some x ∧ σf id = none := fun id x hx => by
    unfold Heap.minus at hx
    cases hy : σf id with
    | none => rw [hy] at hx; simpa using hx
    | some y => rw [hy] at hx; simp at hx
  have dom : ∀ id, (σ.minus σf) id ≠ none → σ id ≠ none := fun id hid => by
    obtain ⟨x, hx⟩ := some_of_ne hid
    rw [(sub id x hx).1]; simp
  refine ⟨⟨fun id x hx => ?_, fun id id' l l' h1 h2 => hr.inj id id' l l' (dom id h1) (dom id' h2), fun b o hs => ?_, hr.bnd⟩, ?_⟩
  · obtain ⟨s1, s2⟩ := sub id x hx
    obtain ⟨loc, l1, l2, l3⟩ := hr.obj id x s1
    refine ⟨loc, l1, l2.mono (show Ext G W (G.frz σf) W from ⟨fun _ _ h => Or.inl h, fun _ _ _ => rfl, fun _ _ h => h, fun _ _ h => h⟩) rfl, fun off hs => ?_⟩
    rcases hs with hs | ⟨id', cs, loc', j, q1, q2, q3, q4, q5⟩
    · exact l3 off hs
    · have := hr.inj id id' loc loc' (by rw [s1]; simp) (by rw [hf.sub _ _ q1]; simp) l1 q2 q3.symm
      subst this
      rw [s2] at q1; cases q1
  · rcases hs with hs | ⟨id', cs, loc', j, q1, q2, q3, q4, q5⟩
    · exact hr.stab b o hs
    · obtain ⟨loc, l1, l2, _⟩ := hr.obj id' _ (hf.sub _ _ q1)
      rw [q2] at l1; cases l1
      obtain ⟨cv, hc⟩ := l2.cell
      subst q3; subst q5
      exact ⟨_, (hc j q4).1⟩
  · exact
    { os := rfl, tape := rfl, output := rfl, size := Nat.le_refl _, keep := fun _ _ _ => rfl, shape := fun _ _ h => h, S := fun _ _ h => .inl h
      snew := fun b o hs => by
        rcases hs with hs | ⟨id', cs, loc', j, q1, q2, q3, q4, q5⟩
        · exact .inl hs
        · exact .inr (.inr ⟨id', loc', by rw [hf.sub _ _ q1]; simp, q2, q3⟩)
      β := fun _ _ h => h
      own := fun b ⟨id, loc, h1, h2, h3⟩ => .inr ⟨id, loc, dom id h1, h2, h3⟩
      fresh := fun id h => .inl (dom id h) }

theorem getD_map' {α : Type} (f : α → PV) (xs : List α) (d : α) (j : Nat) (h : j < xs.length) : (xs.map f).getD j .any = f (xs.getD j d) := by
  simp [List.getD, h]

theorem chunks_getD {k len i j : Nat} {cs : List PV} (hi : i < len) (hj : j < k) (hc : len * k ≤ cs.length) : ((chunks k len cs).getD i []).length = k ∧ ((chunks k len cs).getD i []).getD j .any = cs.getD (i * k + j) .any := by
  have h1 : (i + 1) * k ≤ len * k := Nat.mul_le_mul_right k (by omega)
  rw [Nat.add_mul, Nat.one_mul] at h1
  unfold chunks
  simp only [List.getD, List.getElem?_map, List.getElem?_range hi, Option.map_some, Option.getD_some]
  refine ⟨by simp; omega, ?_⟩
  rw [List.getElem?_take, if_pos hj, List.getElem?_drop]

theorem frzN_rel (hr : HRel G W σ) (hf : Frz σf σ) : ∀ (n : Nat) {v : PV} {x : Value}, VRel G W v x → VRel (G.frz σf) W (frzN n σf v) x := by
  have hE : Ext G W (G.frz σf) W := ⟨fun _ _ h => .inl h, fun _ _ _ => rfl, fun _ _ h => h, fun _ _ h => h⟩
  intro n
  induction n with
  | zero => intro v x h; exact h.mono hE
  | succ n ih =>
    intro v x h
    have lists : ∀ (cs : List PV) (g : Nat → Value), (∀ i, i < cs.length → VRel G W (cs.getD i .any) (g i)) → ∀ i, i < (cs.map (frzN n σf)).length → VRel (G.frz σf) W ((cs.map (frzN n σf)).getD i .any) (g i) := fun cs g hg i hi => by
      have hi' : i < cs.length := by simpa using hi
      rw [getD_map' _ _ .any _ hi']
      exact ih (hg i hi')
    cases h with
    | any v => exact .any _
    | lit v => exact .lit _
    | agg cs vs h1 h2 => exact .agg _ vs (by simp [h1]) (lists cs _ h2)
    | tup cs vs h1 h2 => exact .tup _ vs (by simp [h1]) (lists cs _ h2)
    | slice full rows b off len cap k cv h1 h2 h3 h4 h5 h6 h7 =>
      refine .slice full _ b off len cap k cv (by simp [h1]) h2 h3 h4 (fun i hi => ?_) (fun j hj => ⟨.inl (h6 j hj).1, (h6 j hj).2⟩) (fun i j hi hj => ?_)
      · have hi' : i < rows.length := by omega
        have := h5 i hi
        simpa [List.getD, hi'] using this
      · have hi' : i < rows.length := by omega
        have h8 := h5 i hi
        have e : (rows.map fun r => r.map (frzN n σf)).getD i [] = (rows.getD i []).map (frzN n σf) := by simp [List.getD, hi']
        rw [e, getD_map' _ _ .any _ (by omega)]
        exact ih (h7 i j hi hj)
    | nilsl full base cap h => exact .nilsl full base cap h
    | ref cs b off cv h6 h7 =>
      refine .ref _ b off cv (fun j hj => ?_) (lists cs cv h7)
      have hj' : j < cs.length := by simpa using hj
      exact ⟨.inl (h6 j hj').1, (h6 j hj').2⟩
    | ptr id o R δ h1 =>
      simp only [frzN]
      cases hc : σf id with
      | none => exact .ptr id o R δ h1
      | some ob =>
        obtain ⟨cs, rfl⟩ := hf.cells _ _ hc
        simp only
        obtain ⟨loc, l1, l2, _⟩ := hr.obj id _ (hf.sub _ _ hc)
        rw [h1] at l1; cases l1
        obtain ⟨cv, hcv⟩ := l2.cell
        refine .ref _ R (δ + o) (fun j => cv (o + j)) (fun j hj => ?_) (lists _ _ fun i hi => ?_)
        · have hj' : o + j < cs.length := by simp at hj; omega
          exact ⟨.inr ⟨id, cs, _, o + j, hc, h1, rfl, hj', by simp; omega⟩, by rw [Nat.add_assoc]; exact (hcv (o + j) hj').1⟩
        · have hi' : o + i < cs.length := by simp at hi; omega
          rw [getD_drop]; exact (hcv (o + i) hi').2
    | msl id k o len cap R δ nn b off full e h1 h2 h3 h4 h5 h6 h7 =>
      simp only [frzN]
      cases hc : σf id with
      | none => exact .msl id k o len cap R δ nn b off full e h1 h2 h3 h4 h5 h6 h7
      | some ob =>
        obtain ⟨cs, rfl⟩ := hf.cells _ _ hc
        simp only
        split
        · rename_i hle
          obtain ⟨loc, l1, l2, _⟩ := hr.obj id _ (hf.sub _ _ hc)
          rw [h1] at l1; cases l1
          obtain ⟨cv, hcv⟩ := l2.cell
          have hlen : len * k ≤ ((cs.drop o).map (frzN n σf)).length := by simp; omega
          refine .slice full _ b off len cap k (fun j => cv (o + j)) (by simp [chunks]) h2 h3 h4 (fun i hi => ?_) (fun j hj => ?_) (fun i j hi hj => ?_)
          · rcases Nat.eq_zero_or_pos k with hk | hk
            · subst hk; unfold chunks; simp [List.getD, hi]
            · exact (chunks_getD hi hk hlen).1
          · have hl0 : 0 < len := by
              rcases Nat.eq_zero_or_pos len with e | e
              · subst e; simp at hj
              · exact e
            obtain ⟨rfl, rfl⟩ := h5 (by omega)
            exact ⟨.inr ⟨id, cs, _, o + j, hc, h1, rfl, by omega, by simp; omega⟩, by rw [Nat.add_assoc]; exact (hcv (o + j) (by omega)).1⟩
          · rw [(chunks_getD hi hj hlen).2]
            have hij : i * k + j < len * k := by
              have h8 : (i + 1) * k ≤ len * k := Nat.mul_le_mul_right k (by omega)
              rw [Nat.add_mul, Nat.one_mul] at h8; omega
            refine lists _ (fun j => cv (o + j)) (fun i hi => ?_) (i * k + j) (by simp; omega)
            have hi' : o + i < cs.length := by simp at hi; omega
            rw [getD_drop]; exact (hcv (o + i) hi').2
        · exact .msl id k o len cap R δ nn b off full e h1 h2 h3 h4 h5 h6 h7
    | fn f a b vf vc h1 h2 h3 h4 => exact .fn f _ _ vf vc (by simp [h1]) (lists a _ h2) (by simp [h3]) (lists b _ h4)
    | yld id R h1 => exact .yld id R h1
    | map id R h1 => exact .map id R h1
    | gd g p _ h1 h2 => exact .gd g _ _ (fun e => ih (h1 e)) h2
    | iface t p _ h1 => exact .iface t _ _ (ih h1)
end

section
variable {P : Program} {rd : Bool} {n : Nat} {fr : Fr} {σ : Heap}

theorem pwp_frz {c : Code} {Q : PX → Fr → Heap → Prop} (k : Nat) (σf : Heap) (hf : Frz σf σ) (h : pwp P rd n c Q (fun t => frzN k σf (fr t)) (σ.minus σf)) : pwp P rd n c Q fr σ :=
  pwp_state h fun _ _ _ h2 h3 =>
    let ⟨k1, k2⟩ := frz_step h2 hf
    ⟨_, k1, ⟨h3.1, fun t => frzN_rel h2 hf k (h3.2 t)⟩, k2⟩

def frzO (k : Nat) (σ : Heap) : Out → Out
  | .val v => .val (frzN k σ v)
  | .pan v => .pan (frzN k σ v)

theorem pcalls_frz {f : FuncId} {args : List PV} {K : Out → Heap → Prop} (h : pcalls P f args σ fun o σ' => ∃ k σf, Frz σf σ' ∧ K (frzO k σf o) (σ'.minus σf)) : pcalls P f args σ K :=
  fun G W xs m h1 h2 => (h G W xs m h1 h2).mono fun e W' ⟨o, σ', G', ⟨k, σf, hf, hK⟩, k2, k3, k4⟩ => by
    obtain ⟨s1, s2⟩ := frz_step k4 hf
    refine ⟨frzO k σf o, σ'.minus σf, _, hK, ?_, k3.trans s2, s1⟩
    cases o <;> cases e <;> simp only [OutRel, frzO] at k2 ⊢
    · exact frzN_rel k4 hf k k2
    · obtain ⟨x, rfl, hx⟩ := k2; exact ⟨x, rfl, frzN_rel k4 hf k hx⟩

/-- One object. -/
def Heap.one (id : Nat) (o : PObj) : Heap := fun j => if j = id then some o else none
theorem Heap.one_apply (id : Nat) (o : PObj) (j : Nat) : (Heap.one id o) j = if j = id then some o else none := rfl
theorem Frz.one {id : Nat} {cs : List PV} (h : σ id = some (.cells cs)) : Frz (Heap.one id (.cells cs)) σ :=
  ⟨fun j x hx => (by unfold Heap.one at hx; split at hx <;> simp_all), fun j x hx => ⟨cs, by unfold Heap.one at hx; split at hx <;> simp_all⟩⟩
theorem Frz.none : Frz Heap.empty σ := ⟨fun _ _ h => (by cases h), fun _ _ h => (by cases h)⟩

/-- A result that is only read: 'full' is forgotten, and what is known of the memory. -/
theorem VRel.unfull {G : Gh} {W : World} {full : Bool} {rows : List (List PV)} {v : Value} (h : VRel G W (.slice full rows) v) : VRel G W (.slice false rows) v := by
  cases h with
  | nilsl _ base cap _ => exact .nilsl false base cap (fun e => by cases e)
  | slice _ _ b off len cap k cv h1 h2 h3 _ h5 h6 h7 => exact .slice false rows b off len cap k cv h1 h2 h3 (fun e => by cases e) h5 h6 h7

theorem pcalls.weak {f : FuncId} {args : List PV} {r : PV} (h : pcalls P f args σ fun o _ => ∃ rows full, r = .slice false rows ∧ o = .val (.slice full rows)) : pcalls P f args σ fun o _ => o = .val r :=
  fun G W xs m h1 h2 => (h G W xs m h1 h2).mono fun e W' ⟨o, σ', G', ⟨rows, full, hr, ho⟩, k2, k3, k4⟩ => by
    subst hr; subst ho
    refine ⟨.val (.slice false rows), σ', G', rfl, ?_, k3, k4⟩
    cases e <;> simp only [OutRel] at k2 ⊢
    exact k2.unfull
end

theorem chunks_flatten {k : Nat} : ∀ (rows : List (List PV)), (∀ r ∈ rows, r.length = k) → chunks k rows.length rows.flatten = rows := by
  intro rows h
  obtain ⟨h1, h2⟩ := flatten_getD h
  unfold chunks
  refine List.ext_getElem? fun i => ?_
  rcases Nat.lt_or_ge i rows.length with hi | hi
  · rw [List.getElem?_map, List.getElem?_range hi]
    simp only [Option.map_some, List.getElem?_eq_getElem hi]
    congr 1
    have hl : (rows[i]).length = k := h _ (List.getElem_mem hi)
    have h3 : (i + 1) * k ≤ rows.length * k := Nat.mul_le_mul_right k (by omega)
    rw [Nat.add_mul, Nat.one_mul] at h3
    refine List.ext_getElem? fun j => ?_
    rcases Nat.lt_or_ge j k with hj | hj
    · rw [List.getElem?_take, if_pos hj, List.getElem?_drop]
      have := h2 i j hi hj
      simp only [List.getD, List.getElem?_eq_getElem hi, Option.getD_some] at this
      have a1 : i * k + j < rows.flatten.length := by omega
      have a2 : j < (rows[i]).length := by omega
      rw [List.getElem?_eq_getElem a1, List.getElem?_eq_getElem a2] at this ⊢
      simpa using this
    · rw [List.getElem?_eq_none (by simp; omega), List.getElem?_eq_none (by omega)]
  · rw [List.getElem?_eq_none (by simpa using hi), List.getElem?_eq_none hi]
end Go.Lo
