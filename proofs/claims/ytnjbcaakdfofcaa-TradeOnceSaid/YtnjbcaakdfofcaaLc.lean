/-
  The program logic 'Lo', part Zh: regions that draw their order, make memory in any order, then write in a chain. Nothing of the program.
-/
import Derived.Test.YtnjbcaakdfofcaaLb
set_option linter.unusedSimpArgs false
set_option linter.unusedVariables false
namespace Go.Lo
open Go

section
variable {P : Program} {T : Tab} {rd : Bool} {n : Nat} {ops : Array Oper} {σ : Heap} {fr : Fr}

/-- The table does not look at the memory. -/
def Still (T : Tab) : Prop := ∀ f args σ σ', T.ev f args σ = T.ev f args σ'
theorem evc_monoT (hS : Still T) {σ' : Heap} {o : Oper} (hσ : ∀ id x, σ id = some x → σ' id = some x) (h : (evc P T σ fr o).D) : (evc P T σ' fr o).D ∧ (evc P T σ' fr o).V = (evc P T σ fr o).V := by
  by_cases hc : ∃ c fo, o.op = .call c ∧ c.callee = .value fo
  · obtain ⟨c, fo, h1, h2⟩ := hc
    have e : evc P T σ' fr o = evc P T σ fr o := by
      unfold evc
      simp only [h1, h2, callT]
      split
      · rename_i g first cap hg
        rw [hS g _ σ' σ]
      · rfl
    rw [e]; exact ⟨h, rfl⟩
  · have e : ∀ σ, evc P T σ fr o = evc P Tab.nil σ fr o := fun σ => by
      unfold evc
      split
      · rename_i c h1
        split
        · rename_i fo h2
          exact absurd ⟨c, fo, h1, h2⟩ hc
        · rfl
      · rfl
    rw [e] at h ⊢
    rw [e]
    exact evc_mono hσ h
/-- Operation o may yield U: what stands behind a false guard does not matter. -/
def YG (P : Program) (T : Tab) (σ : Heap) (ops : Array Oper) (o : Oper) (U : PV) (fr : Fr) : Prop :=
  match o.guard with
  | none => (evc P T σ fr o).D ∧ U = (evc P T σ fr o).V
  | some _ => (gval ops fr o = some true ∧ (evc P T σ fr o).D ∧ U = .gd true (evc P T σ fr o).V) ∨ (gval ops fr o = some false ∧ ∃ p, U = .gd false p)
theorem YG_of {o : Oper} {U : PV} (h : YF P T σ ops o U fr) : YG P T σ ops o U fr := by
  unfold YF at h
  unfold YG
  split at h
  · rename_i hg; simp only [hg]; exact h
  · rename_i gw hg
    simp only [hg]
    obtain ⟨g, h1, h2, h3⟩ := h
    cases g with
    | true => exact .inl ⟨h1, h2 rfl, h3⟩
    | false => exact .inr ⟨h1, _, h3⟩
theorem YG_mono (hS : Still T) {σ' : Heap} {o : Oper} {U : PV} (hσ : ∀ id x, σ id = some x → σ' id = some x) (h : YG P T σ ops o U fr) : YG P T σ' ops o U fr := by
  unfold YG at h ⊢
  split at h
  · obtain ⟨h1, h2⟩ := h
    obtain ⟨k1, k2⟩ := evc_monoT hS hσ h1
    exact ⟨k1, by rw [k2]; exact h2⟩
  · rcases h with ⟨h1, h2, h3⟩ | h
    · obtain ⟨k1, k2⟩ := evc_monoT hS hσ h2
      exact .inl ⟨h1, k1, by rw [k2]; exact h3⟩
    · exact .inr h
theorem looks_congr {o : Oper} {fr fr' : Fr} (h : ∀ t ∈ o.looksAt ops, fr' t = fr t) : evc P T σ fr' o = evc P T σ fr o ∧ gval ops fr' o = gval ops fr o := by
  have ha : agree o fr fr' := fun x hx => by
    cases x with
    | tmp t => exact h t (List.mem_append_left _ (List.mem_filterMap.2 ⟨.tmp t, by simpa using hx, rfl⟩))
    | _ => rfl
  refine ⟨evc_congr ha, ?_⟩
  unfold gval
  cases hg : o.guard with
  | none => rfl
  | some gw =>
    obtain ⟨g, want⟩ := gw
    simp only
    cases ht : (ops[g]?).bind (·.dst) with
    | none => rfl
    | some t =>
      simp only
      rw [h t (by simp [Oper.looksAt, hg, ht])]
theorem YG_agree {o : Oper} {U : PV} {fr fr' : Fr} (h : ∀ t ∈ o.looksAt ops, fr' t = fr t) (hy : YG P T σ ops o U fr) : YG P T σ ops o U fr' := by
  obtain ⟨h1, h2⟩ := looks_congr (P := P) (T := T) (σ := σ) h
  unfold YG at hy ⊢
  rw [h1, h2]; exact hy
theorem pops_YG (hT : T.ok P) {o : Oper} {U : PV} {Q : PX → Fr → Heap → Prop} (hd : dstOk n o = true) (hy : YG P T σ ops o U fr) (hQ : Q .normal (frSet fr o.dst U) σ) : pops P rd n ops [o] Q fr σ := by
  unfold YG at hy
  split at hy
  · rename_i hg
    obtain ⟨h1, rfl⟩ := hy
    exact pops_quiet hg hd (qop_of_evc hT h1) (pops_nil hQ)
  · rcases hy with ⟨h1, h2, rfl⟩ | ⟨h1, p, rfl⟩
    · exact pops_guard h1 hd (fun _ => qop_of_evc hT h2) (pops_nil hQ)
    · exact pops_guard h1 hd (fun e => by cases e) (pops_nil hQ)
def chkG (P : Program) (T : Tab) (σ : Heap) (ops : Array Oper) (o : Oper) (fr : Fr) : Prop := ∃ U, YG P T σ ops o U fr ∧ ∀ d, o.dst = some d → fr d = U
theorem chkG_of {o : Oper} (h : chkP P T σ ops o fr) : chkG P T σ ops o fr := let ⟨U, h1, h2⟩ := h; ⟨U, YG_of h1, h2⟩
def pdG (P : Program) (T : Tab) (n : Nat) (ops : Array Oper) (k : Nat) (es : List Nat) (L : Nat → Bool) (j : Nat) (F : Fr) (σ : Heap) : Prop := ∀ i, i < k → L i = false → i ∉ es → early ops es i ≤ j → ∃ o, ops[i]? = some o ∧ dstOk n o = true ∧ chkG P T σ ops o F
def JG (P : Program) (T : Tab) (n : Nat) (ops : Array Oper) (k : Nat) (es : List Nat) (p : Nat) (K : Fr → Heap → Prop) (L : Nat → Bool) (fr : Fr) (σ : Heap) : Prop :=
  ∃ j F, p ≤ j ∧ clL ops L ∧ effD es L j ∧ agF ops k es L j fr F ∧ pdG P T n ops k es L j F σ ∧ eT P T n ops K (tailG ops k es (es.drop j) j) F σ
theorem frSet_ne {fr : Fr} {dst : Option Tmp} {V : PV} {t : Tmp} (h : dst ≠ some t) : frSet fr dst V t = fr t := by
  cases dst with
  | none => rfl
  | some d =>
    have : t ≠ d := fun e => h (by rw [e])
    simp [frSet, Fr.set, this]
theorem frSet_eq {fr : Fr} {V : PV} {t : Tmp} : frSet fr (some t) V t = V := by simp [frSet, Fr.set]
/-- A write in the chain: the next state's frame and checks. -/
theorem JG_next {k : Nat} (S : Sl ops k) (hlt : ∀ j, j < ops.size → ∀ p ∈ preds ops j, p < j) {es : List Nat} {K : Fr → Heap → Prop} {L : Nat → Bool} {x : Nat} (hx : x < es.length) {o : Oper} {fr F : Fr} {σ' : Heap} {V : PV} {p : Nat} (hp : p ≤ x + 1)
    (hc : clL ops L) (hc' : clL ops (upd L es[x])) (hd : effD es L x) (hd' : effD es (upd L es[x]) (x + 1)) (ho : ops[es[x]]? = some o) (ha : agF ops k es L x fr F) (hpd : ∀ i, i < k → L i = false → i ∉ es → early ops es i ≤ x → ∃ o, ops[i]? = some o ∧ dstOk n o = true)
    (h : eT P T n ops K (planG ops k es (es.drop (x + 1)) (x + 1)) (frSet F o.dst V) σ') : JG P T n ops k es p K (upd L es[x]) (frSet fr o.dst V) σ' := by
  rw [planG_eq] at h
  obtain ⟨F2, f1, f2, f3⟩ := stage_run S hlt _ _ (stageI_sorted k es (x + 1)) (fun i hi => (stageI_mem.1 hi).1) h
  refine ⟨x + 1, F2, hp, hc', hd', fun t ht => ?_, fun i hik' hu' hne hea => ?_, f1⟩
  · have e2 : F2 t = frSet F o.dst V t := f2 t fun i hi he q hq => by
      obtain ⟨m1, m2, m3, _⟩ := stageI_mem.1 hi
      refine ht i q m1 ?_ m2 m3 hq
      cases hL : upd L es[x] i with
      | false => rfl
      | true =>
        unfold upd at hL
        simp only [Bool.or_eq_true, beq_iff_eq] at hL
        rcases hL with rfl | hL
        · exact absurd (List.getElem_mem hx) m2
        · have := early_le hc hd (hc i hL) m2
          omega
    rw [e2]
    have e1 : (∀ d, o.dst = some d → t ≠ d) → fr t = F t := fun hne => ha t fun i q hik' hu' hne' hea hq => by
      refine ht i q hik' ?_ hne' (by omega) hq
      unfold upd
      simp only [Bool.or_eq_false_iff, beq_eq_false_iff_ne]
      exact ⟨fun e => hne' (e ▸ List.getElem_mem hx), hu'⟩
    cases hdd : o.dst with
    | none => exact e1 fun d h => by rw [hdd] at h; cases h
    | some d =>
      by_cases htd : t = d
      · subst htd; simp [frSet, Fr.set]
      · have := e1 fun d' h => by rw [hdd] at h; cases h; exact htd
        simp [frSet, Fr.set, htd, this]
  · obtain ⟨q, hq, h1, h2⟩ := f3 i (stageI_mem.2 ⟨hik', hne, hea, late_ge hc' hd' hu' hne⟩)
    refine ⟨q, hq, ?_, chkG_of h2⟩
    by_cases he : early ops es i = x + 1
    · exact h1 he
    · obtain ⟨q', hq', h3⟩ := hpd i hik' (upd_false hu').1 hne (by omega)
      rw [hq] at hq'; cases hq'
      exact h3
theorem JG_step (hT : T.ok P) {k : Nat} (S : Sl ops k) (hlt : ∀ j, j < ops.size → ∀ p ∈ preds ops j, p < j) {es : List Nat} {p : Nat} (hinc : ∀ a b (ha : a < es.length) (hb : b < es.length), a < b → es[a] < es[b]) (hch : ∀ y (h : y + 1 < es.length), p ≤ y → ancB ops es[y] es[y + 1] = true)
    {K : Fr → Heap → Prop} {I : (Nat → Bool) → Fr → Heap → Prop} (hJ : ∀ L fr σ, JG P T n ops k es p K L fr σ → I L fr σ) {L : Nat → Bool} {fr : Fr} {σ : Heap} {i : Nat} {o : Oper} (hik : i < k) (ho : ops[i]? = some o) (hu : L i = false) (hp : ∀ q ∈ preds ops i, L q = true) (h : JG P T n ops k es p K L fr σ) :
    pops P rd n ops [o] (QI I (upd L i)) fr σ := by
  obtain ⟨j, F, hpj, hc, hd, ha, hpd, hr⟩ := h
  have hlook := agF_looks S hc hp hik ho ha
  by_cases hi : i ∈ es
  · obtain ⟨x, hx, rfl⟩ := List.getElem_of_mem hi
    have hxj : x = j := by
      have h1 : ¬ x < j := fun h => by rw [(hd.2 x hx).2 h] at hu; cases hu
      rcases Nat.lt_or_ge j x with h2 | h2
      · exfalso
        obtain ⟨y, rfl⟩ : ∃ y, x = y + 1 := ⟨x - 1, by omega⟩
        rcases ancB_done hc hp (hch y hx (by omega)) with h3 | h3
        · have := hinc y (y + 1) (by omega) hx (by omega); omega
        · have := (hd.2 y (by omega)).1 h3; omega
      · omega
    subst hxj
    rw [List.drop_eq_getElem_cons hx] at hr
    obtain ⟨o', ho', hdo, he⟩ := hr
    rw [ho] at ho'; cases ho'
    refine pops_effP hdo (effP_mono (fun V σ' h => ?_) (effP_agree hlook he))
    have hd' : effD es (upd L es[x]) (x + 1) := ⟨by omega, fun y hy => by
      unfold upd
      simp only [Bool.or_eq_true, beq_iff_eq]
      constructor
      · rintro (h1 | h1)
        · rcases Nat.lt_trichotomy y x with h2 | h2 | h2
          · omega
          · omega
          · have := hinc x y hx hy h2; omega
        · have := (hd.2 y hy).1 h1; omega
      · intro h1
        by_cases h2 : y = x
        · subst h2; exact .inl rfl
        · exact .inr ((hd.2 y hy).2 (by omega))⟩
    refine hJ _ _ _ ?_
    exact JG_next S hlt hx (by omega) hc (clL_upd hc hp) hd hd' ho ha (fun i h1 h2 h3 h4 => let ⟨o, q1, q2, _⟩ := hpd i h1 h2 h3 h4; ⟨o, q1, q2⟩) h
  · have hea := early_le hc hd hp hi
    obtain ⟨o', ho', hdo, U, hy, hU⟩ := hpd i hik hu hi hea
    rw [ho] at ho'; cases ho'
    refine pops_YG hT hdo (YG_agree hlook hy) ?_
    have hd' : effD es (upd L i) j := ⟨hd.1, fun y hy => by
      unfold upd
      simp only [Bool.or_eq_true, beq_iff_eq]
      rw [← hd.2 y hy]
      exact ⟨fun h => h.resolve_left fun e => hi (e ▸ List.getElem_mem hy), .inr⟩⟩
    refine hJ _ _ _ ⟨j, F, hpj, clL_upd hc hp, hd', fun t ht => ?_, fun i' hik' hu' hne' hea' => hpd i' hik' (upd_false hu').1 hne' hea', hr⟩
    have e1 : (∀ d, o.dst = some d → t ≠ d) → fr t = F t := fun hne => ha t fun i' q hik' hu' hne' hea' hq => by
      by_cases e : i' = i
      · subst e
        rw [ho] at hq; cases hq
        intro h; exact hne t h rfl
      · refine ht i' q hik' ?_ hne' hea' hq
        unfold upd
        simp only [Bool.or_eq_false_iff, beq_eq_false_iff_ne]
        exact ⟨e, hu'⟩
    cases hdd : o.dst with
    | none => exact e1 fun d h => by rw [hdd] at h; cases h
    | some d =>
      by_cases htd : t = d
      · subst htd; simp [frSet, Fr.set, hU t hdd]
      · have := e1 fun d' h => by rw [hdd] at h; cases h; exact htd
        simp [frSet, Fr.set, htd, this]
theorem JG_end (hT : T.ok P) {k : Nat} {es : List Nat} {p : Nat} (hek : ∀ x (h : x < es.length), es[x] < k) {Q : PX → Fr → Heap → Prop} {L : Nat → Bool} {fr : Fr} {σ : Heap} {l : List Oper} (hall : ∀ i, i < k → L i = true)
    (h : JG P T n ops k es p (fun fr σ => pst P T rd n ops Q l fr σ) L fr σ) : pops P rd n ops l Q fr σ := by
  obtain ⟨j, F, _, hc, hd, ha, hpd, hr⟩ := h
  have hj : j = es.length := by
    rcases Nat.lt_or_ge j es.length with h1 | h1
    · have := (hd.2 j h1).1 (hall _ (hek j h1)); omega
    · have := hd.1; omega
  subst hj
  rw [List.drop_length] at hr
  have e : fr = F := funext fun t => ha t fun i o hik hu _ _ _ => by rw [hall i hik] at hu; cases hu
  subst e
  exact pops_pst hT hr

/-! ### Memory made in any order -/
def allocZ (P : Program) (ops : Array Oper) (a : Nat) : Option (Tmp × List PV) :=
  match ops[a]? with
  | some o => match o.op, o.guard, o.dst with
    | .alloc t, none, some d => (zeroP P t).map fun zs => (d, zs)
    | _, _, _ => none
  | none => none
theorem allocZ_some {a : Nat} {x : Tmp × List PV} (h : allocZ P ops a = some x) : ∃ o t, ops[a]? = some o ∧ o.op = .alloc t ∧ o.guard = none ∧ o.dst = some x.1 ∧ zeroP P t = some x.2 := by
  unfold allocZ at h
  split at h
  · rename_i o ho
    split at h
    · rename_i t d e1 e2 e3
      rw [Option.map_eq_some_iff] at h
      obtain ⟨zs, hz, rfl⟩ := h
      exact ⟨o, t, ho, e1, e2, e3, hz⟩
    · cases h
  · cases h
def sortB : List Nat → Bool
  | [] => true
  | a :: l => l.all (fun b => decide (a < b)) && sortB l
theorem sortB_spec : ∀ {l : List Nat}, sortB l = true → ∀ a b (ha : a < l.length) (hb : b < l.length), a < b → l[a] < l[b] := by
  intro l
  induction l with
  | nil => intro _ a b ha; simp at ha
  | cons x l ih =>
    intro h a b ha hb hab
    simp only [sortB, Bool.and_eq_true, List.all_eq_true, decide_eq_true_eq] at h
    cases b with
    | zero => omega
    | succ b =>
      cases a with
      | zero => simpa using h.1 _ (List.getElem_mem (show b < l.length by simpa using hb))
      | succ a => simpa using ih h.2 a b (by simpa using ha) (by simpa using hb) (by omega)
def drawA (P : Program) (n : Nat) (ops : Array Oper) (k : Nat) (A es : List Nat) (plan : List Stp) : Bool :=
  decide (plan = planG ops k (A ++ es) (A ++ es) 0) && decide (k ≤ ops.size) && ((List.range ops.size).all fun j => (preds ops j).all fun p => decide (p < j)) &&
    ((List.range ops.size).all fun t => decide (t < k) || ((List.range t).all fun p => (ancGo ops t [t]).contains p)) && slotsB ops k && chainB ops k es && sortB (A ++ es) && (A ++ es).all (fun e => decide (e < k)) &&
    A.all (fun a => match allocZ P ops a with | some x => decide (x.1 < n) | none => false) && A.all (fun a => es.all fun e => ancB ops a e) && (List.range k).all (fun i => (A ++ es).contains i || decide (early ops (A ++ es) i = 0) || decide (A.length ≤ early ops (A ++ es) i)) && !A.isEmpty
structure FA (P : Program) (ops : Array Oper) (k : Nat) (A es : List Nat) : Prop where
  S : Sl ops k
  hlt : ∀ j, j < ops.size → ∀ p ∈ preds ops j, p < j
  inc : ∀ a b (ha : a < (A ++ es).length) (hb : b < (A ++ es).length), a < b → (A ++ es)[a] < (A ++ es)[b]
  lt : ∀ e ∈ A ++ es, e < k
  ch : ∀ y (h : y + 1 < (A ++ es).length), A.length ≤ y → ancB ops (A ++ es)[y] (A ++ es)[y + 1] = true
  al : ∀ a ∈ A, ∃ x, allocZ P ops a = some x
  aes : ∀ a ∈ A, ∀ e ∈ es, ancB ops a e = true
  er : ∀ i, i < k → i ∉ A ++ es → early ops (A ++ es) i = 0 ∨ A.length ≤ early ops (A ++ es) i
def dstA (ops : Array Oper) (a : Nat) : Option Tmp := (ops[a]?).bind (·.dst)
def zsA (P : Program) (ops : Array Oper) (a : Nat) : List PV := match allocZ P ops a with | some x => x.2 | none => []
def allocF (ops : Array Oper) (ids : Nat → Nat) : List Nat → Fr → Fr
  | [], F => F
  | a :: l, F => allocF ops ids l (frSet F (dstA ops a) (.ptr (ids a) 0))
def allocH (P : Program) (ops : Array Oper) (ids : Nat → Nat) : List Nat → Heap → Heap
  | [], σ => σ
  | a :: l, σ => allocH P ops ids l (σ.set (ids a) (.cells (zsA P ops a)))
theorem allocF_ne {ids : Nat → Nat} {t : Tmp} : ∀ {l : List Nat} {F : Fr}, (∀ a ∈ l, dstA ops a ≠ some t) → allocF ops ids l F t = F t := by
  intro l
  induction l with
  | nil => intro F _; rfl
  | cons a l ih =>
    intro F h
    rw [allocF, ih fun b hb => h b (List.mem_cons_of_mem _ hb), frSet_ne (h a (List.mem_cons_self ..))]
theorem allocF_at {ids : Nat → Nat} {b : Nat} {d : Tmp} (hb : dstA ops b = some d) : ∀ {l : List Nat} {F : Fr}, b ∈ l → (∀ a ∈ l, a ≠ b → dstA ops a ≠ some d) → allocF ops ids l F d = .ptr (ids b) 0 := by
  intro l
  induction l with
  | nil => intro F h; cases h
  | cons a l ih =>
    intro F h hn
    rw [allocF]
    by_cases hbl : b ∈ l
    · exact ih hbl fun c hc => hn c (List.mem_cons_of_mem _ hc)
    · have e : b = a := (List.mem_cons.1 h).resolve_right hbl
      subst e
      rw [allocF_ne fun c hc => hn c (List.mem_cons_of_mem _ hc) (fun e => hbl (e ▸ hc)), hb, frSet_eq]
theorem allocH_ne {ids : Nat → Nat} {j : Nat} : ∀ {l : List Nat} {σ : Heap}, (∀ a ∈ l, j ≠ ids a) → allocH P ops ids l σ j = σ j := by
  intro l
  induction l with
  | nil => intro σ _; rfl
  | cons a l ih =>
    intro σ h
    rw [allocH, ih fun b hb => h b (List.mem_cons_of_mem _ hb), Heap.set_apply, if_neg (h a (List.mem_cons_self ..))]
theorem allocH_at {ids : Nat → Nat} {b : Nat} : ∀ {l : List Nat} {σ : Heap}, b ∈ l → (∀ a ∈ l, a ≠ b → ids b ≠ ids a) → allocH P ops ids l σ (ids b) = some (.cells (zsA P ops b)) := by
  intro l
  induction l with
  | nil => intro σ h; cases h
  | cons a l ih =>
    intro σ h hn
    rw [allocH]
    by_cases hbl : b ∈ l
    · exact ih hbl fun c hc => hn c (List.mem_cons_of_mem _ hc)
    · have e : b = a := (List.mem_cons.1 h).resolve_right hbl
      subst e
      rw [allocH_ne fun c hc => hn c (List.mem_cons_of_mem _ hc) (fun e => hbl (e ▸ hc)), Heap.set_apply, if_pos rfl]
theorem drop_c {K : Fr → Heap → Prop} {es : List Nat} {j : Nat} {rest : List Stp} : ∀ {l : List Nat} {F : Fr}, (∀ i ∈ l, early ops es i ≠ j) → eT P T n ops K (l.map (stageS ops es j) ++ rest) F σ → eT P T n ops K rest F σ := by
  intro l
  induction l with
  | nil => intro F _ h; exact h
  | cons i l ih =>
    intro F hn h
    rw [List.map_cons, List.cons_append, show stageS ops es j i = .c i by unfold stageS; rw [if_neg (hn i (List.mem_cons_self ..))]] at h
    obtain ⟨o, _, _, h⟩ := h
    exact ih (fun x hx => hn x (List.mem_cons_of_mem _ hx)) h
theorem canon {k : Nat} {A es : List Nat} (H : FA P ops k A es) {K : Fr → Heap → Prop} {ids : Nat → Nat} : ∀ (l pre : List Nat) (F : Fr) (σ : Heap), A = pre ++ l → l ≠ [] → eT P T n ops K (tailG ops k (A ++ es) (l ++ es) pre.length) F σ →
    (∀ a ∈ l, σ (ids a) = none) → l.Pairwise (fun a b => ids a ≠ ids b) → eT P T n ops K (planG ops k (A ++ es) es A.length) (allocF ops ids l F) (allocH P ops ids l σ) := by
  intro l
  induction l with
  | nil => intro pre F σ _ h; exact absurd rfl h
  | cons a r ih =>
    intro pre F σ hA _ h hf hd
    have haA : a ∈ A := by rw [hA]; simp
    obtain ⟨x, hx⟩ := H.al a haA
    obtain ⟨o, t, q1, q2, q3, q4, q5⟩ := allocZ_some hx
    obtain ⟨o', ho', hdo, hg⟩ := h
    rw [q1] at ho'; cases ho'
    have hz : zsA P ops a = x.2 := by unfold zsA; rw [hx]
    have hdst : dstA ops a = some x.1 := by unfold dstA; rw [q1]; exact q4
    have step : eT P T n ops K (planG ops k (A ++ es) (r ++ es) (pre.length + 1)) (frSet F (dstA ops a) (.ptr (ids a) 0)) (σ.set (ids a) (.cells (zsA P ops a))) := by
      rcases hg with ⟨_, hg | ⟨c, g, args, K', e, _⟩⟩ | ⟨hg, _⟩
      · rw [q2] at hg
        simp only [gstep, q5] at hg
        have := hg (ids a) (hf a (List.mem_cons_self ..))
        rw [hdst, hz, ← q4]; exact this
      · rw [q2] at e; cases e
      · rw [show gval ops F o = some true by simp [gval, q3]] at hg; cases hg
    rw [allocF, allocH]
    by_cases hr : r = []
    · subst hr
      have : A.length = pre.length + 1 := by rw [hA]; simp
      rw [this]; exact step
    · obtain ⟨hd1, hd2⟩ := List.pairwise_cons.1 hd
      have hlen : pre.length + 1 < A.length := by
        have : 0 < r.length := List.length_pos_iff.2 hr
        rw [hA]; simp; omega
      rw [planG_eq] at step
      have step := drop_c (fun i hi => by
        obtain ⟨m1, m2, m3, _⟩ := stageI_mem.1 hi
        rcases H.er i m1 m2 with h | h <;> omega) step
      refine ih (pre ++ [a]) _ _ (by rw [hA]; simp) hr (by simpa using step) (fun b hb => ?_) hd2
      rw [Heap.set_apply, if_neg fun e => hd1 b hb e.symm]
      exact hf b (List.mem_cons_of_mem _ hb)
theorem early_lt {A es : List Nat} {L : Nat → Bool} {a i : Nat} (hc : clL ops L) (hes : ∀ e ∈ es, L e = false) (ha : a ∈ A) (hu : L a = false) (hp : ∀ p ∈ preds ops i, L p = true) (hi : i ∉ A ++ es) : early ops (A ++ es) i < A.length := by
  have hq : ∀ e ∈ A ++ es, ancB ops e i = true → L e = true := fun e he h => by
    rcases ancB_done hc hp h with h1 | h1
    · exact absurd (h1 ▸ he) hi
    · exact h1
  unfold early
  rw [List.filter_append, List.length_append]
  have h1 : es.filter (fun e => ancB ops e i) = [] := by
    rw [List.filter_eq_nil_iff]
    intro e he h
    have := hq e (List.mem_append_right _ he) h
    rw [hes e he] at this; cases this
  rw [h1, List.length_nil, Nat.add_zero]
  refine List.length_filter_lt_length_iff_exists.2 ⟨a, ha, fun h => ?_⟩
  have := hq a (List.mem_append_left _ ha) h
  rw [hu] at this; cases this
/-- Some of the memory is made. -/
def JA (P : Program) (ops : Array Oper) (k : Nat) (A es : List Nat) (F : Fr) (σ0 : Heap) (L : Nat → Bool) (fr : Fr) (σ : Heap) : Prop :=
  clL ops L ∧ (∃ a ∈ A, L a = false) ∧ (∀ e ∈ es, L e = false) ∧ ∃ ids : Nat → Nat,
    (∀ t, (∀ i o, i < k → L i = false → i ∉ A ++ es → early ops (A ++ es) i = 0 → ops[i]? = some o → o.dst ≠ some t) → (∀ a ∈ A, L a = true → dstA ops a ≠ some t) → fr t = F t) ∧
    (∀ a ∈ A, L a = true → ∀ d, dstA ops a = some d → fr d = .ptr (ids a) 0) ∧ (∀ a ∈ A, L a = true → σ (ids a) = some (.cells (zsA P ops a)) ∧ σ0 (ids a) = none) ∧
    (∀ a ∈ A, ∀ b ∈ A, L a = true → L b = true → a ≠ b → ids a ≠ ids b) ∧ (∀ id, (∀ a ∈ A, L a = true → id ≠ ids a) → σ id = σ0 id)
theorem dstA_ne {k : Nat} {A es : List Nat} (H : FA P ops k A es) {a b : Nat} {d : Tmp} (ha : a ∈ A) (hb : b ∈ A) (hne : a ≠ b) (hd : dstA ops b = some d) : dstA ops a ≠ some d := by
  obtain ⟨o, ho⟩ := H.S.ex a (H.lt a (List.mem_append_left _ ha))
  obtain ⟨q, hq⟩ := H.S.ex b (H.lt b (List.mem_append_left _ hb))
  unfold dstA at hd ⊢
  rw [hq] at hd
  rw [ho]
  exact H.S.ne a b o q d (H.lt a (List.mem_append_left _ ha)) (H.lt b (List.mem_append_left _ hb)) hne ho hq hd

/-- **A region that draws its order, makes memory in any order, then writes in a chain.** -/
theorem pwp_drawF (hT : T.ok P) (hS : Still T) (k : Nat) (A es : List Nat) (plan : List Stp) {id : Nat} {Q : PX → Fr → Heap → Prop} (hm : P.follows .mixedOrders = true) (hB : drawA P n ops k A es plan = true)
    (h : eT P T n ops (fun fr σ => pst P T rd n ops Q (ops.toList.drop k) fr σ) plan fr σ) : pwp P rd n (.region id ops true) Q fr σ := by
  unfold drawA at hB
  simp only [Bool.and_eq_true, decide_eq_true_eq] at hB
  obtain ⟨⟨⟨⟨⟨⟨⟨⟨⟨⟨⟨rfl, b1⟩, b2⟩, b3⟩, b4⟩, b5⟩, b6⟩, b7⟩, b8⟩, b9⟩, b10⟩, b11⟩ := hB
  have hlt : ∀ j, j < ops.size → ∀ p ∈ preds ops j, p < j := by
    simp only [List.all_eq_true, List.mem_range, decide_eq_true_eq] at b2; exact b2
  have hlt2 : ∀ e ∈ A ++ es, e < k := fun e he => by simpa using List.all_eq_true.1 b7 e he
  have hdn : ∀ a ∈ A, ∃ x, allocZ P ops a = some x ∧ x.1 < n := fun a ha => by
    have := List.all_eq_true.1 b8 a ha
    split at this
    · rename_i x hx; exact ⟨x, hx, by simpa using this⟩
    · cases this
  obtain ⟨_, c2⟩ := chainB_spec b5
  have H : FA P ops k A es := by
    refine ⟨slotsB_spec b4, hlt, sortB_spec b6, hlt2, fun y hy hA => ?_, fun a ha => ?_, fun a ha e he => ?_, fun i hi hn => ?_⟩
    · have := (c2 (y - A.length) (by simp at hy; omega)).2
      rw [List.getElem_append_right hA, List.getElem_append_right (by omega)]
      have e : y + 1 - A.length = y - A.length + 1 := by omega
      simp only [e]; exact this
    · obtain ⟨x, hx, _⟩ := hdn a ha; exact ⟨x, hx⟩
    · exact List.all_eq_true.1 (List.all_eq_true.1 b9 a ha) e he
    · have := List.all_eq_true.1 b10 i (List.mem_range.2 hi)
      simp only [Bool.or_eq_true, decide_eq_true_eq, List.contains_eq_mem] at this
      rcases this with (h | h) | h
      · exact absurd h hn
      · exact .inl h
      · exact .inr h
  have hAne : A ≠ [] := by
    intro e; subst e; simp at b11
  rw [planG_eq] at h
  obtain ⟨F, f1, f2, f3⟩ := stage_run H.S hlt _ fr (stageI_sorted k (A ++ es) 0) (fun i hi => (stageI_mem.1 hi).1) h
  have pd0 : ∀ i, i < k → i ∉ A ++ es → early ops (A ++ es) i = 0 → ∃ o, ops[i]? = some o ∧ dstOk n o = true ∧ chkG P T σ ops o F := fun i hi hne he => by
    obtain ⟨o, ho, h1, h2⟩ := f3 i (stageI_mem.2 ⟨hi, hne, by omega, Nat.zero_le _⟩)
    exact ⟨o, ho, h1 he, chkG_of h2⟩
  refine pwp_drawI (I := fun L fr' σ' => JA P ops k A es F σ L fr' σ' ∨ JG P T n ops k (A ++ es) A.length (fun fr σ => pst P T rd n ops Q (ops.toList.drop k) fr σ) L fr' σ') hm b2 b3 b1 ?_ ?_ ?_
  · refine .inl ⟨fun i hi => (by cases hi), ?_, fun _ _ => rfl, fun _ => 0, fun t ht _ => (f2 t fun i hi he o ho => ?_).symm, fun a _ h => (by cases h), fun a _ h => (by cases h), fun a _ b _ h => (by cases h), fun id _ => rfl⟩
    · obtain ⟨a, r, rfl⟩ := List.exists_cons_of_ne_nil hAne
      exact ⟨a, List.mem_cons_self .., rfl⟩
    · obtain ⟨m1, m2, m3, _⟩ := stageI_mem.1 hi
      exact ht i o m1 rfl m2 (by omega) ho
  · rintro L fr' σ' i o hik ho hu hp (hJ | hJ)
    · obtain ⟨hc, ⟨a0, ha0, hu0⟩, hes, ids, g1, g2, g3, g4, g5⟩ := hJ
      have sub : ∀ id x, σ id = some x → σ' id = some x := fun id x hx => by
        rw [g5 id fun a ha hL e => by
          have := (g3 a ha hL).2
          rw [← e, hx] at this; cases this]
        exact hx
      by_cases hiA : i ∈ A
      · obtain ⟨x, hx⟩ := H.al i hiA
        obtain ⟨o', t, q1, q2, q3, q4, q5⟩ := allocZ_some hx
        rw [ho] at q1; cases q1
        have hz : zsA P ops i = x.2 := by unfold zsA; rw [hx]
        have hdst : dstA ops i = some x.1 := by unfold dstA; rw [ho]; exact q4
        have hdo : dstOk n o = true := by
          obtain ⟨y, hy, hn⟩ := hdn i hiA
          rw [hx] at hy; cases hy
          unfold dstOk; rw [q4]; simpa using hn
        refine pops_effP hdo (.inl ⟨by simp [gval, q3], .inl ?_⟩)
        rw [q2]
        simp only [gstep, q5]
        intro id hid
        rw [q4]
        have hid0 : σ id = none := by
          cases hs : σ id with
          | none => rfl
          | some y => rw [sub id y hs] at hid; cases hid
        have hni : ∀ b ∈ A, L b = true → id ≠ ids b := fun b hb hL e => by
          have := (g3 b hb hL).1
          rw [← e, hid] at this; cases this
        have hiu : ∀ b ∈ A, L b = true → b ≠ i := fun b _ hL e => by rw [e, hu] at hL; cases hL
        obtain ⟨ids', hids⟩ : ∃ ids' : Nat → Nat, ids' = fun b => if b = i then id else ids b := ⟨_, rfl⟩
        have idi : ids' i = id := by rw [hids]; simp
        have idn : ∀ b, b ≠ i → ids' b = ids b := fun b hb => by rw [hids]; simp [hb]
        have hL' : ∀ b, upd L i b = true → b = i ∨ L b = true := fun b h => by simpa [upd] using h
        have G2 : ∀ a ∈ A, upd L i a = true → ∀ d, dstA ops a = some d → frSet fr' (some x.1) (.ptr id 0) d = .ptr (ids' a) 0 := fun a ha hL d hd => by
          by_cases e : a = i
          · subst e
            rw [hdst] at hd; cases hd
            rw [frSet_eq, idi]
          · have := dstA_ne H hiA ha (Ne.symm e) hd
            rw [hdst] at this
            rw [frSet_ne this, idn a e]
            exact g2 a ha ((hL' a hL).resolve_left e) d hd
        have G3 : ∀ a ∈ A, upd L i a = true → (σ'.set id (.cells x.2)) (ids' a) = some (.cells (zsA P ops a)) ∧ σ (ids' a) = none := fun a ha hL => by
          by_cases e : a = i
          · subst e
            rw [idi, Heap.set_apply, if_pos rfl, hz]; exact ⟨rfl, hid0⟩
          · have hLa := (hL' a hL).resolve_left e
            rw [idn a e, Heap.set_apply, if_neg fun h => hni a ha hLa h.symm]
            exact g3 a ha hLa
        have G4 : ∀ a ∈ A, ∀ b ∈ A, upd L i a = true → upd L i b = true → a ≠ b → ids' a ≠ ids' b := fun a ha b hb h1 h2 hne => by
          by_cases e : a = i
          · have e2 : b ≠ i := fun h => hne (e.trans h.symm)
            rw [e, idi, idn b e2]
            exact hni b hb ((hL' b h2).resolve_left e2)
          · by_cases e2 : b = i
            · rw [e2, idi, idn a e]
              exact Ne.symm (hni a ha ((hL' a h1).resolve_left e))
            · rw [idn a e, idn b e2]
              exact g4 a ha b hb ((hL' a h1).resolve_left e) ((hL' b h2).resolve_left e2) hne
        have G5 : ∀ j, (∀ a ∈ A, upd L i a = true → j ≠ ids' a) → (σ'.set id (.cells x.2)) j = σ j := fun j hj => by
          have e : j ≠ id := fun e => by
            have := hj i hiA (by simp [upd])
            rw [idi] at this; exact this e
          rw [Heap.set_apply, if_neg e]
          refine g5 j fun a ha hL => ?_
          have := hj a ha (by simp [upd, hL])
          rwa [idn a (hiu a ha hL)] at this
        have G1 : ∀ t, (∀ j q, j < k → upd L i j = false → j ∉ A ++ es → early ops (A ++ es) j = 0 → ops[j]? = some q → q.dst ≠ some t) → (∀ a ∈ A, upd L i a = true → dstA ops a ≠ some t) → frSet fr' (some x.1) (.ptr id 0) t = F t := fun t h1 h2 => by
          have := h2 i hiA (by simp [upd])
          rw [hdst] at this
          rw [frSet_ne this]
          refine g1 t (fun j q hj hu' hne he hq => h1 j q hj ?_ hne he hq) fun a ha hL => h2 a ha (by simp [upd, hL])
          unfold upd
          rw [show (j == i) = false by simp; exact fun e => hne (e ▸ List.mem_append_left _ hiA), hu']; rfl
        have hes' : ∀ e ∈ es, upd L i e = false := fun e he => by
          unfold upd
          rw [show (e == i) = false by
            simp
            intro h
            have h1 := H.aes i hiA e he
            obtain ⟨y, hy, hye⟩ := List.getElem_of_mem he
            obtain ⟨w, hw, hwe⟩ := List.getElem_of_mem hiA
            have := H.inc w (A.length + y) (by simp; omega) (by simp; omega) (by omega)
            rw [List.getElem_append_left hw, List.getElem_append_right (by omega)] at this
            simp only [Nat.add_sub_cancel_left] at this
            omega, hes e he]; rfl
        by_cases hmore : ∃ b ∈ A, upd L i b = false
        · exact .inl ⟨clL_upd hc hp, hmore, hes', ids', G1, G2, G3, G4, G5⟩
        · have hdone : ∀ b ∈ A, upd L i b = true := fun b hb => by
            cases h : upd L i b with
            | true => rfl
            | false => exact absurd ⟨b, hb, h⟩ hmore
          have hinj : A.Pairwise (fun a b => ids' a ≠ ids' b) := by
            rw [List.pairwise_iff_getElem]
            intro a b ha hb hab
            refine G4 _ (List.getElem_mem ha) _ (List.getElem_mem hb) (hdone _ (List.getElem_mem ha)) (hdone _ (List.getElem_mem hb)) fun e => ?_
            have := H.inc a b (by simp; omega) (by simp; omega) hab
            rw [List.getElem_append_left ha, List.getElem_append_left hb, e] at this
            omega
          have hcan := canon H A [] F σ (by simp) hAne (by simpa using f1) (fun a ha => (G3 a ha (hdone a ha)).2) hinj
          have hheap : allocH P ops ids' A σ = σ'.set id (.cells x.2) := by
            funext j
            by_cases hj : ∃ a ∈ A, j = ids' a
            · obtain ⟨a, ha, rfl⟩ := hj
              rw [allocH_at ha fun b hb hne => G4 a ha b hb (hdone a ha) (hdone b hb) (Ne.symm hne), (G3 a ha (hdone a ha)).1]
            · have hj' : ∀ a ∈ A, j ≠ ids' a := fun a ha e => hj ⟨a, ha, e⟩
              rw [allocH_ne hj', G5 j fun a ha _ => hj' a ha]
          rw [hheap, planG_eq] at hcan
          have hc' := clL_upd hc hp
          have hd' : effD (A ++ es) (upd L i) A.length := ⟨by simp, fun y hy => by
            by_cases hyA : y < A.length
            · rw [List.getElem_append_left hyA]
              exact ⟨fun _ => hyA, fun _ => hdone _ (List.getElem_mem hyA)⟩
            · rw [List.getElem_append_right (by omega)]
              refine ⟨fun h => ?_, fun h => absurd h hyA⟩
              rw [hes' _ (List.getElem_mem ..)] at h; cases h⟩
          have low : ∀ j, j ∉ A ++ es → upd L i j = true → early ops (A ++ es) j < A.length := fun j hj hL => by
            have hLj := (hL' j hL).resolve_left fun e => hj (e ▸ List.mem_append_left _ hiA)
            exact early_lt hc hes ha0 hu0 (hc j hLj) hj
          obtain ⟨F2, e1, e2, e3⟩ := stage_run H.S hlt _ _ (stageI_sorted k (A ++ es) A.length) (fun i hi => (stageI_mem.1 hi).1) hcan
          refine .inr ⟨A.length, F2, Nat.le_refl _, hc', hd', fun t ht => ?_, fun j hj hu' hne he => ?_, by simpa using e1⟩
          · rw [e2 t fun j hj he q hq => by
              obtain ⟨m1, m2, m3, _⟩ := stageI_mem.1 hj
              refine ht j q m1 ?_ m2 m3 hq
              cases hL : upd L i j with
              | false => rfl
              | true => have := low j m2 hL; omega]
            by_cases hta : ∃ a ∈ A, dstA ops a = some t
            · obtain ⟨a, ha, hd⟩ := hta
              rw [allocF_at hd ha fun b hb hne => dstA_ne H hb ha hne hd]
              exact G2 a ha (hdone a ha) t hd
            · have hta' : ∀ a ∈ A, dstA ops a ≠ some t := fun a ha e => hta ⟨a, ha, e⟩
              rw [allocF_ne hta']
              exact G1 t (fun j q hj hu' hne he hq => ht j q hj hu' hne (by omega) hq) fun a ha _ => hta' a ha
          · obtain ⟨q, hq, h1, h2⟩ := e3 j (stageI_mem.2 ⟨hj, hne, he, late_ge hc' hd' hu' hne⟩)
            refine ⟨q, hq, ?_, chkG_of h2⟩
            by_cases hep : early ops (A ++ es) j = A.length
            · exact h1 hep
            · have : early ops (A ++ es) j = 0 := by rcases H.er j hj hne with h | h <;> omega
              obtain ⟨q', hq', h3, _⟩ := pd0 j hj hne this
              rw [hq] at hq'; cases hq'
              exact h3
      · by_cases hie : i ∈ es
        · exfalso
          rcases ancB_done hc hp (H.aes a0 ha0 i hie) with h1 | h1
          · exact hiA (h1 ▸ ha0)
          · rw [hu0] at h1; cases h1
        · have hne : i ∉ A ++ es := fun h => (List.mem_append.1 h).elim hiA hie
          have hel := early_lt hc hes ha0 hu0 hp hne
          have he0 : early ops (A ++ es) i = 0 := by rcases H.er i hik hne with h | h <;> omega
          obtain ⟨o', ho', hdo, U, hy, hU⟩ := pd0 i hik hne he0
          rw [ho] at ho'; cases ho'
          have hlook : ∀ t ∈ o.looksAt ops, fr' t = F t := fun t ht => by
            have key : ∀ i' q, i' < k → L i' = false ∨ i' ∈ A → ops[i']? = some q → q.dst ≠ some t := fun i' q hi' hor hq hd => by
              by_cases e : i = i'
              · subst e
                rw [ho] at hq; cases hq
                exact H.S.own i o t hik ho hd ht
              · refine H.S.look i i' o q t hik hi' e ho hq hd ?_ ht
                cases hanc : ancB ops i' i with
                | false => rfl
                | true =>
                  rcases hor with hor | hor
                  · rcases ancB_done hc hp hanc with h1 | h1
                    · exact absurd h1.symm e
                    · rw [hor] at h1; cases h1
                  · exfalso
                    have : i' ∈ (A ++ es).filter fun e => ancB ops e i := List.mem_filter.2 ⟨List.mem_append_left _ hor, hanc⟩
                    rw [List.length_eq_zero_iff.1 he0] at this
                    cases this
            refine g1 t (fun i' q hi' hu' _ _ hq => key i' q hi' (.inl hu') hq) fun a ha _ hd => ?_
            obtain ⟨q, hq⟩ := H.S.ex a (H.lt a (List.mem_append_left _ ha))
            unfold dstA at hd
            rw [hq] at hd
            exact key a q (H.lt a (List.mem_append_left _ ha)) (.inr ha) hq hd
          refine pops_YG hT hdo (YG_agree hlook (YG_mono hS sub hy)) ?_
          have hA' : ∀ a ∈ A, upd L i a = L a := fun a ha => by
            unfold upd
            rw [show (a == i) = false by simp; exact fun e => hiA (e ▸ ha)]; rfl
          have hnd : ∀ a ∈ A, ∀ d, dstA ops a = some d → o.dst ≠ some d := fun a ha d hd => by
            obtain ⟨q, hq⟩ := H.S.ex a (H.lt a (List.mem_append_left _ ha))
            unfold dstA at hd
            rw [hq] at hd
            exact H.S.ne i a o q d hik (H.lt a (List.mem_append_left _ ha)) (fun e => hiA (e ▸ ha)) ho hq hd
          refine .inl ⟨clL_upd hc hp, ⟨a0, ha0, by rw [hA' a0 ha0]; exact hu0⟩, fun e he => ?_, ids, fun t ht hta => ?_, fun a ha hL d hd => ?_, fun a ha hL => ?_, fun a ha b hb h1 h2 => ?_, fun id hid => ?_⟩
          · unfold upd
            rw [show (e == i) = false by simp; exact fun h => hie (h ▸ he), hes e he]; rfl
          · have e1 : (∀ d, o.dst = some d → t ≠ d) → fr' t = F t := fun hne' => g1 t (fun i' q hik' hu' hn' he' hq => by
              by_cases e : i' = i
              · subst e
                rw [ho] at hq; cases hq
                intro h; exact hne' t h rfl
              · refine ht i' q hik' ?_ hn' he' hq
                unfold upd
                simp only [Bool.or_eq_false_iff, beq_eq_false_iff_ne]
                exact ⟨e, hu'⟩) fun a ha hL => hta a ha (by rw [hA' a ha]; exact hL)
            cases hdd : o.dst with
            | none => exact e1 fun d h => by rw [hdd] at h; cases h
            | some d =>
              by_cases htd : t = d
              · subst htd; simp [frSet, Fr.set, hU t hdd]
              · have := e1 fun d' h => by rw [hdd] at h; cases h; exact htd
                simp [frSet, Fr.set, htd, this]
          · rw [frSet_ne (hnd a ha d hd)]
            exact g2 a ha (by rw [← hA' a ha]; exact hL) d hd
          · exact g3 a ha (by rw [← hA' a ha]; exact hL)
          · exact g4 a ha b hb (by rw [← hA' a ha]; exact h1) (by rw [← hA' b hb]; exact h2)
          · exact g5 id fun a ha hL => hid a ha (by rw [hA' a ha]; exact hL)
    · exact JG_step hT H.S hlt H.inc H.ch (fun L fr σ h => .inr h) hik ho hu hp hJ
  · rintro L fr' σ' hall (hJ | hJ)
    · obtain ⟨_, ⟨a, ha, hu⟩, _⟩ := hJ
      rw [hall a (hlt2 a (List.mem_append_left _ ha))] at hu; cases hu
    · exact JG_end hT (fun x hx => hlt2 _ (List.getElem_mem hx)) hall hJ

/-- .. as simp runs it. -/
theorem pwp_drawY (hT : T.ok P) (hS : Still T) (k : Nat) (A es : List Nat) (plan : List Stp) {id : Nat} {Q : PX → Fr → Heap → Prop} (hm : P.follows .mixedOrders = true) (hB : drawA P n ops k A es plan = true)
    (h : VK (ops.toList.drop k) (fun tl => xT P T rd n ops Q tl plan fr σ {}) {}) : pwp P rd n (.region id ops true) Q fr σ :=
  pwp_drawF hT hS k A es plan hm hB h
end
end Go.Lo

