/-
  Prices: what the functions compute, part Q: whether a list that grows contains a number; days that are tight.
-/
import Derived.Test.YtnnablbdakomlaaPrP
set_option linter.unusedSimpArgs false
set_option linter.unusedVariables false
namespace Go.Proofs.Ytnnablbdakomlaa
open Go.Lo

/-! ### Contains -/
def numOf : PV → Int
  | .lit (.int _ x) => x
  | _ => 0
/-- The numbers of a list that grows. -/
def rdL (σ : Heap) : PV → List Int
  | .msl id _ _ _ _ => match σ id with | some (.cells cs) => cs.map numOf | _ => []
  | .slice _ rows => decI (.slice true rows)
  | _ => []
theorem rdL_own {σ : Heap} {v : PV} {l : List Int} (h : Own 1 σ v (rowI l)) : rdL σ v = l := by
  obtain ⟨_, h | ⟨id, fl, h1, h2⟩ | h⟩ := h
  · have : l = [] := by simpa [rowI] using h.2
    subst this
    rw [h.1]; rfl
  · subst h1
    rw [rowI_flat] at h2
    simp only [rdL, h2]
    rw [List.map_map]; exact List.map_id'' (fun _ => rfl) l
  · subst h
    exact decI_enc true l
def ownI (σ : Heap) (v : PV) : Prop := ∃ l, Own 1 σ v (rowI l) ∧ l.length ≤ 1000
def cE (r : List Int → Int → PV) (args : List PV) (σ : Heap) : EV := match args with
  | [v, .lit (.int .i64 x)] => ⟨ownI σ v, r (rdL σ v) x⟩
  | _ => .no
@[simp] theorem cE_mk (r : List Int → Int → PV) (v : PV) (x : Int) (σ : Heap) : cE r [v, num x] σ = ⟨ownI σ v, r (rdL σ v) x⟩ := rfl
theorem index48_ok {σ : Heap} {v : PV} {l : List Int} (x : Int) (ho : Own 1 σ v (rowI l)) (hl : l.length ≤ 1000) : pcalls P0 48 [v, num x] σ fun o σ' => o = .val (num (ixF (fun y => decide (x = y)) l 0)) ∧ σ' = σ := by
  obtain ⟨o1, o2⟩ := ho.sv
  obtain ⟨pp, hpp⟩ := own_read ho
  have hlen : Lenx .slice σ v = ⟨True, num l.length⟩ := by
    have := ho.len (P := P0) (t := 22) (e := 3) (by kernel_rfl)
    rcases ho.2 with ⟨rfl, hz⟩ | ⟨id, full, rfl, _⟩ | rfl
    · have : l = [] := by simpa [rowI] using hz
      subst this; simp
    · simp [rowI]
    · simp [rowI]
  refine pcalls_body Try.func48 rfl rfl rfl (by show 2 ≤ _; decide) (pwp_go n_ok ?_)
  simp [o1, o2, hlen]
  refine pwp_loop (fun N fr σ' => ∃ k : Nat, N = l.length - k ∧ k ≤ l.length ∧ fr 0 = v ∧ fr 1 = num x ∧ fr 7 = num l.length ∧ fr 8 = num k ∧ σ' = σ ∧ ixF (fun y => decide (x = y)) l 0 = ixF (fun y => decide (x = y)) (l.drop k) k)
    (N := l.length) ⟨0, by simp⟩ ?_
  rintro N fr σ' ⟨k, rfl, hk, e0, e1, e7, e8, rfl, hi⟩
  refine pwp_go n_ok ?_
  by_cases hlt : k < l.length
  · rw [ixF_drop hlt] at hi
    obtain ⟨r1, r2, r3, r4⟩ := hpp k hlt
    have wk := wrap_succ (k := k) (by omega)
    by_cases hb : x = l[k]
    · rw [if_pos (decide_eq_true hb)] at hi
      simp [e0, e1, e7, e8, hlt, o1, o2, r1, r2, r3, r4, hb, wk]
      rw [← hb, hi]
    · simp [e0, e1, e7, e8, hlt, o1, o2, r1, r2, r3, r4, hb, hi, wk]
      exact ⟨l.length - (k + 1), by omega, k + 1, rfl, by omega, by omega, rfl⟩
  · rw [ixF_end hlt] at hi
    simp [e0, e1, e7, e8, hlt, hi]
def TK : Tab := TJ.add 48 fun args σ => cE (fun l x => num (ixF (fun y => decide (x = y)) l 0)) args σ
theorem TK_ok : TK.ok P0 := Tab.add_ok TJ_ok Try.call48 fun args σ hd => by
  unfold cE at hd ⊢
  split at hd
  · obtain ⟨l, ho, hl⟩ := hd
    simp only [rdL_own ho]
    exact index48_ok _ ho hl
  · exact hd.elim
@[simp] theorem TK_dom48 : TK.dom 48 = true := rfl
@[simp] theorem TK_ev48 (args : List PV) (σ : Heap) : TK.ev 48 args σ = cE (fun l x => num (ixF (fun y => decide (x = y)) l 0)) args σ := rfl
theorem contains30_ok {σ : Heap} {v : PV} {l : List Int} (x : Int) (ho : Own 1 σ v (rowI l)) (hl : l.length ≤ 1000) : pcalls P0 30 [v, num x] σ fun o σ' => o = .val (bo (l.any fun y => decide (x = y))) ∧ σ' = σ := by
  obtain ⟨o1, o2⟩ := ho.sv
  have hw : ownI σ v = True := eq_true ⟨l, ho, hl⟩
  refine pcalls_body Try.func30 rfl rfl rfl (by show 2 ≤ _; decide) (pwp_go TK_ok ?_)
  have := ixF_any (fun y => decide (x = y)) l 0
  simp [o1, o2, hw, rdL_own ho, this]
def TL : Tab := TK.add 30 fun args σ => cE (fun l x => bo (l.any fun y => decide (x = y))) args σ
theorem TL_ok : TL.ok P0 := Tab.add_ok TK_ok Try.call30 fun args σ hd => by
  unfold cE at hd ⊢
  split at hd
  · obtain ⟨l, ho, hl⟩ := hd
    simp only [rdL_own ho]
    exact contains30_ok _ ho hl
  · exact hd.elim
@[simp] theorem TL_dom30 : TL.dom 30 = true := rfl
@[simp] theorem TL_dom29 : TL.dom 29 = true := rfl
@[simp] theorem TL_dom22 : TL.dom 22 = true := rfl
@[simp] theorem TL_dom23 : TL.dom 23 = true := rfl
@[simp] theorem TL_ev30 (args : List PV) (σ : Heap) : TL.ev 30 args σ = cE (fun l x => bo (l.any fun y => decide (x = y))) args σ := rfl
@[simp] theorem TL_ev29 (a : List PV) (σ : Heap) : TL.ev 29 a σ = t1 (fun a s h p => ⟨True, pIt a s h p⟩) a := rfl
@[simp] theorem TL_ev22 (a : List PV) (σ : Heap) : TL.ev 22 a σ = t1 (fun a s h p => ⟨True, bo (validS a s h)⟩) a := rfl
@[simp] theorem TL_ev23 (a : List PV) (σ : Heap) : TL.ev 23 a σ = t1 (fun a s h p => ⟨True, bo (pricedS a p)⟩) a := rfl

/-! ### Tight -/
def tiQ (a : List Int) (s h : Int) (p : List Int) (x t : Nat) : Bool := some_ (nf a) x (t + 1 - x) && decide (sl a s h p x t = 0)
def ints (l : List Nat) : List Int := l.map fun (d : Nat) => (d : Int)
def tiTo (a : List Int) (s h : Int) (p : List Int) (k : Nat) : List Nat := ((prs a).take k).foldl (fun l q => tStep l (q.1, tiQ a s h p q.1 q.2)) []
theorem tiTo_succ {a : List Int} {s h : Int} {p : List Int} {k : Nat} (hk : k < (prs a).length) : tiTo a s h p (k + 1) = tStep (tiTo a s h p k) ((prs a)[k].1, tiQ a s h p (prs a)[k].1 (prs a)[k].2) := by
  unfold tiTo
  rw [List.take_succ_eq_append_getElem hk, List.foldl_append]; rfl
def tiS (a : List Int) (s h : Int) (p : List Int) : List Nat := tightDays a.length (tiQ a s h p) a.length
theorem tiTo_all (a : List Int) (s h : Int) (p : List Int) : tiTo a s h p (prs a).length = tiS a s h p := by
  unfold tiTo tiS
  rw [List.take_length, ← tight_fold]
  unfold prs
  rw [← rowsTo_map (g := fun x t => (x, t)) (f := fun q : Nat × Nat => (q.1, tiQ a s h p q.1 q.2)), List.foldl_map]
theorem tiS_length (a : List Int) (s h : Int) (p : List Int) : (tiS a s h p).length ≤ a.length := by
  unfold tiS tightDays
  exact Nat.le_trans (List.length_filter_le _ _) (by simp)
theorem any_ints (l : List Nat) (x : Nat) : (ints l).any (fun y => decide ((x : Int) = y)) = l.contains x := by
  unfold ints
  rw [List.any_map, Bool.eq_iff_iff, List.any_eq_true, List.contains_iff_mem]
  constructor
  · rintro ⟨y, hy, e⟩
    have : (x : Int) = (y : Int) := of_decide_eq_true e
    rw [show x = y by omega]; exact hy
  · intro hx; exact ⟨x, hx, decide_eq_true rfl⟩
def tightR (a : List Int) (s h : Int) (p : List Int) : PV := if validS a s h && pricedS a p then .tup [encI false (ints (tiS a s h p)), num 0] else .tup [.lit (.slice none 0 0), num 230]

/-! ### Tools -/
theorem pwp_gen {P : Program} {rd : Bool} {n : Nat} {c : Code} {Q : PX → Fr → Heap → Prop} {fr : Fr} {σ : Heap} {I : Fr → Heap → Prop} (h : I fr σ) (k : ∀ fr σ, I fr σ → pwp P rd n c Q fr σ) : pwp P rd n c Q fr σ := k _ _ h
theorem two {P : Program} {n : Nat} {I : Fr → Heap → Prop} {G : Prop} {c : Code} {Q : PX → Fr → Heap → Prop} (main : (∀ fr σ, I fr σ → pwp P false n c Q fr σ) → G) (key : ∀ fr σ, I fr σ → pwp P false n c Q fr σ) : G := main key
theorem setR_num (l : List Int) (k : Nat) (z : Int) (hk : k < l.length) : setR (l.map num) k [num z] = (l.set k z).map num := by
  unfold setR
  rw [List.set_eq_take_append_cons_drop, if_pos hk]
  simp
theorem chunk_num' {n : Nat} {σf : Heap} (full : Bool) (M : List Int) : PV.slice full (chunks 1 M.length (M.map (frzN n σf ∘ num))) = encI full M := by
  have e : M.map (frzN n σf ∘ num) = (rowI M).flatten := by rw [rowI_flat]; exact List.map_congr_left fun x _ => frzN_num _ _ _
  have l : M.length = (rowI M).length := by simp [rowI]
  rw [e, l, Go.Lo.chunks_flatten (rowI M) (rowI_one M)]
  rfl
theorem pcalls_ownT {f : FuncId} {args : List PV} {σ : Heap} {l : List Int} {e : Int} (h : pcalls P0 f args σ fun o σ' => ∃ v, o = .val (.tup [v, num e]) ∧ Own 1 σ' v (rowI l)) : pcalls P0 f args σ fun o _ => o = .val (.tup [encI false l, num e]) := by
  refine pcalls.wk (pcalls_frz (h.mono ?_))
  rintro o σ' ⟨v, rfl, ho⟩
  obtain ⟨hk, ⟨rfl, hz⟩ | ⟨id, full, rfl, hid⟩ | rfl⟩ := ho
  · have : l = [] := by simpa [rowI] using hz
    subst this
    exact ⟨0, Heap.empty, .none, _, rfl, PLe.tup (.cons (PLe.encI_nil false) (.cons (.refl _) .nil))⟩
  · rw [rowI_flat] at hid
    refine ⟨2, Heap.empty.set id (.cells (l.map num)), Frz.set Frz.none hid, .tup [encI full l, num e], ?_, PLe.tup (.cons (PLe.encI_full _ _) (.cons (.refl _) .nil))⟩
    have hch := chunk_num' (n := 0) (σf := Heap.empty.set id (.cells (l.map num))) full l
    have hrl : (rowI l).length = l.length := by simp [rowI]
    rw [hrl]
    simp only [frzO, frzN_tup, List.map_cons, List.map_nil, frzN_msl, frzN_num]
    rw [Heap.set_at, if_pos (show SameId id id from rfl)]
    simp only [cellsO_some, FZM_some, List.drop_zero]
    rw [if_pos (by simp), List.map_map, hch]
  · exact ⟨0, Heap.empty, .none, .tup [encI true l, num e], rfl, PLe.tup (.cons (PLe.encI_full _ _) (.cons (.refl _) .nil))⟩

theorem tStep_length (l : List Nat) (x : Nat × Bool) : (tStep l x).length ≤ l.length + 1 := by
  unfold tStep; split <;> simp
theorem tiTo_length {a : List Int} {s h : Int} {p : List Int} : ∀ k, k ≤ (prs a).length → (tiTo a s h p k).length ≤ k := by
  intro k
  induction k with
  | zero => intro _; simp [tiTo]
  | succ k ih =>
    intro hk
    rw [tiTo_succ (show k < (prs a).length by omega)]
    have := tStep_length (tiTo a s h p k) ((prs a)[k].1, tiQ a s h p (prs a)[k].1 (prs a)[k].2)
    have := ih (by omega)
    omega
theorem offTo_le (N : Nat) : ∀ a, offTo N a ≤ a * N := by
  intro a
  induction a with
  | zero => simp [offTo]
  | succ a ih => simp only [offTo]; rw [Nat.succ_mul]; omega
theorem prs_length {a : List Int} (h : a.length ≤ 16) : (prs a).length ≤ 256 := by
  unfold prs
  rw [rowsTo_length]
  have h1 := offTo_le a.length a.length
  have h2 : a.length * a.length ≤ 16 * 16 := Nat.mul_le_mul h h
  omega

@[simp] theorem zero22 : zeroP P0 22 = some [.lit (.slice none 0 0)] := by kernel_rfl
theorem neNum {c : PV} {cs : List PV} {l : List Int} (hc : c ∈ cs) (hn : ∀ z, c ≠ num z) : cs ≠ (rowI l).flatten := fun e => by
  rw [rowI_flat] at e
  rw [e] at hc
  obtain ⟨z, _, rfl⟩ := List.mem_map.1 hc
  exact hn z rfl
theorem own_notNum {σ : Heap} {v : PV} {l : List Int} (h : Own 1 σ v (rowI l)) : ∀ z, v ≠ num z := fun z e => by
  obtain ⟨_, ⟨rfl, _⟩ | ⟨_, _, rfl, _⟩ | rfl⟩ := h <;> cases e
theorem rowI_ints (l : List Nat) (x : Nat) : rowI (ints l) ++ [[num (x : Int)]] = rowI (ints (l ++ [x])) := by simp [rowI, ints]

theorem tight13_ok (a : List Int) (s h : Int) (p : List Int) (ha : a.length ≤ maxLen) (hpm : p.length ≤ maxLen) : PFun P0 13 [encI false a, num s, num h, encI false p] (tightR a s h p) := by
  unfold tightR
  by_cases hv : validS a s h = true
  · by_cases hq : pricedS a p = true
    · rw [if_pos (by simp [hv, hq])]
      have H := ok_of hv
      have hp := prc_of hq
      have hf := H.few
      have hpl := hp.len
      have hprs := prs_length hf
      refine pcalls_ownT ?_
      refine pcalls_body Try.func13 rfl rfl rfl (by show 4 ≤ _; decide) (pwp_go TL_ok ?_)
      simp (config := { contextual := true }) [ha, hpm, hv, hq]
      intro id8 id10 h1
      refine pwp_rangeT TL_ok (fun k σ => ∃ v, σ id8 = some (.cells [v]) ∧ σ id10 = some (.cells (taskC a s h p)) ∧ Own 1 σ v (rowI (ints (tiTo a s h p k)))) (pairIt H hp) (by simp; rfl) Try.call47 (fun v hv => by rw [pVs_one _ _ _ _ v hv]; rfl) (by decide)
        ?_ ?_ ?_
      · refine ⟨.lit (.slice none 0 0), by simp [h1], by simp [h1, taskC], ?_⟩
        exact Own.nil 1 _
      · rintro k σ hk ⟨v, s8, s10, ho⟩
        have hk' : k < (prs a).length := by rw [← pVs_len a s h p]; exact hk
        have hlen := tiTo_length (a := a) (s := s) (h := h) (p := p) k (by omega)
        have hsucc := tiTo_succ (s := s) (h := h) (p := p) hk'
        rw [pVs_at hk hk', pairP]
        generalize (prs a)[k].1 = x at *
        generalize (prs a)[k].2 = t at *
        obtain ⟨l, hl⟩ : ∃ l, tiTo a s h p k = l := ⟨_, rfl⟩
        rw [hl] at ho hlen hsucc
        have hil : (ints l).length ≤ 1000 := by simp [ints]; omega
        simp [-NEW_def, s8, s10, h1]
        refine fun id11 h11 => ?_
        have c1 := frs.ne h11 s8
        have c2 := frs.ne h11 s10
        obtain ⟨o1, o2⟩ := ho.sv
        have ho' := ho.new (id := id11) (x := .cells [num x, num t, num (sl a s h p x t), bo (some_ (nf a) x (t + 1 - x))]) h11
        have hw : ownI (σ.set id11 (.cells [num x, num t, num (sl a s h p x t), bo (some_ (nf a) x (t + 1 - x))])) v = True := eq_true ⟨_, ho', hil⟩
        have hr := rdL_own ho'
        have hany := any_ints l x
        cases hb : some_ (nf a) x (t + 1 - x) <;> rw [hb] at ho' hw hr
        · have hQ : tiQ a s h p x t = false := by simp [tiQ, hb]
          have hS : tiTo a s h p (k + 1) = l := by rw [hsucc, hQ]; simp [tStep]
          simp [s8, s10, h1, c1, c2, o1, o2, hS]
          exact ho'
        · by_cases hz : sl a s h p x t = 0
          · have hQ : tiQ a s h p x t = true := by simp [tiQ, hb, hz]
            rw [hz] at ho' hw hr
            cases hc : l.contains x with
            | true =>
              have hS : tiTo a s h p (k + 1) = l := by rw [hsucc, hQ]; simp [tStep]; simpa using hc
              rw [hc] at hany
              simp [s8, s10, h1, c1, c2, o1, o2, hS, hz, hw, hr, hany]
              exact ho'
            | false =>
              have hS : tiTo a s h p (k + 1) = l ++ [x] := by rw [hsucc, hQ]; simp [tStep]; simpa using hc
              rw [hc] at hany
              simp [s8, s10, h1, c1, c2, o1, o2, hS, hz, hw, hr, hany]
              refine own_append (k := 1) (b := 8) (rows := rowI (ints l)) (new := [[num (x : Int)]]) (zs := [num 0]) ho' elem22 (by decide) rfl (by decide) isl22 ⟨fun r hr => by simp at hr; subst hr; rfl, rfl, rfl⟩ (by simp [isCell1]) (by simp [rowI, ints]; omega) ?_
              intro V σ2 hV hK _
              obtain ⟨v1, v2⟩ := hV.sv
              obtain ⟨q1, q2, q3⟩ := hV.cell
              have t8 : σ2 id8 = some (.cells [v]) := by
                have e : (σ.set id11 (PObj.cells [num ↑x, num ↑t, num 0, bo true])) id8 = some (.cells [v]) := by simp [c1, s8]
                rw [hK id8 (by rw [e]; simp) (ho'.ne e (neNum (c := v) (by simp) (own_notNum ho))), e]
              have t10 : σ2 id10 = some (.cells (taskC a s h p)) := by
                have e : (σ.set id11 (PObj.cells [num ↑x, num ↑t, num 0, bo true])) id10 = some (.cells (taskC a s h p)) := by simp [c2, s10]
                rw [hK id10 (by rw [e]; simp) (ho'.ne e (neNum (c := encI false a) (by simp [taskC]) (fun z e => by cases e))), e]
              simp [v1, v2, t8, t10, q1, q2, q3, h1, hS]
              rw [rowI_ints] at hV
              exact hV.set fun cs e => by rw [t8] at e; cases e; exact neNum (c := v) (by simp) (own_notNum ho)
          · have hQ : tiQ a s h p x t = false := by simp [tiQ, hb, hz]
            have hS : tiTo a s h p (k + 1) = l := by rw [hsucc, hQ]; simp [tStep]
            simp [s8, s10, h1, c1, c2, o1, o2, hS, hz]
            exact ho'
      · rintro σ ⟨v, s8, s10, ho⟩
        obtain ⟨o1, o2⟩ := ho.sv
        rw [pVs_len, tiTo_all] at ho
        obtain ⟨q1, q2, q3⟩ := ho.cell
        simp [s8, s10, h1, o1, o2, q1, q2, q3]
        exact ho.set fun cs e => by rw [s8] at e; cases e; exact neNum (c := v) (by simp) (own_notNum ho)
    · rw [if_neg (by simp [hq])]
      refine pcalls_body Try.func13 rfl rfl rfl (by show 4 ≤ _; decide) (pwp_go TL_ok ?_)
      simp (config := { contextual := true }) [ha, hpm, hv, hq]
  · rw [if_neg (by simp [hv])]
    refine pcalls_body Try.func13 rfl rfl rfl (by show 4 ≤ _; decide) (pwp_go TL_ok ?_)
    simp (config := { contextual := true }) [ha, hpm, hv]
end Go.Proofs.Ytnnablbdakomlaa
