/-
  Network: what the functions compute, part G: Send, without.
-/
import Derived.Test.YtgcoikbgpkfcnaaNwF
set_option linter.unusedSimpArgs false
set_option linter.unusedVariables false
namespace Go.Proofs.Ytgcoikbgpkfcnaa
open Go.Lo

theorem rowsK_three (l : List Pk) : ∀ r ∈ l.map rowK, r.length = 3 := fun r hr => by
  obtain ⟨p, _, rfl⟩ := List.mem_map.1 hr; rfl
theorem rowsK_new (l : List Pk) : ∀ r ∈ l.map rowK, r.length = 3 ∧ ∀ c ∈ r, isCell1 c = true := fun r hr => by
  obtain ⟨p, _, rfl⟩ := List.mem_map.1 hr
  exact ⟨rfl, fun c hc => by simp [rowK] at hc; rcases hc with rfl | rfl | rfl <;> rfl⟩
theorem rowsK_frz (m : Nat) (σ : Heap) (l : List Pk) : (l.map rowK).flatten.map (frzN m σ) = (l.map rowK).flatten := by
  induction l with
  | nil => rfl
  | cons p l ih => simp only [List.map_cons, List.flatten_cons, List.map_append, ih, frzN_rowK]
theorem chunkK {σf : Heap} (m : Nat) (full : Bool) (l : List Pk) : PV.slice full (chunks 3 l.length ((l.map rowK).flatten.map (frzN m σf))) = encQ full l := by
  rw [rowsK_frz, show l.length = (l.map rowK).length by simp, Go.Lo.chunks_flatten (l.map rowK) (rowsK_three l)]; rfl
theorem ownK_full (σ : Heap) (l : List Pk) : Own 3 σ (encQ true l) (l.map rowK) := Own.full 3 σ (rowsK_three l)
/-- A result whose queue has grown. -/
theorem pcalls_ownT {f : FuncId} {args : List PV} {σ : Heap} {m : Nt} {e : Int} (h : pcalls P0 f args σ fun o σ' => ∃ V, o = .val (.tup [.agg [V, encA false m.a], num e]) ∧ Own 3 σ' V (m.q.map rowK)) : pcalls P0 f args σ fun o _ => o = .val (.tup [.agg (netC m), num e]) := by
  refine pcalls.wk (pcalls_frz (h.mono ?_))
  rintro o σ' ⟨v, rfl, ho⟩
  have fin : ∀ {u}, PLe u (encQ false m.q) → PLe (.tup [.agg [u, encA false m.a], num e]) (.tup [.agg (netC m), num e]) := fun hu => PLe.tup (.cons (.agg (.cons hu (.cons (.refl _) .nil))) (.cons (.refl _) .nil))
  obtain ⟨hk, ⟨rfl, hz⟩ | ⟨id, full, rfl, hid⟩ | rfl⟩ := ho
  · have : m.q = [] := by simpa using hz
    refine ⟨0, Heap.empty, .none, _, rfl, fin ?_⟩
    rw [this]; exact PLe.nil false
  · refine ⟨3, Heap.empty.set id (.cells (m.q.map rowK).flatten), Frz.set Frz.none hid, .tup [.agg [encQ full m.q, encA false m.a], num e], ?_, fin (PLe.unfull _ _)⟩
    have hch := chunkK (σf := Heap.empty.set id (.cells (m.q.map rowK).flatten)) 0 full m.q
    have hl := (flatten_getD hk).1
    simp only [frzO, frzN_tup, frzN_agg, List.map_cons, List.map_nil, frzN_msl, frzN_num, frzN_encA]
    rw [Heap.set_at, if_pos (show SameId id id from rfl)]
    simp only [cellsO_some, FZM_some, List.drop_zero]
    rw [if_pos (by rw [hl]; omega), show (m.q.map rowK).length = m.q.length by simp, hch]
  · exact ⟨0, Heap.empty, .none, .tup [.agg [encQ true m.q, encA false m.a], num e], rfl, fin (PLe.unfull _ _)⟩
theorem pcalls_ownA {f : FuncId} {args : List PV} {σ : Heap} {m : Nt} (h : pcalls P0 f args σ fun o σ' => ∃ V, o = .val (.agg [V, encA false m.a]) ∧ Own 3 σ' V (m.q.map rowK)) : pcalls P0 f args σ fun o _ => o = .val (.agg (netC m)) := by
  refine pcalls.wk (pcalls_frz (h.mono ?_))
  rintro o σ' ⟨v, rfl, ho⟩
  have fin : ∀ {u}, PLe u (encQ false m.q) → PLe (.agg [u, encA false m.a]) (.agg (netC m)) := fun hu => PLe.agg (.cons hu (.cons (.refl _) .nil))
  obtain ⟨hk, ⟨rfl, hz⟩ | ⟨id, full, rfl, hid⟩ | rfl⟩ := ho
  · have : m.q = [] := by simpa using hz
    refine ⟨0, Heap.empty, .none, _, rfl, fin ?_⟩
    rw [this]; exact PLe.nil false
  · refine ⟨2, Heap.empty.set id (.cells (m.q.map rowK).flatten), Frz.set Frz.none hid, .agg [encQ full m.q, encA false m.a], ?_, fin (PLe.unfull _ _)⟩
    have hch := chunkK (σf := Heap.empty.set id (.cells (m.q.map rowK).flatten)) 0 full m.q
    have hl := (flatten_getD hk).1
    simp only [frzO, frzN_agg, List.map_cons, List.map_nil, frzN_msl, frzN_encA]
    rw [Heap.set_at, if_pos (show SameId id id from rfl)]
    simp only [cellsO_some, FZM_some, List.drop_zero]
    rw [if_pos (by rw [hl]; omega), show (m.q.map rowK).length = m.q.length by simp, hch]
  · exact ⟨0, Heap.empty, .none, .agg [encQ true m.q, encA false m.a], rfl, fin (PLe.unfull _ _)⟩
/-- Cells that are no row's. -/
theorem neRows {c : PV} {cs : List PV} {l : List Pk} (hl : cs.length = 2) : cs ≠ (l.map rowK).flatten := fun e => by
  have := (flatten_getD (rowsK_three l)).1
  rw [← e, hl] at this
  have : 3 ∣ 2 := ⟨(l.map rowK).length, by omega⟩
  omega

theorem Slx_encQ_own (σ : Heap) (b : Bool) (l : List Pk) (k k' : IntKind) : Slx (some (none, 3, true)) σ (encQ b l) none (some (.lit (.int k (l.length : Int)))) (some (.lit (.int k' (l.length : Int)))) = ⟨True, encQ true l⟩ := by
  unfold encQ
  rw [Slx_rows]
  simp [SlR, bnd]
  exact ⟨fun _ _ => rfl, by rw [List.take_of_length_le (by simp)]⟩
theorem Slx_encQ_pre (σ : Heap) (b : Bool) (l : List Pk) (k k' : IntKind) (i : Nat) (hi : i ≤ l.length) : Slx (some (none, 3, true)) σ (encQ b l) none (some (.lit (.int k (i : Int)))) (some (.lit (.int k' (i : Int)))) = ⟨True, encQ true (l.take i)⟩ := by
  unfold encQ
  rw [Slx_rows]
  simp [SlR, bnd, hi]
  exact fun _ _ => rfl
theorem Slx_encQ_to (σ : Heap) (b : Bool) (l : List Pk) (k : IntKind) (i : Nat) (hi : i ≤ l.length) : Slx (some (none, 3, true)) σ (encQ b l) none (some (.lit (.int k (i : Int)))) none = ⟨True, encQ (b && decide (i = l.length)) (l.take i)⟩ := by
  unfold encQ
  rw [Slx_rows]
  simp [SlR, bnd, hi]
  exact ⟨fun _ _ => rfl, by congr 1; rw [decide_eq_decide]; omega⟩
theorem Slx_encQ_suf (σ : Heap) (b : Bool) (l : List Pk) (k : IntKind) (i : Nat) (hi : i ≤ l.length) : Slx (some (none, 3, true)) σ (encQ b l) (some (.lit (.int k (i : Int)))) none none = ⟨True, encQ b (l.drop i)⟩ := by
  unfold encQ
  rw [Slx_rows]
  simp [SlR, bnd, hi]
  exact ⟨fun _ _ => rfl, by rw [List.take_of_length_le (by simp)]⟩

@[simp] theorem TG_dom28 : TG.dom 28 = true := rfl
@[simp] theorem TG_dom29 : TG.dom 29 = true := rfl
@[simp] theorem TG_ev28 (a : List PV) (σ : Heap) : TG.ev 28 a σ = p1 (fun p => bo (vP p)) a := rfl
@[simp] theorem TG_ev29 (a : List PV) (σ : Heap) : TG.ev 29 a σ = p1 (fun p => bo (vP p)) a := rfl
theorem keeps_full {σ σ' : Heap} {b : Bool} {rows : List (List PV)} (h : Keeps (.slice b rows) σ σ') {j : Nat} {x : PObj} (hj : σ j = some x) : σ' j = some x := by
  rw [h j (by rw [hj]; simp) (fun _ _ _ _ e => by cases e), hj]

def sendR (n : Nt) (p : Pk) : PV := if vN n && vP p then (if n.q.length = 4096 then .tup [netZ, num 2] else .tup [.agg (netC ⟨n.q ++ [p], n.a⟩), num 0]) else .tup [netZ, num 460]
theorem send11_ok (n : Nt) (p : Pk) (hn : okN n) (hp : okP p) : PFun P0 11 [.agg (netC n), .agg (rowK p)] (sendR n p) := by
  unfold sendR
  by_cases h1 : vN n = true
  · by_cases h2 : vP p = true
    · rw [if_pos (by rw [h1, h2]; rfl)]
      by_cases h3 : n.q.length = 4096
      · refine pcalls_body Try.func11 rfl rfl rfl (by show 2 ≤ _; decide) (pwp_go TG_ok ?_)
        have h3' : (n.q.length : Int) = 4096 := by omega
        have hq := hn.1
        have ha := hn.2
        have hd := hp
        unfold okP at hd
        simp (config := { contextual := true }) [netC, rowK, hq, ha, hd, chkR, h1, h2, h3, h3', netZ]
      · rw [if_neg h3]
        refine pcalls_ownT (m := ⟨n.q ++ [p], n.a⟩) ?_
        refine pcalls_body Try.func11 rfl rfl rfl (by show 2 ≤ _; decide) (pwp_go TG_ok ?_)
        have h3' : ¬ (n.q.length : Int) = 4096 := by omega
        have hq := hn.1
        have ha := hn.2
        have hd := hp
        have hql := hq.2
        unfold okP at hd
        have hlen : n.q.length ≤ 4096 := by have := (vN_parts.1 h1).1.1; omega
        simp (config := { contextual := true }) [netC, rowK, hq, ha, hd, chkR, h1, h2, h3, h3']
        intro id2 id3 a1 id4 a2 a3
        refine pwp_drawT TG_ok 11 mixed (by kernel_rfl) ?_
        simp [a1, a2, a3, Slx_encQ_own]
        refine own_append (k := 3) (b := 40) (rows := n.q.map rowK) (new := [rowK p]) (zs := [num 0, num 0, .lit (.slice none 0 0)]) (ownK_full _ n.q) elem22 (by decide) rfl (by decide) isl22 (yv_row fun r hr => by simp at hr; subst hr; rfl) (by simpa using rowsK_new [p]) (by simp; omega) ?_
        intro V σ2 hV hK _
        have t2 := keeps_full hK (j := id2) (x := .cells [encQ false n.q, encA false n.a]) (by simp [a1, a3])
        have t4 := keeps_full hK (j := id4) (x := .cells [.lit (.slice none 0 0), .lit (.slice none 0 0)]) (by simp)
        obtain ⟨v1, v2⟩ := hV.sv
        obtain ⟨c1, c2, c3⟩ := hV.cell
        have hrow : n.q.map rowK ++ [rowK p] = (n.q ++ [p]).map rowK := by simp
        rw [hrow] at hV
        simp [a1, a2, a3, t2, t4, v1, v2, c1, c2, c3]
        rw [hrow]
        refine (hV.set fun cs e => ?_).set fun cs e => ?_
        · rw [t2] at e; cases e; exact neRows (c := encA false n.a) rfl
        · simp [a3, t4] at e; subst e; exact neRows (c := encA false n.a) rfl
    · rw [if_neg (by simp [h2])]
      refine pcalls_body Try.func11 rfl rfl rfl (by show 2 ≤ _; decide) (pwp_go TG_ok ?_)
      have hq := hn.1
      have ha := hn.2
      have hd := hp
      unfold okP at hd
      simp (config := { contextual := true }) [netC, rowK, hq, ha, hd, chkR, h1, h2, netZ]
  · rw [if_neg (by simp [h1])]
    refine pcalls_body Try.func11 rfl rfl rfl (by show 2 ≤ _; decide) (pwp_go TG_ok ?_)
    have hq := hn.1
    have ha := hn.2
    simp (config := { contextual := true }) [netC, rowK, hq, ha, chkR, h1, netZ]
def I12 (n : Nt) (p : Pk) (id2 id3 id4 : Nat) (L : Nat → Bool) (fr : Fr) (σ : Heap) : Prop :=
  (fr 2 = .ptr id2 0) ∧ (fr 3 = .ptr id3 0) ∧ (fr 4 = .ptr id4 0) ∧ σ id2 = some (.cells [encQ false n.q, encA false n.a]) ∧ σ id3 = some (.cells [num p.f, num p.t, encB false p.d]) ∧ σ id4 = some (.cells [.lit (.slice none 0 0), .lit (.slice none 0 0)]) ∧ (L 0 = true → fr 20 = .slice true []) ∧ (L 1 = true → fr 21 = .ptr id2 0) ∧ (L 2 = true → fr 22 = encQ false n.q) ∧ (L 3 = true → Own 3 σ (fr 23) (n.q.map rowK)) ∧ (L 4 = true → fr 24 = .agg [num p.f, num p.t, encB false p.d]) ∧ (L 5 = true → fr 25 = .slice true [[num p.f, num p.t, encB false p.d]])
theorem rsend12_ok (n : Nt) (p : Pk) (hn : okN n) (hp : okP p) : PFun P0 12 [.agg (netC n), .agg (rowK p)] (sendR n p) := by
  unfold sendR
  by_cases h1 : vN n = true
  · by_cases h2 : vP p = true
    · rw [if_pos (by rw [h1, h2]; rfl)]
      by_cases h3 : n.q.length = 4096
      · refine pcalls_body Try.func12 rfl rfl rfl (by show 2 ≤ _; decide) (pwp_go TG_ok ?_)
        have h3' : (n.q.length : Int) = 4096 := by omega
        have hq := hn.1
        have ha := hn.2
        have hd := hp
        unfold okP at hd
        simp (config := { contextual := true }) [netC, rowK, hq, ha, hd, chkR, h1, h2, h3, h3', netZ]
      · rw [if_neg h3]
        refine pcalls_ownT (m := ⟨n.q ++ [p], n.a⟩) ?_
        refine pcalls_body Try.func12 rfl rfl rfl (by show 2 ≤ _; decide) (pwp_go TG_ok ?_)
        have h3' : ¬ (n.q.length : Int) = 4096 := by omega
        have hq := hn.1
        have ha := hn.2
        have hd := hp
        have hql := hq.2
        unfold okP at hd
        have hlen : n.q.length ≤ 4096 := by have := (vN_parts.1 h1).1.1; omega
        simp (config := { contextual := true }) [netC, rowK, hq, ha, hd, chkR, h1, h2, h3, h3']
        intro id2 id3 a1 id4 a2 a3
        refine pwpT_go (pwp_gen (I := fun fr σ => fr 2 = .ptr id2 0 ∧ fr 3 = .ptr id3 0 ∧ fr 4 = .ptr id4 0 ∧ σ id2 = some (.cells [encQ false n.q, encA false n.a]) ∧ σ id3 = some (.cells [num p.f, num p.t, encB false p.d]) ∧ σ id4 = some (.cells [.lit (.slice none 0 0), .lit (.slice none 0 0)])) (by simp [a1, a2, a3]) ?_)
        rintro fr σ ⟨e2, e3, e4, s2, s3, s4⟩
        refine pwp_drawI (k := 6) (I := I12 n p id2 id3 id4) mixed (by kernel_rfl) (by kernel_rfl) (by decide) ?_ ?_ ?_
        · exact ⟨e2, e3, e4, by simpa using s2, by simpa using s3, by simpa using s4, nofun, nofun, nofun, nofun, nofun, nofun⟩
        · clear e2 e3 e4 s2 s3 s4
          rintro L fr σ i o hi ho hLi hp ⟨e2, e3, e4, s2, s3, s4, i0, i1, i2, i3, i4, i5⟩
          refine pops_pst TG_ok (show pT P0 TG false 29 _ _ [o] fr σ {} from ?_)
          rcases (show i = 0 ∨ i = 1 ∨ i = 2 ∨ i = 3 ∨ i = 4 ∨ i = 5 by omega) with rfl | rfl | rfl | rfl | rfl | rfl
          · simp at ho; subst ho
            simp [e2, e3, e4, s2, s3, s4]
            exact ⟨by simp [e2], by simp [e3], by simp [e4], by simpa [upd] using s2, by simpa [upd] using s3, by simpa [upd] using s4, fun _ => by simp, by simpa [upd] using i1, by simpa [upd] using i2, by simpa [upd] using i3, by simpa [upd] using i4, by simpa [upd] using i5⟩
          · simp at ho; subst ho
            simp [e2, e3, e4, s2, s3, s4]
            exact ⟨by simp [e2], by simp [e3], by simp [e4], by simpa [upd] using s2, by simpa [upd] using s3, by simpa [upd] using s4, by simpa [upd] using i0, fun _ => by simp, by simpa [upd] using i2, by simpa [upd] using i3, by simpa [upd] using i4, by simpa [upd] using i5⟩
          · simp at ho; subst ho
            have l1 := hp 1 (of_decide_eq_true (by kernel_rfl))
            have q1 := i1 l1
            simp [e2, e3, e4, s2, s3, s4, q1]
            exact ⟨by simp [e2], by simp [e3], by simp [e4], by simpa [upd] using s2, by simpa [upd] using s3, by simpa [upd] using s4, by simpa [upd] using i0, by simpa [upd] using i1, fun _ => by simp, by simpa [upd] using i3, by simpa [upd] using i4, by simpa [upd] using i5⟩
          · simp at ho; subst ho
            have l0 := hp 0 (of_decide_eq_true (by kernel_rfl))
            have q0 := i0 l0
            have l2 := hp 2 (of_decide_eq_true (by kernel_rfl))
            have q2 := i2 l2
            simp [e2, e3, e4, s2, s3, s4, q0, q2]
            refine own_append (k := 3) (b := 40) (rows := []) (new := n.q.map rowK) (zs := [num 0, num 0, .lit (.slice none 0 0)]) (Own.full 3 _ (by simp)) elem22 (by decide) rfl (by decide) isl22 (yv_row (rowsK_three n.q)) (rowsK_new n.q) (by simp; omega) ?_
            intro V σ2 hV hK _
            rw [List.nil_append] at hV
            have t2 := keeps_full hK s2
            have t3 := keeps_full hK s3
            have t4 := keeps_full hK s4
            simp
            exact ⟨by simp [e2], by simp [e3], by simp [e4], t2, t3, t4, by simpa [upd] using i0, by simpa [upd] using i1, by simpa [upd] using i2, fun _ => by simpa using hV, by simpa [upd] using i4, by simpa [upd] using i5⟩
          · simp at ho; subst ho
            simp [e2, e3, e4, s2, s3, s4]
            exact ⟨by simp [e2], by simp [e3], by simp [e4], by simpa [upd] using s2, by simpa [upd] using s3, by simpa [upd] using s4, by simpa [upd] using i0, by simpa [upd] using i1, by simpa [upd] using i2, by simpa [upd] using i3, fun _ => by simp, by simpa [upd] using i5⟩
          · simp at ho; subst ho
            have l4 := hp 4 (of_decide_eq_true (by kernel_rfl))
            have q4 := i4 l4
            simp [e2, e3, e4, s2, s3, s4, q4]
            exact ⟨by simp [e2], by simp [e3], by simp [e4], by simpa [upd] using s2, by simpa [upd] using s3, by simpa [upd] using s4, by simpa [upd] using i0, by simpa [upd] using i1, by simpa [upd] using i2, by simpa [upd] using i3, by simpa [upd] using i4, fun _ => by simp⟩
        · clear e2 e3 e4 s2 s3 s4
          rintro L fr σ hall ⟨e2, e3, e4, s2, s3, s4, i0, i1, i2, i3, i4, i5⟩
          have q0 := i0 (hall 0 (by omega))
          have q1 := i1 (hall 1 (by omega))
          have q2 := i2 (hall 2 (by omega))
          have q3 := i3 (hall 3 (by omega))
          have q4 := i4 (hall 4 (by omega))
          have q5 := i5 (hall 5 (by omega))
          obtain ⟨o1, o2⟩ := q3.sv
          refine pops_pst TG_ok (show pT P0 TG false 29 _ _ [_, _, _] fr σ {} from ?_)
          simp [e2, e3, e4, s2, s3, s4, q5, o1, o2]
          refine own_append (k := 3) (b := 40) (rows := n.q.map rowK) (new := [rowK p]) (zs := [num 0, num 0, .lit (.slice none 0 0)]) q3 elem22 (by decide) rfl (by decide) isl22 (yv_row fun r hr => by simp at hr; subst hr; rfl) (by simpa using rowsK_new [p]) (by simp; omega) ?_
          intro V σ2 hV hK _
          have n2 : ∀ k off len full, fr 23 ≠ .msl id2 k off len full := q3.ne s2 (neRows (c := encA false n.a) rfl)
          have n4 : ∀ k off len full, fr 23 ≠ .msl id4 k off len full := q3.ne s4 (neRows (c := encA false n.a) rfl)
          have t2 : σ2 id2 = some (.cells [encQ false n.q, encA false n.a]) := by rw [hK id2 (by rw [s2]; simp) n2, s2]
          have t4 : σ2 id4 = some (.cells [.lit (.slice none 0 0), .lit (.slice none 0 0)]) := by rw [hK id4 (by rw [s4]; simp) n4, s4]
          obtain ⟨v1, v2⟩ := hV.sv
          obtain ⟨c1, c2, c3⟩ := hV.cell
          have hrow : n.q.map rowK ++ [rowK p] = (n.q ++ [p]).map rowK := by simp
          rw [hrow] at hV
          simp [e2, e3, e4, a1, a2, a3, t2, t4, v1, v2, c1, c2, c3]
          rw [hrow]
          refine (hV.set fun cs e => ?_).set fun cs e => ?_
          · rw [t2] at e; cases e; exact neRows (c := encA false n.a) rfl
          · simp [a3, t4] at e; subst e; exact neRows (c := encA false n.a) rfl
    · rw [if_neg (by simp [h2])]
      refine pcalls_body Try.func12 rfl rfl rfl (by show 2 ≤ _; decide) (pwp_go TG_ok ?_)
      have hq := hn.1
      have ha := hn.2
      have hd := hp
      unfold okP at hd
      simp (config := { contextual := true }) [netC, rowK, hq, ha, hd, chkR, h1, h2, netZ]
  · rw [if_neg (by simp [h1])]
    refine pcalls_body Try.func12 rfl rfl rfl (by show 2 ≤ _; decide) (pwp_go TG_ok ?_)
    have hq := hn.1
    have ha := hn.2
    simp (config := { contextual := true }) [netC, rowK, hq, ha, chkR, h1, netZ]
end Go.Proofs.Ytgcoikbgpkfcnaa
