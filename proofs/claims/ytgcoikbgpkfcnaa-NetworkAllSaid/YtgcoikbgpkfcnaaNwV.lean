/-
  Network: the law NetworkAll.
-/
import Derived.Test.YtgcoikbgpkfcnaaNwO
set_option linter.unusedSimpArgs false
set_option linter.unusedVariables false
namespace Go.Proofs.Ytgcoikbgpkfcnaa
open Go.Lo

@[simp] theorem conv53 (k : IntKind) (n : Int) : evConv P0 5 3 (.lit (.int k n)) = ⟨True, .lit (.int .i64 (IntKind.i64.wrap n))⟩ := evConv_int 5 3 k .i64 n (by kernel_rfl) (by kernel_rfl)
theorem IAx_encB {b : Bool} {l : List Int} {k : Nat} (kk : IntKind) (h : k < l.length) : IAx (some (none, 1, false)) (encB b l) (.lit (.int kk (k : Int))) = ⟨True, .ref [u8 l[k]]⟩ := by simp [encB, h]
theorem two {P : Program} {n : Nat} {I : Fr → Heap → Prop} {G : Prop} {c : Code} {Q : PX → Fr → Heap → Prop} (main : (∀ fr σ, I fr σ → pwp P false n c Q fr σ) → G) (key : ∀ fr σ, I fr σ → pwp P false n c Q fr σ) : G := main key
theorem minus_at {σ σf : Heap} {j : Nat} (h : σf j = none) : (σ.minus σf) j = σ j := by
  show (if (σf j).isSome then none else σ j) = σ j
  rw [h]; rfl
def I10 (ps : List Pk) (os : List Int) (r : List Pk) (v : PV) (x : Nt) (e : Int) (p : Pk) (i : Nat) (id5 : Nat) (L : Nat → Bool) (fr : Fr) (σ : Heap) : Prop :=
  (fr 0 = encQ false ps) ∧ (fr 1 = encB false os) ∧ (fr 5 = .ptr id5 0) ∧ (fr 6 = v) ∧ (fr 7 = num (i : Int)) ∧ (Own 3 σ v (r.map rowK)) ∧ σ id5 = some (.cells (netC ⟨r, []⟩)) ∧ (L 0 = true → fr 28 = .agg (netC ⟨r, []⟩)) ∧ (L 1 = true → fr 29 = encQ false ps) ∧ (L 2 = true → fr 30 = num (i : Int)) ∧ (L 3 = true → fr 31 = .ref (rowK p)) ∧ (L 4 = true → fr 32 = .agg (rowK p)) ∧ (L 5 = true → fr 33 = .tup [.agg (netC x), num e]) ∧ (L 6 = true → fr 27 = .tup [.agg (netC x), num e]) ∧ (L 7 = true → fr 34 = .agg (netC x)) ∧ (L 8 = true → fr 35 = num e) ∧ (L 9 = true → ∃ z, Apart z id5 ∧ fr 8 = .ptr z 0 ∧ σ z = some (.cells (if L 10 = true then netC x else [.lit (.slice none 0 0), .lit (.slice none 0 0)]))) ∧ (L 10 = true → L 9 = true)
def I24 (os : List Int) (r : List Pk) (full : Bool) (j k : Nat) (id5 : Nat) (L : Nat → Bool) (fr : Fr) (σ : Heap) : Prop :=
  (fr 1 = encB false os) ∧ (fr 5 = .ptr id5 0) ∧ (fr 6 = encQ full r) ∧ (fr 10 = num (j : Int)) ∧ (fr 11 = num (k : Int)) ∧ σ id5 = some (.cells (netC ⟨without r k, []⟩)) ∧ (L 0 = true → fr 82 = .slice true []) ∧ (L 1 = true → fr 83 = encQ full r) ∧ (L 2 = true → fr 84 = num (k : Int)) ∧ (L 3 = true → fr 85 = encQ (full && decide (k = r.length)) (r.take k)) ∧ (L 4 = true → Own 3 σ (fr 86) ((r.take k).map rowK)) ∧ (L 5 = true → fr 87 = encQ full r) ∧ (L 6 = true → fr 88 = num (k : Int)) ∧ (L 7 = true → fr 89 = num ((k : Int) + 1)) ∧ (L 8 = true → fr 90 = encQ full (r.drop (k + 1)))

theorem send_err {n : Nt} {p : Pk} (hl : n.q.length < 4096) (hv : vN n = true) : ∃ x e, sendN n p = (x, e) ∧ (e = 0 ∧ x = ⟨n.q ++ [p], n.a⟩ ∧ vN x = true ∨ e ≠ 0) := by
  cases hp : vP p with
  | true => exact ⟨_, _, by unfold sendN; rw [if_pos (by rw [hv, hp]; rfl), if_neg (by omega)], .inl ⟨rfl, rfl, vN_send hv hp hl⟩⟩
  | false => exact ⟨nt0, 460, by unfold sendN; rw [hv, hp]; rfl, .inr (by decide)⟩
set_option maxHeartbeats 4000000 in
set_option maxRecDepth 8000 in
theorem all4_ok (ps : List Pk) (os : List Int) (hps : okQ ps) (hos : os.length ≤ maxLen ∧ ∀ x ∈ os, 0 ≤ x ∧ x < 256) : PFun P0 4 [encQ false ps, encB false os] (bo true) := by
  refine pcalls_body Try.func4 rfl rfl rfl (by show 2 ≤ _; decide) (pwp_goK TP_ok [20] ?_)
  obtain ⟨hps1, hps2⟩ := hps
  obtain ⟨hos1, hos2⟩ := hos
  unfold maxLen at hos1
  by_cases hlen : (12 : Int) < (ps.length : Int)
  · simp (config := { contextual := true }) [hlen]
  · have hlen' : ¬ 12 < ps.length := by omega
    simp (config := { contextual := true }) [hlen, hlen', netC]
    intro id5
    refine pwp_loop (fun N fr σ => ∃ (i : Nat) (v : PV) (r : List Pk), N = ps.length - i ∧ i ≤ ps.length ∧ fr 0 = encQ false ps ∧ fr 1 = encB false os ∧ fr 5 = .ptr id5 0 ∧ fr 6 = v ∧ fr 7 = num i ∧ σ id5 = some (.cells (netC ⟨r, []⟩)) ∧ Own 3 σ v (r.map rowK) ∧ r.length ≤ i ∧ vN ⟨r, []⟩ = true ∧ okQ r)
      (N := ps.length) ⟨0, .lit (.slice none 0 0), [], by simp [netC, Own.nil, okQ, maxLen, vN_zero]; exact ⟨rfl, rfl⟩⟩ ?_
    rintro N fr σ ⟨i, v, r, rfl, hi, e0, e1, e5, e6, e7, s5, hw, hri, hvr, hor⟩
    refine pwp_goK TP_ok [20] ?_
    obtain ⟨o1, o2⟩ := hw.sv
    by_cases hlt : i < ps.length
    · have wk : IntKind.i64.wrap ((i : Int) + 1) = (i : Int) + 1 := wrap_i64 (by omega) (by omega)
      obtain ⟨p, hpk⟩ : ∃ p, ps[i] = p := ⟨_, rfl⟩
      have hIx : IAx (some (none, 3, true)) (encQ false ps) (num (i : Int)) = ⟨True, .ref (rowK p)⟩ := by rw [← hpk]; exact IAx_encQ .i64 hlt
      have hokp : okP p := by rw [← hpk]; exact hps1 _ (List.getElem_mem hlt)
      obtain ⟨x, e, hS, hX⟩ := send_err (n := ⟨r, []⟩) (p := p) (by show r.length < 4096; omega) hvr
      have okx : okN x := by have := okN_send (n := ⟨r, []⟩) (p := p) ⟨hor, by simp [maxLen]⟩ hokp; rwa [hS] at this
      have x1 := okx.1
      have x2 := okx.2
      have hokp' := hokp
      unfold okP at hokp
      have rq := hor
      have ra : ([] : List Lk).length ≤ maxLen := by simp [maxLen]
      simp [e0, e1, e5, e6, e7, hlt]
      refine pwpT_go (pwp_gen (I := fun fr σ => fr 0 = encQ false ps ∧ fr 1 = encB false os ∧ fr 5 = .ptr id5 0 ∧ fr 6 = v ∧ fr 7 = num i ∧ Own 3 σ v (r.map rowK) ∧ σ id5 = some (.cells (netC ⟨r, []⟩))) (by simp [e0, e1, e5, e6, e7, s5, hw]) ?_)
      clear e0 e1 e5 e6 e7 s5 hw
      rintro fr σ ⟨e0, e1, e5, e6, e7, hw, s5⟩
      refine pwp_drawI (k := 11) (I := I10 ps os r v x e p i id5) mixed (by kernel_rfl) (by kernel_rfl) (by decide) ?_ ?_ ?_
      · exact ⟨e0, e1, e5, e6, e7, hw, by simpa using s5, nofun, nofun, nofun, nofun, nofun, nofun, nofun, nofun, nofun, nofun, nofun⟩
      · clear e0 e1 e5 e6 e7 hw s5
        rintro L fr σ i o hi ho hLi hp ⟨e0, e1, e5, e6, e7, hw, s5, i0, i1, i2, i3, i4, i5, i6, i7, i8, i9, i10⟩
        refine pops_pst TP_ok (show pT P0 TP false 96 _ _ [o] fr σ {} from ?_)
        rcases (show i = 0 ∨ i = 1 ∨ i = 2 ∨ i = 3 ∨ i = 4 ∨ i = 5 ∨ i = 6 ∨ i = 7 ∨ i = 8 ∨ i = 9 ∨ i = 10 by omega) with rfl | rfl | rfl | rfl | rfl | rfl | rfl | rfl | rfl | rfl | rfl
        · simp at ho; subst ho
          simp [e0, e1, e5, e6, e7, hw, s5, netC, rowK, hIx, hokp, rq, ra, x1, x2, hS, sendV, neV, o1, o2]
          exact ⟨by simp [e0], by simp [e1], by simp [e5], by simp [e6], by simp [e7], by simp [hw], by simpa [upd] using s5, fun _ => by simp [netC], by simpa [upd] using i1, by simpa [upd] using i2, by simpa [upd] using i3, by simpa [upd] using i4, by simpa [upd] using i5, by simpa [upd] using i6, by simpa [upd] using i7, by simpa [upd] using i8, by simpa [upd] using i9, by simpa [upd] using i10⟩
        · simp at ho; subst ho
          simp [e0, e1, e5, e6, e7, hw, s5, netC, rowK, hIx, hokp, rq, ra, x1, x2, hS, sendV, neV, o1, o2]
          exact ⟨by simp [e0], by simp [e1], by simp [e5], by simp [e6], by simp [e7], by simp [hw], by simpa [upd] using s5, by simpa [upd] using i0, fun _ => by simp, by simpa [upd] using i2, by simpa [upd] using i3, by simpa [upd] using i4, by simpa [upd] using i5, by simpa [upd] using i6, by simpa [upd] using i7, by simpa [upd] using i8, by simpa [upd] using i9, by simpa [upd] using i10⟩
        · simp at ho; subst ho
          simp [e0, e1, e5, e6, e7, hw, s5, netC, rowK, hIx, hokp, rq, ra, x1, x2, hS, sendV, neV, o1, o2]
          exact ⟨by simp [e0], by simp [e1], by simp [e5], by simp [e6], by simp [e7], by simp [hw], by simpa [upd] using s5, by simpa [upd] using i0, by simpa [upd] using i1, fun _ => by simp, by simpa [upd] using i3, by simpa [upd] using i4, by simpa [upd] using i5, by simpa [upd] using i6, by simpa [upd] using i7, by simpa [upd] using i8, by simpa [upd] using i9, by simpa [upd] using i10⟩
        · simp at ho; subst ho
          have l1 := hp 1 (of_decide_eq_true (by kernel_rfl))
          have q1 := i1 l1
          have l2 := hp 2 (of_decide_eq_true (by kernel_rfl))
          have q2 := i2 l2
          simp [e0, e1, e5, e6, e7, hw, s5, q1, q2, netC, rowK, hIx, hokp, rq, ra, x1, x2, hS, sendV, neV, o1, o2]
          exact ⟨by simp [e0], by simp [e1], by simp [e5], by simp [e6], by simp [e7], by simp [hw], by simpa [upd] using s5, by simpa [upd] using i0, by simpa [upd] using i1, by simpa [upd] using i2, fun _ => by simp [rowK], by simpa [upd] using i4, by simpa [upd] using i5, by simpa [upd] using i6, by simpa [upd] using i7, by simpa [upd] using i8, by simpa [upd] using i9, by simpa [upd] using i10⟩
        · simp at ho; subst ho
          have l3 := hp 3 (of_decide_eq_true (by kernel_rfl))
          have q3 := i3 l3
          simp [e0, e1, e5, e6, e7, hw, s5, q3, netC, rowK, hIx, hokp, rq, ra, x1, x2, hS, sendV, neV, o1, o2]
          exact ⟨by simp [e0], by simp [e1], by simp [e5], by simp [e6], by simp [e7], by simp [hw], by simpa [upd] using s5, by simpa [upd] using i0, by simpa [upd] using i1, by simpa [upd] using i2, by simpa [upd] using i3, fun _ => by simp [rowK], by simpa [upd] using i5, by simpa [upd] using i6, by simpa [upd] using i7, by simpa [upd] using i8, by simpa [upd] using i9, by simpa [upd] using i10⟩
        · simp at ho; subst ho
          have l0 := hp 0 (of_decide_eq_true (by kernel_rfl))
          have q0 := i0 l0
          have l4 := hp 4 (of_decide_eq_true (by kernel_rfl))
          have q4 := i4 l4
          simp [e0, e1, e5, e6, e7, hw, s5, q0, q4, netC, rowK, hIx, hokp, rq, ra, x1, x2, hS, sendV, neV, o1, o2]
          exact ⟨by simp [e0], by simp [e1], by simp [e5], by simp [e6], by simp [e7], by simp [hw], by simpa [upd] using s5, by simpa [upd] using i0, by simpa [upd] using i1, by simpa [upd] using i2, by simpa [upd] using i3, by simpa [upd] using i4, fun _ => by simp [netC], by simpa [upd] using i6, by simpa [upd] using i7, by simpa [upd] using i8, by simpa [upd] using i9, by simpa [upd] using i10⟩
        · simp at ho; subst ho
          have l5 := hp 5 (of_decide_eq_true (by kernel_rfl))
          have q5 := i5 l5
          simp [e0, e1, e5, e6, e7, hw, s5, q5, netC, rowK, hIx, hokp, rq, ra, x1, x2, hS, sendV, neV, o1, o2]
          exact ⟨by simp [e0], by simp [e1], by simp [e5], by simp [e6], by simp [e7], by simp [hw], by simpa [upd] using s5, by simpa [upd] using i0, by simpa [upd] using i1, by simpa [upd] using i2, by simpa [upd] using i3, by simpa [upd] using i4, by simpa [upd] using i5, fun _ => by simp [netC], by simpa [upd] using i7, by simpa [upd] using i8, by simpa [upd] using i9, by simpa [upd] using i10⟩
        · simp at ho; subst ho
          have l6 := hp 6 (of_decide_eq_true (by kernel_rfl))
          have q6 := i6 l6
          simp [e0, e1, e5, e6, e7, hw, s5, q6, netC, rowK, hIx, hokp, rq, ra, x1, x2, hS, sendV, neV, o1, o2]
          exact ⟨by simp [e0], by simp [e1], by simp [e5], by simp [e6], by simp [e7], by simp [hw], by simpa [upd] using s5, by simpa [upd] using i0, by simpa [upd] using i1, by simpa [upd] using i2, by simpa [upd] using i3, by simpa [upd] using i4, by simpa [upd] using i5, by simpa [upd] using i6, fun _ => by simp [netC], by simpa [upd] using i8, by simpa [upd] using i9, by simpa [upd] using i10⟩
        · simp at ho; subst ho
          have l6 := hp 6 (of_decide_eq_true (by kernel_rfl))
          have q6 := i6 l6
          simp [e0, e1, e5, e6, e7, hw, s5, q6, netC, rowK, hIx, hokp, rq, ra, x1, x2, hS, sendV, neV, o1, o2]
          exact ⟨by simp [e0], by simp [e1], by simp [e5], by simp [e6], by simp [e7], by simp [hw], by simpa [upd] using s5, by simpa [upd] using i0, by simpa [upd] using i1, by simpa [upd] using i2, by simpa [upd] using i3, by simpa [upd] using i4, by simpa [upd] using i5, by simpa [upd] using i6, by simpa [upd] using i7, fun _ => by simp, by simpa [upd] using i9, by simpa [upd] using i10⟩
        · simp at ho; subst ho
          simp [e0, e1, e5, e6, e7, hw, s5, netC, rowK, hIx, hokp, rq, ra, x1, x2, hS, sendV, neV, o1, o2, -NEW_def]
          refine fun z hz => ?_
          have zs : Apart z id5 := frs.ne hz s5
          simp
          have l10 : L 10 = false := by cases e : L 10 with | false => rfl | true => rw [i10 e] at hLi; cases hLi
          exact ⟨by simp [e0], by simp [e1], by simp [e5], by simp [e6], by simp [e7], hw.new hz, by simp [zs, zs.symm, s5], by simpa [upd] using i0, by simpa [upd] using i1, by simpa [upd] using i2, by simpa [upd] using i3, by simpa [upd] using i4, by simpa [upd] using i5, by simpa [upd] using i6, by simpa [upd] using i7, by simpa [upd] using i8, fun _ => ⟨z, zs, by simp, by simp [upd, l10]⟩, fun _ => by simp [upd]⟩
        · simp at ho; subst ho
          have l9 := hp 9 (of_decide_eq_true (by kernel_rfl))
          obtain ⟨z, zs, qz, sz⟩ := i9 l9
          rw [hLi] at sz
          have l7 := hp 7 (of_decide_eq_true (by kernel_rfl))
          have q7 := i7 l7
          simp [qz, sz, zs, zs.symm, e0, e1, e5, e6, e7, hw, s5, q7, netC, rowK, hIx, hokp, rq, ra, x1, x2, hS, sendV, neV, o1, o2]
          exact ⟨by simp [e0], by simp [e1], by simp [e5], by simp [e6], by simp [e7], hw.set fun cs e => by rw [sz] at e; cases e; exact neRows (c := encA false []) rfl, by simp [zs, zs.symm, s5], by simpa [upd] using i0, by simpa [upd] using i1, by simpa [upd] using i2, by simpa [upd] using i3, by simpa [upd] using i4, by simpa [upd] using i5, by simpa [upd] using i6, by simpa [upd] using i7, by simpa [upd] using i8, fun _ => ⟨z, zs, by simp [qz], by simp [upd, netC]⟩, fun _ => by simpa [upd] using l9⟩
      · clear e0 e1 e5 e6 e7 hw s5
        rintro L fr σ hall ⟨e0, e1, e5, e6, e7, hw, s5, i0, i1, i2, i3, i4, i5, i6, i7, i8, i9, i10⟩
        have q0 := i0 (hall 0 (by omega))
        have q1 := i1 (hall 1 (by omega))
        have q2 := i2 (hall 2 (by omega))
        have q3 := i3 (hall 3 (by omega))
        have q4 := i4 (hall 4 (by omega))
        have q5 := i5 (hall 5 (by omega))
        have q6 := i6 (hall 6 (by omega))
        have q7 := i7 (hall 7 (by omega))
        have q8 := i8 (hall 8 (by omega))
        have q9 := i9 (hall 9 (by omega))
        have q10 := i10 (hall 10 (by omega))
        obtain ⟨z, zs, qz, sz⟩ := q9
        rw [hall 10 (by omega), if_pos rfl] at sz
        refine pops_pst TP_ok (show pT P0 TP false 96 _ _ [_] fr σ {} from ?_)
        rcases hX with ⟨rfl, hx, hvx⟩ | he
        · have hw1 : Own 3 (σ.set id5 (.cells (netC x))) v (r.map rowK) := hw.set fun cs e => by rw [s5] at e; cases e; exact neRows (c := encA false []) rfl
          simp [netC, qz, sz, zs, zs.symm, s5, e0, e1, e5, e6, e7, q8, o1, o2, hIx, rowK]
          refine own_append (k := 3) (b := 40) (rows := r.map rowK) (new := [rowK p]) (zs := [num 0, num 0, .lit (.slice none 0 0)]) hw1 elem22 (by decide) rfl (by decide) isl22 (yv_row fun r hr => by simp at hr; subst hr; rfl) (by simpa using rowsK_new [p]) (by simp; omega) ?_
          intro V σ2 hV hK _
          have e5' : (σ.set id5 (PObj.cells [encQ false x.q, encA false x.a])) id5 = some (.cells [encQ false x.q, encA false x.a]) := by simp
          have t5 : σ2 id5 = some (.cells (netC x)) := by
            rw [hK id5 (by rw [e5']; simp) (hw1.ne e5' (neRows (c := encA false []) rfl)), e5']; rfl
          obtain ⟨v1, v2⟩ := hV.sv
          have hrow : r.map rowK ++ [rowK p] = (r ++ [p]).map rowK := by simp
          rw [hrow] at hV
          replace hx : x = ⟨r ++ [p], []⟩ := hx
          rw [hx] at t5 hvx okx
          simp [e0, e1, e5, e7, v1, v2, wk, -List.map_append]
          exact ⟨ps.length - (i + 1), by omega, i + 1, rfl, by omega, by omega, r ++ [p], t5, hV, by simp; omega, hvx, okx.1⟩
        · simp [netC, qz, sz, zs, zs.symm, s5, e0, e1, e5, e6, e7, q8, o1, o2, he, wk]
          exact ⟨ps.length - (i + 1), by omega, i + 1, rfl, by omega, by omega, r, rfl, hw, by omega, hvr, hor⟩
    · simp [e0, e1, e5, e6, e7, hlt]
      refine pwp_loop (fun N fr σ => ∃ (j : Nat) (v : PV) (r : List Pk), N = r.length ∧ j + r.length ≤ 12 ∧ fr 1 = encB false os ∧ fr 5 = .ptr id5 0 ∧ fr 6 = v ∧ fr 10 = num j ∧ σ id5 = some (.cells (netC ⟨r, []⟩)) ∧ Own 3 σ v (r.map rowK) ∧ vN ⟨r, []⟩ = true ∧ okQ r)
        (N := r.length) ⟨0, v, r, by simp [e0, e1, e5, e6, s5, hw, hvr, hor]; omega⟩ ?_
      clear e0 e1 e5 e6 e7 s5 hw hvr hor hri o1 o2
      rintro N fr σ ⟨j, v, r, rfl, hj, e1, e5, e6, e10, s5, hw, hvr, hor⟩
      by_cases hz : r = []
      · subst hz
        obtain ⟨o1, o2⟩ := hw.sv
        have hln : Lenx .slice σ v = ⟨True, num 0⟩ := by
          rcases hw.2 with ⟨rfl, _⟩ | ⟨id, full, rfl, _⟩ | rfl <;> simp
        refine pwp_goK TP_ok [20] ?_
        simp [netC, e1, e5, e6, e10, s5, o1, o2, hln]
      · have hrl : 0 < r.length := List.length_pos_iff.2 hz
        have ex : ∀ {c : Code} {Q : PX → Fr → Heap → Prop}, (∀ fr σ full, fr 1 = encB false os → fr 5 = .ptr id5 0 → fr 6 = encQ full r → fr 10 = num j → σ id5 = some (.cells (netC ⟨r, []⟩)) → pwp P0 false 96 c Q fr σ) → pwp P0 false 96 c Q fr σ := by
          intro c Q hk
          rcases hw.2 with ⟨h1, h2⟩ | ⟨id, full, h1, hid⟩ | h1
          · exact absurd (by simpa using h2) hz
          · have hne : Apart id id5 := fun e => hw.ne s5 (neRows (c := encA false []) rfl) 3 0 (r.map rowK).length full (by rw [h1, e])
            refine pwp_frz 3 (Heap.empty.set id (.cells (r.map rowK).flatten)) (Frz.set Frz.none hid) ?_
            refine hk _ _ full ?_ ?_ ?_ ?_ ?_
            · show frzN 3 _ (fr 1) = _
              rw [e1]; simp
            · show frzN 3 _ (fr 5) = _
              rw [e5]; simp [hne, hne.symm]
            · show frzN 3 _ (fr 6) = _
              rw [e6, h1, frzN_msl, Heap.set_at, if_pos (show SameId id id from rfl)]
              have hl := (flatten_getD (rowsK_three r)).1
              simp only [cellsO_some, FZM_some, List.drop_zero]
              rw [if_pos (by rw [hl]; omega), show (r.map rowK).length = r.length by simp]
              exact chunkK 2 full r
            · show frzN 3 _ (fr 10) = _
              rw [e10]; simp
            · rw [minus_at (by simp [hne, hne.symm])]; exact s5
          · exact hk _ _ true e1 e5 (by rw [e6, h1]; rfl) e10 s5
        refine ex fun fr σ full e1 e5 e6 e10 s5 => ?_
        apply two (P := P0) (n := 96) (I := fun fr σ => ∃ k : Nat, k < r.length ∧ fr 1 = encB false os ∧ fr 5 = .ptr id5 0 ∧ fr 6 = encQ full r ∧ fr 10 = num j ∧ fr 11 = num k ∧ σ id5 = some (.cells (netC ⟨r, []⟩)))
        case main =>
          intro cont
          refine pwp_goK TP_ok [20] ?_
          by_cases hjo : j < os.length
          · obtain ⟨y, hy⟩ : ∃ y, os[j] = y := ⟨_, rfl⟩
            have hyr : 0 ≤ y ∧ y < 256 := by rw [← hy]; exact hos2 _ (List.getElem_mem hjo)
            have hiy : IAx (some (none, 1, false)) (encB false os) (num (j : Int)) = ⟨True, .ref [u8 y]⟩ := by rw [← hy]; exact IAx_encB .i64 hjo
            have wy : IntKind.i64.wrap y = y := wrap_i64 (by omega) (by omega)
            obtain ⟨k, hk, hkr⟩ : ∃ k : Nat, y.tmod (r.length : Int) = (k : Int) ∧ k < r.length := by
              have q1 := Int.emod_nonneg y (show (r.length : Int) ≠ 0 by omega)
              have q2 := Int.emod_lt_of_pos y (show (0 : Int) < (r.length : Int) by omega)
              rw [Int.tmod_eq_emod_of_nonneg hyr.1]
              exact ⟨(y % (r.length : Int)).toNat, by omega, by omega⟩
            have g0 : (r.length : Int) ≠ 0 := by omega
            simp [e1, e5, e6, e10, s5, hrl, hjo, hiy, wy, hk, g0, hz]
            exact pwpT_go (cont _ _ ⟨k, hkr, by simp [e1, e5, e6, e10, s5]⟩)
          · simp [e1, e5, e6, e10, s5, hrl, hjo, hz]
            exact pwpT_go (cont _ _ ⟨0, hrl, by simp [e1, e5, e6, e10, s5]⟩)
        case key =>
          clear e1 e5 e6 e10 s5
          rintro fr σ ⟨k, hkr, e1, e5, e6, e10, e11, s5⟩
          have hask : askN ⟨r, []⟩ (k : Int) = 0 := askN_ok.2 ⟨hvr, by omega, by show (k : Int) < r.length; omega⟩
          obtain ⟨P, hP⟩ : ∃ P, r[k] = P := ⟨_, rfl⟩
          have hD : deliverN ⟨r, []⟩ (k : Int) = (P, ⟨without r k, []⟩, 0) := by
            have hat : atN ⟨r, []⟩ (k : Int) = P := by unfold atN; rw [List.getD_eq_getElem?_getD, show ((k : Int)).toNat = k by omega, List.getElem?_eq_getElem hkr]; exact hP
            unfold deliverN; rw [if_pos hask, hat]; simp
          have hvw : vN ⟨without r k, []⟩ = true := vN_without (n := ⟨r, []⟩) hvr hkr
          have how : okN ⟨without r k, []⟩ := okN_without (n := ⟨r, []⟩) ⟨hor, by simp [maxLen]⟩
          have hlw := without_length hkr
          have okP' : okP P := by rw [← hP]; exact hor.1 _ (List.getElem_mem hkr)
          unfold okP at okP'
          have hsP := sameP_refl P
          have hiP : ∀ b, IAx (some (none, 3, true)) (encQ b r) (num (k : Int)) = ⟨True, .ref (rowK P)⟩ := fun b => by rw [← hP]; exact IAx_encQ .i64 hkr
          have hk1 : k ≤ r.length := by omega
          have hk2 : k + 1 ≤ r.length := by omega
          have wk : IntKind.i64.wrap ((k : Int) + 1) = (k : Int) + 1 := wrap_i64 (by omega) (by omega)
          have wj : IntKind.i64.wrap ((j : Int) + 1) = (j : Int) + 1 := wrap_i64 (by omega) (by omega)
          have hsuf : ∀ σ, Slx (some (none, 3, true)) σ (encQ full r) (some (.lit (.int .i64 ((k : Int) + 1)))) none none = ⟨True, encQ full (r.drop (k + 1))⟩ := fun σ => by
            rw [show (k : Int) + 1 = ((k + 1 : Nat) : Int) by omega]; exact Slx_encQ_suf σ full r .i64 (k + 1) hk2
          have ra : ([] : List Lk).length ≤ maxLen := by simp [maxLen]
          refine pwp_go TP_ok ?_
          simp (config := { contextual := true }) [netC, rowK, e1, e5, e6, e10, e11, s5, hor, ra, deliverV, hD]
          intro id12 h12 id13 hne h13
          have a12 : Apart id12 id5 := frs.ne h12 s5
          have a13 : Apart id13 id5 := frs.ne h13 s5
          refine pwpT_go (pwp_drawT TP_ok 11 mixed (by kernel_rfl) ?_)
          simp [netC, rowK, e1, e5, e6, e10, e11, s5, a12, a12.symm, a13, a13.symm, hne, hne.symm, hiP, okP', hsP]
          refine pwpT_go (pwp_gen (I := fun fr σ => fr 1 = encB false os ∧ fr 5 = .ptr id5 0 ∧ fr 6 = encQ full r ∧ fr 10 = num j ∧ fr 11 = num k ∧ σ id5 = some (.cells (netC ⟨without r k, []⟩))) (by simp [netC, e1, e5, e6, e10, e11]) ?_)
          clear e1 e5 e6 e10 e11 s5 h12 h13
          rintro fr σ ⟨e1, e5, e6, e10, e11, s5⟩
          refine pwp_drawI (k := 9) (I := I24 os r full j k id5) mixed (by kernel_rfl) (by kernel_rfl) (by decide) ?_ ?_ ?_
          · exact ⟨e1, e5, e6, e10, e11, by simpa using s5, nofun, nofun, nofun, nofun, nofun, nofun, nofun, nofun, nofun⟩
          · clear e1 e5 e6 e10 e11 s5
            rintro L fr σ i o hi ho hLi hp ⟨e1, e5, e6, e10, e11, s5, i0, i1, i2, i3, i4, i5, i6, i7, i8⟩
            refine pops_pst TP_ok (show pT P0 TP false 96 _ _ [o] fr σ {} from ?_)
            rcases (show i = 0 ∨ i = 1 ∨ i = 2 ∨ i = 3 ∨ i = 4 ∨ i = 5 ∨ i = 6 ∨ i = 7 ∨ i = 8 by omega) with rfl | rfl | rfl | rfl | rfl | rfl | rfl | rfl | rfl
            · simp at ho; subst ho
              simp [e1, e5, e6, e10, e11, s5]
              exact ⟨by simp [e1], by simp [e5], by simp [e6], by simp [e10], by simp [e11], by simpa [upd] using s5, fun _ => by simp, by simpa [upd] using i1, by simpa [upd] using i2, by simpa [upd] using i3, by simpa [upd] using i4, by simpa [upd] using i5, by simpa [upd] using i6, by simpa [upd] using i7, by simpa [upd] using i8⟩
            · simp at ho; subst ho
              simp [e1, e5, e6, e10, e11, s5]
              exact ⟨by simp [e1], by simp [e5], by simp [e6], by simp [e10], by simp [e11], by simpa [upd] using s5, by simpa [upd] using i0, fun _ => by simp, by simpa [upd] using i2, by simpa [upd] using i3, by simpa [upd] using i4, by simpa [upd] using i5, by simpa [upd] using i6, by simpa [upd] using i7, by simpa [upd] using i8⟩
            · simp at ho; subst ho
              simp [e1, e5, e6, e10, e11, s5]
              exact ⟨by simp [e1], by simp [e5], by simp [e6], by simp [e10], by simp [e11], by simpa [upd] using s5, by simpa [upd] using i0, by simpa [upd] using i1, fun _ => by simp, by simpa [upd] using i3, by simpa [upd] using i4, by simpa [upd] using i5, by simpa [upd] using i6, by simpa [upd] using i7, by simpa [upd] using i8⟩
            · simp at ho; subst ho
              have l1 := hp 1 (of_decide_eq_true (by kernel_rfl))
              have q1 := i1 l1
              have l2 := hp 2 (of_decide_eq_true (by kernel_rfl))
              have q2 := i2 l2
              simp [e1, e5, e6, e10, e11, s5, q1, q2, Slx_encQ_to, hk1]
              exact ⟨by simp [e1], by simp [e5], by simp [e6], by simp [e10], by simp [e11], by simpa [upd] using s5, by simpa [upd] using i0, by simpa [upd] using i1, by simpa [upd] using i2, fun _ => by simp, by simpa [upd] using i4, by simpa [upd] using i5, by simpa [upd] using i6, by simpa [upd] using i7, by simpa [upd] using i8⟩
            · simp at ho; subst ho
              have l0 := hp 0 (of_decide_eq_true (by kernel_rfl))
              have q0 := i0 l0
              have l3 := hp 3 (of_decide_eq_true (by kernel_rfl))
              have q3 := i3 l3
              simp [e1, e5, e6, e10, e11, s5, q0, q3]
              refine own_append (k := 3) (b := 40) (rows := []) (new := (r.take k).map rowK) (zs := [num 0, num 0, .lit (.slice none 0 0)]) (Own.full 3 _ (by simp)) elem22 (by decide) rfl (by decide) isl22 (yv_row (rowsK_three _)) (rowsK_new _) (by simp; omega) ?_
              intro V σ2 hV hK _
              rw [List.nil_append] at hV
              have t5 := keeps_full hK s5
              simp
              exact ⟨by simp [e1], by simp [e5], by simp [e6], by simp [e10], by simp [e11], t5, by simpa [upd] using i0, by simpa [upd] using i1, by simpa [upd] using i2, by simpa [upd] using i3, fun _ => by simpa using hV, by simpa [upd] using i5, by simpa [upd] using i6, by simpa [upd] using i7, by simpa [upd] using i8⟩
            · simp at ho; subst ho
              simp [e1, e5, e6, e10, e11, s5]
              exact ⟨by simp [e1], by simp [e5], by simp [e6], by simp [e10], by simp [e11], by simpa [upd] using s5, by simpa [upd] using i0, by simpa [upd] using i1, by simpa [upd] using i2, by simpa [upd] using i3, by simpa [upd] using i4, fun _ => by simp, by simpa [upd] using i6, by simpa [upd] using i7, by simpa [upd] using i8⟩
            · simp at ho; subst ho
              simp [e1, e5, e6, e10, e11, s5]
              exact ⟨by simp [e1], by simp [e5], by simp [e6], by simp [e10], by simp [e11], by simpa [upd] using s5, by simpa [upd] using i0, by simpa [upd] using i1, by simpa [upd] using i2, by simpa [upd] using i3, by simpa [upd] using i4, by simpa [upd] using i5, fun _ => by simp, by simpa [upd] using i7, by simpa [upd] using i8⟩
            · simp at ho; subst ho
              have l6 := hp 6 (of_decide_eq_true (by kernel_rfl))
              have q6 := i6 l6
              simp [e1, e5, e6, e10, e11, s5, q6, wk]
              exact ⟨by simp [e1], by simp [e5], by simp [e6], by simp [e10], by simp [e11], by simpa [upd] using s5, by simpa [upd] using i0, by simpa [upd] using i1, by simpa [upd] using i2, by simpa [upd] using i3, by simpa [upd] using i4, by simpa [upd] using i5, by simpa [upd] using i6, fun _ => by simp, by simpa [upd] using i8⟩
            · simp at ho; subst ho
              have l5 := hp 5 (of_decide_eq_true (by kernel_rfl))
              have q5 := i5 l5
              have l7 := hp 7 (of_decide_eq_true (by kernel_rfl))
              have q7 := i7 l7
              simp [e1, e5, e6, e10, e11, s5, q5, q7, hsuf]
              exact ⟨by simp [e1], by simp [e5], by simp [e6], by simp [e10], by simp [e11], by simpa [upd] using s5, by simpa [upd] using i0, by simpa [upd] using i1, by simpa [upd] using i2, by simpa [upd] using i3, by simpa [upd] using i4, by simpa [upd] using i5, by simpa [upd] using i6, by simpa [upd] using i7, fun _ => by simp⟩
          · clear e1 e5 e6 e10 e11 s5
            rintro L fr σ hall ⟨e1, e5, e6, e10, e11, s5, i0, i1, i2, i3, i4, i5, i6, i7, i8⟩
            have q0 := i0 (hall 0 (by omega))
            have q1 := i1 (hall 1 (by omega))
            have q2 := i2 (hall 2 (by omega))
            have q3 := i3 (hall 3 (by omega))
            have q4 := i4 (hall 4 (by omega))
            have q5 := i5 (hall 5 (by omega))
            have q6 := i6 (hall 6 (by omega))
            have q7 := i7 (hall 7 (by omega))
            have q8 := i8 (hall 8 (by omega))
            obtain ⟨o1, o2⟩ := q4.sv
            refine pops_pst TP_ok (show pT P0 TP false 96 _ _ [_, _] fr σ {} from ?_)
            simp [e1, e5, e6, e10, e11, q8, o1, o2]
            refine own_append (k := 3) (b := 40) (rows := (r.take k).map rowK) (new := (r.drop (k + 1)).map rowK) (zs := [num 0, num 0, .lit (.slice none 0 0)]) q4 elem22 (by decide) rfl (by decide) isl22 (yv_row (rowsK_three _)) (rowsK_new _) (by simp; omega) ?_
            intro V σ2 hV hK _
            have n5 : ∀ k off len full, fr 86 ≠ .msl id5 k off len full := q4.ne s5 (neRows (c := encA false []) rfl)
            have t5 : σ2 id5 = some (.cells (netC ⟨without r k, []⟩)) := by rw [hK id5 (by rw [s5]; simp) n5, s5]
            obtain ⟨v1, v2⟩ := hV.sv
            have hrow : (r.take k).map rowK ++ (r.drop (k + 1)).map rowK = (without r k).map rowK := by simp [without]
            rw [hrow] at hV
            simp [e1, e5, e10, v1, v2, wj]
            exact ⟨(without r k).length, by omega, j + 1, V, without r k, rfl, by omega, rfl, by omega, t5, hV, hvw, how.1⟩
end Go.Proofs.Ytgcoikbgpkfcnaa
