/-
  Network: the law NetworkOnlySent: the walk.
-/
import Derived.Test.YtgcoikbgpkfcnaaNwW
set_option linter.unusedSimpArgs false
set_option linter.unusedVariables false
namespace Go.Proofs.Ytgcoikbgpkfcnaa
open Go.Lo

theorem flat3 : ∀ (l : List Pk) (i : Nat) (hi : i < l.length), (((l.map rowK).flatten).drop (3 * i)).take 3 = rowK l[i]
  | [], i, hi => by simp at hi
  | p :: l, 0, _ => rfl
  | p :: l, i + 1, hi => by
    have := flat3 l i (by simpa using hi)
    simp only [List.map_cons, List.flatten_cons, List.getElem_cons_succ]
    rw [← this, show 3 * (i + 1) = (rowK p).length + 3 * i by simp [rowK]; omega, ← List.drop_drop, List.drop_left]
theorem own_readQ {σ : Heap} {v : PV} {l : List Pk} (h : Own 3 σ v (l.map rowK)) : ∃ pp : Nat → PV, ∀ i (hi : i < l.length), IAx (some (none, 3, true)) v (num (i : Int)) = ⟨True, pp i⟩ ∧ avt (pp i) = True ∧ sv (pp i) = pp i ∧ Lx (some (3, true)) σ (pp i) = ⟨True, .agg (rowK l[i])⟩ := by
  obtain ⟨_, h | ⟨id, fl, h1, h2⟩ | h⟩ := h
  · refine ⟨fun _ => .any, fun i hi => ?_⟩
    have : l = [] := by simpa using h.2
    subst this; simp at hi
  · refine ⟨fun i => .ptr id (i * 3), fun i hi => ?_⟩
    subst h1
    have h3 := flat3 l i hi
    refine ⟨?_, rfl, rfl, ?_⟩
    · simp [hi]
    · have hl := (flatten_getD (rowsK_three l)).1
      rw [List.length_map] at hl
      simp [h2, -List.length_flatten, hl]
      exact ⟨by omega, by rw [Nat.mul_comm]; exact h3⟩
  · refine ⟨fun i => .ref (rowK (l.getD i pk0)), fun i hi => ?_⟩
    subst h
    have e : l.getD i pk0 = l[i] := by rw [List.getD_eq_getElem?_getD, List.getElem?_eq_getElem hi]; rfl
    refine ⟨?_, rfl, rfl, ?_⟩
    · show IAx _ _ _ = ⟨True, .ref (rowK (l.getD i pk0))⟩
      rw [e]; exact IAx_encQ (b := true) .i64 hi
    · show Lx _ _ (.ref (rowK (l.getD i pk0))) = _
      rw [e]; simp [rowK]
set_option maxHeartbeats 8000000 in
set_option maxRecDepth 8000 in
theorem onlySent7_ok (ms : List Mv) (hms : ms.length ≤ maxLen ∧ ∀ m ∈ ms, okM m) : PFun P0 7 [encM false ms] (bo true) := by
  refine pcalls_body Try.func7 rfl rfl rfl (by show 1 ≤ _; decide) (pwp_goK TQ_ok [22] ?_)
  obtain ⟨hm1, hm2⟩ := hms
  by_cases hlen : (60 : Int) < (ms.length : Int)
  · simp (config := { contextual := true }) [hlen]
  · have hlen' : ¬ 60 < ms.length := by omega
    simp (config := { contextual := true }) [hlen, hlen', netC]
    intro id3
    refine pwp_loop (fun N fr σ => ∃ (i : Nat) (v : PV) (n : Nt) (s : List Pk) (c : Int), N = ms.length - i ∧ i ≤ ms.length ∧ fr 0 = encM false ms ∧ fr 3 = .ptr id3 0 ∧ fr 4 = v ∧ fr 5 = num c ∧ fr 6 = num i ∧ σ id3 = some (.cells (netC n)) ∧ Own 3 σ v (s.map rowK) ∧ s.length ≤ i ∧ c ≤ i ∧ InvS n s c ∧ ∀ p ∈ s, okP p)
      (N := ms.length) ⟨0, .lit (.slice none 0 0), nt0, [], 0, by simp [netC, Own.nil]; exact ⟨vN_zero, okN_zero, fun p hp => (by cases hp), fun h => absurd rfl h, Int.le_refl _⟩⟩ ?_
    rintro N fr σ ⟨i, v, n, s, c, rfl, hi, e0, e3, e4, e5, e6, s3, hw, hsi, hci, hI, hso⟩
    refine pwp_goK TQ_ok [22] ?_
    obtain ⟨o1, o2⟩ := hw.sv
    by_cases hlt : i < ms.length
    · have wk : IntKind.i64.wrap ((i : Int) + 1) = (i : Int) + 1 := wrap_i64 (by omega) (by omega)
      have hc0 := hI.2.2.2.2
      have wc : IntKind.i64.wrap (c + 1) = c + 1 := wrap_i64 (by omega) (by omega)
      obtain ⟨m, hmm⟩ : ∃ m, ms[i] = m := ⟨_, rfl⟩
      have hIx : IAx (some (none, 5, true)) (encM false ms) (num (i : Int)) = ⟨True, .ref (rowM m)⟩ := by rw [← hmm]; exact IAx_encM .i64 hlt
      have hmk : okM m := by rw [← hmm]; exact hm2 _ (List.getElem_mem hlt)
      have hvn := hI.1
      have nq := hI.2.1.1
      have na := hI.2.1.2
      have nl : n.q.length ≤ 4096 := by have := (vN_parts.1 hI.1).1.1; omega
      obtain ⟨x, p, e, hH⟩ : ∃ x p e, happN n m = (x, p, e) := ⟨_, _, _, rfl⟩
      obtain ⟨okx, okp⟩ := happ_ok (m := m) hI.2.1
      have hbad := happ_bad (n := n) (m := m)
      rw [hH] at okx okp hbad
      replace okx : okN x := okx
      replace okp : okP p := okp
      unfold okP at okp
      have xq := okx.1
      have xa := okx.2
      simp [e0, e3, e4, e5, e6, hlt]
      refine pwpT_go (pwp_gen (I := fun fr σ => fr 0 = encM false ms ∧ fr 3 = .ptr id3 0 ∧ fr 4 = v ∧ fr 5 = num c ∧ fr 6 = num i ∧ Own 3 σ v (s.map rowK) ∧ σ id3 = some (.cells (netC n))) (by simp [e0, e3, e4, e5, e6, s3, hw]) ?_)
      clear e0 e3 e4 e5 e6 s3 hw
      rintro fr σ ⟨e0, e3, e4, e5, e6, hw, s3⟩
      refine pwp_drawI (k := 14) (I := I11 ms n s v c x p e m i id3) mixed (by kernel_rfl) (by kernel_rfl) (by decide) ?_ ?_ ?_
      · exact ⟨e0, e3, e4, e5, e6, hw, by simpa using s3, nofun, nofun, nofun, nofun, nofun, nofun, nofun, nofun, nofun, nofun, nofun, nofun, nofun, nofun⟩
      · clear e0 e3 e4 e5 e6 hw s3
        rintro L fr σ i o hi ho hLi hp ⟨e0, e3, e4, e5, e6, hw, s3, i0, i1, i2, i3, i4, i5, i6, i7, i8, i9, i10, i11, i12, i13⟩
        refine pops_pst TQ_ok (show pT P0 TQ false 102 _ _ [o] fr σ {} from ?_)
        rcases (show i = 0 ∨ i = 1 ∨ i = 2 ∨ i = 3 ∨ i = 4 ∨ i = 5 ∨ i = 6 ∨ i = 7 ∨ i = 8 ∨ i = 9 ∨ i = 10 ∨ i = 11 ∨ i = 12 ∨ i = 13 by omega) with rfl | rfl | rfl | rfl | rfl | rfl | rfl | rfl | rfl | rfl | rfl | rfl | rfl | rfl
        · simp at ho; subst ho
          simp [e0, e3, e4, e5, e6, hw, s3, netC, rowK, rowM, hIx, hmk, nq, na, nl, hH, happV, o1, o2]
          exact ⟨by simp [e0], by simp [e3], by simp [e4], by simp [e5], by simp [e6], by simp [hw], by simpa [upd] using s3, fun _ => by simp [netC], by simpa [upd] using i1, by simpa [upd] using i2, by simpa [upd] using i3, by simpa [upd] using i4, by simpa [upd] using i5, by simpa [upd] using i6, by simpa [upd] using i7, by simpa [upd] using i8, by simpa [upd] using i9, by simpa [upd] using i10, by simpa [upd] using i11, by simpa [upd] using i12, by simpa [upd] using i13⟩
        · simp at ho; subst ho
          simp [e0, e3, e4, e5, e6, hw, s3, netC, rowK, rowM, hIx, hmk, nq, na, nl, hH, happV, o1, o2]
          exact ⟨by simp [e0], by simp [e3], by simp [e4], by simp [e5], by simp [e6], by simp [hw], by simpa [upd] using s3, by simpa [upd] using i0, fun _ => by simp, by simpa [upd] using i2, by simpa [upd] using i3, by simpa [upd] using i4, by simpa [upd] using i5, by simpa [upd] using i6, by simpa [upd] using i7, by simpa [upd] using i8, by simpa [upd] using i9, by simpa [upd] using i10, by simpa [upd] using i11, by simpa [upd] using i12, by simpa [upd] using i13⟩
        · simp at ho; subst ho
          simp [e0, e3, e4, e5, e6, hw, s3, netC, rowK, rowM, hIx, hmk, nq, na, nl, hH, happV, o1, o2]
          exact ⟨by simp [e0], by simp [e3], by simp [e4], by simp [e5], by simp [e6], by simp [hw], by simpa [upd] using s3, by simpa [upd] using i0, by simpa [upd] using i1, fun _ => by simp, by simpa [upd] using i3, by simpa [upd] using i4, by simpa [upd] using i5, by simpa [upd] using i6, by simpa [upd] using i7, by simpa [upd] using i8, by simpa [upd] using i9, by simpa [upd] using i10, by simpa [upd] using i11, by simpa [upd] using i12, by simpa [upd] using i13⟩
        · simp at ho; subst ho
          have l1 := hp 1 (of_decide_eq_true (by kernel_rfl))
          have q1 := i1 l1
          have l2 := hp 2 (of_decide_eq_true (by kernel_rfl))
          have q2 := i2 l2
          simp [e0, e3, e4, e5, e6, hw, s3, q1, q2, netC, rowK, rowM, hIx, hmk, nq, na, nl, hH, happV, o1, o2]
          exact ⟨by simp [e0], by simp [e3], by simp [e4], by simp [e5], by simp [e6], by simp [hw], by simpa [upd] using s3, by simpa [upd] using i0, by simpa [upd] using i1, by simpa [upd] using i2, fun _ => by simp [rowM], by simpa [upd] using i4, by simpa [upd] using i5, by simpa [upd] using i6, by simpa [upd] using i7, by simpa [upd] using i8, by simpa [upd] using i9, by simpa [upd] using i10, by simpa [upd] using i11, by simpa [upd] using i12, by simpa [upd] using i13⟩
        · simp at ho; subst ho
          have l3 := hp 3 (of_decide_eq_true (by kernel_rfl))
          have q3 := i3 l3
          simp [e0, e3, e4, e5, e6, hw, s3, q3, netC, rowK, rowM, hIx, hmk, nq, na, nl, hH, happV, o1, o2]
          exact ⟨by simp [e0], by simp [e3], by simp [e4], by simp [e5], by simp [e6], by simp [hw], by simpa [upd] using s3, by simpa [upd] using i0, by simpa [upd] using i1, by simpa [upd] using i2, by simpa [upd] using i3, fun _ => by simp [rowM], by simpa [upd] using i5, by simpa [upd] using i6, by simpa [upd] using i7, by simpa [upd] using i8, by simpa [upd] using i9, by simpa [upd] using i10, by simpa [upd] using i11, by simpa [upd] using i12, by simpa [upd] using i13⟩
        · simp at ho; subst ho
          have l0 := hp 0 (of_decide_eq_true (by kernel_rfl))
          have q0 := i0 l0
          have l4 := hp 4 (of_decide_eq_true (by kernel_rfl))
          have q4 := i4 l4
          simp [e0, e3, e4, e5, e6, hw, s3, q0, q4, netC, rowK, rowM, hIx, hmk, nq, na, nl, hH, happV, o1, o2]
          exact ⟨by simp [e0], by simp [e3], by simp [e4], by simp [e5], by simp [e6], by simp [hw], by simpa [upd] using s3, by simpa [upd] using i0, by simpa [upd] using i1, by simpa [upd] using i2, by simpa [upd] using i3, by simpa [upd] using i4, fun _ => by simp [netC, rowK], by simpa [upd] using i6, by simpa [upd] using i7, by simpa [upd] using i8, by simpa [upd] using i9, by simpa [upd] using i10, by simpa [upd] using i11, by simpa [upd] using i12, by simpa [upd] using i13⟩
        · simp at ho; subst ho
          have l5 := hp 5 (of_decide_eq_true (by kernel_rfl))
          have q5 := i5 l5
          simp [e0, e3, e4, e5, e6, hw, s3, q5, netC, rowK, rowM, hIx, hmk, nq, na, nl, hH, happV, o1, o2]
          exact ⟨by simp [e0], by simp [e3], by simp [e4], by simp [e5], by simp [e6], by simp [hw], by simpa [upd] using s3, by simpa [upd] using i0, by simpa [upd] using i1, by simpa [upd] using i2, by simpa [upd] using i3, by simpa [upd] using i4, by simpa [upd] using i5, fun _ => by simp [netC, rowK], by simpa [upd] using i7, by simpa [upd] using i8, by simpa [upd] using i9, by simpa [upd] using i10, by simpa [upd] using i11, by simpa [upd] using i12, by simpa [upd] using i13⟩
        · simp at ho; subst ho
          have l6 := hp 6 (of_decide_eq_true (by kernel_rfl))
          have q6 := i6 l6
          simp [e0, e3, e4, e5, e6, hw, s3, q6, netC, rowK, rowM, hIx, hmk, nq, na, nl, hH, happV, o1, o2]
          exact ⟨by simp [e0], by simp [e3], by simp [e4], by simp [e5], by simp [e6], by simp [hw], by simpa [upd] using s3, by simpa [upd] using i0, by simpa [upd] using i1, by simpa [upd] using i2, by simpa [upd] using i3, by simpa [upd] using i4, by simpa [upd] using i5, by simpa [upd] using i6, fun _ => by simp [netC], by simpa [upd] using i8, by simpa [upd] using i9, by simpa [upd] using i10, by simpa [upd] using i11, by simpa [upd] using i12, by simpa [upd] using i13⟩
        · simp at ho; subst ho
          have l6 := hp 6 (of_decide_eq_true (by kernel_rfl))
          have q6 := i6 l6
          simp [e0, e3, e4, e5, e6, hw, s3, q6, netC, rowK, rowM, hIx, hmk, nq, na, nl, hH, happV, o1, o2]
          exact ⟨by simp [e0], by simp [e3], by simp [e4], by simp [e5], by simp [e6], by simp [hw], by simpa [upd] using s3, by simpa [upd] using i0, by simpa [upd] using i1, by simpa [upd] using i2, by simpa [upd] using i3, by simpa [upd] using i4, by simpa [upd] using i5, by simpa [upd] using i6, by simpa [upd] using i7, fun _ => by simp [rowK], by simpa [upd] using i9, by simpa [upd] using i10, by simpa [upd] using i11, by simpa [upd] using i12, by simpa [upd] using i13⟩
        · simp at ho; subst ho
          have l6 := hp 6 (of_decide_eq_true (by kernel_rfl))
          have q6 := i6 l6
          simp [e0, e3, e4, e5, e6, hw, s3, q6, netC, rowK, rowM, hIx, hmk, nq, na, nl, hH, happV, o1, o2]
          exact ⟨by simp [e0], by simp [e3], by simp [e4], by simp [e5], by simp [e6], by simp [hw], by simpa [upd] using s3, by simpa [upd] using i0, by simpa [upd] using i1, by simpa [upd] using i2, by simpa [upd] using i3, by simpa [upd] using i4, by simpa [upd] using i5, by simpa [upd] using i6, by simpa [upd] using i7, by simpa [upd] using i8, fun _ => by simp, by simpa [upd] using i10, by simpa [upd] using i11, by simpa [upd] using i12, by simpa [upd] using i13⟩
        · simp at ho; subst ho
          simp [e0, e3, e4, e5, e6, hw, s3, netC, rowK, rowM, hIx, hmk, nq, na, nl, hH, happV, o1, o2, -NEW_def]
          refine fun z hz => ?_
          have zs : Apart z id3 := frs.ne hz s3
          simp
          have l12 : L 12 = false := by cases e : L 12 with | false => rfl | true => rw [i12 e] at hLi; cases hLi
          exact ⟨by simp [e0], by simp [e3], by simp [e4], by simp [e5], by simp [e6], hw.new hz, by simp [zs, zs.symm, s3], by simpa [upd] using i0, by simpa [upd] using i1, by simpa [upd] using i2, by simpa [upd] using i3, by simpa [upd] using i4, by simpa [upd] using i5, by simpa [upd] using i6, by simpa [upd] using i7, by simpa [upd] using i8, by simpa [upd] using i9, fun _ => ⟨z, zs, by simp, by simp [upd, l12]⟩, fun l => by obtain ⟨w, w1, w2, w3, w4⟩ := i11 (by simpa [upd] using l); have zw := frs.ne hz w4; exact ⟨w, w1, w2, by simpa using w3, by simpa [upd, zw, zw.symm] using w4⟩, fun _ => by simp [upd], by simpa [upd] using i13⟩
        · simp at ho; subst ho
          simp [e0, e3, e4, e5, e6, hw, s3, netC, rowK, rowM, hIx, hmk, nq, na, nl, hH, happV, o1, o2, -NEW_def]
          refine fun w hz => ?_
          have zs : Apart w id3 := frs.ne hz s3
          simp
          have l13 : L 13 = false := by cases e : L 13 with | false => rfl | true => rw [i13 e] at hLi; cases hLi
          exact ⟨by simp [e0], by simp [e3], by simp [e4], by simp [e5], by simp [e6], hw.new hz, by simp [zs, zs.symm, s3], by simpa [upd] using i0, by simpa [upd] using i1, by simpa [upd] using i2, by simpa [upd] using i3, by simpa [upd] using i4, by simpa [upd] using i5, by simpa [upd] using i6, by simpa [upd] using i7, by simpa [upd] using i8, by simpa [upd] using i9, fun l => by obtain ⟨z, z1, z3, z4⟩ := i10 (by simpa [upd] using l); have zw := frs.ne hz z4; exact ⟨z, z1, by simpa using z3, by simpa [upd, zw, zw.symm] using z4⟩, fun _ => ⟨w, zs, Own.fresh hw hz, by simp, by simp [upd, l13]⟩, by simpa [upd] using i12, fun _ => by simp [upd]⟩
        · simp at ho; subst ho
          have l10 := hp 10 (of_decide_eq_true (by kernel_rfl))
          obtain ⟨z, zs, qz, sz⟩ := i10 l10
          rw [hLi] at sz
          have l7 := hp 7 (of_decide_eq_true (by kernel_rfl))
          have q7 := i7 l7
          simp [qz, sz, zs, zs.symm, e0, e3, e4, e5, e6, hw, s3, q7, netC, rowK, rowM, hIx, hmk, nq, na, nl, hH, happV, o1, o2]
          exact ⟨by simp [e0], by simp [e3], by simp [e4], by simp [e5], by simp [e6], hw.set fun cs e => by rw [sz] at e; cases e; exact neRows (c := encA false []) rfl, by simp [zs, zs.symm, s3], by simpa [upd] using i0, by simpa [upd] using i1, by simpa [upd] using i2, by simpa [upd] using i3, by simpa [upd] using i4, by simpa [upd] using i5, by simpa [upd] using i6, by simpa [upd] using i7, by simpa [upd] using i8, by simpa [upd] using i9, fun _ => ⟨z, zs, by simp [qz], by simp [upd, netC]⟩, fun l => by obtain ⟨w, w1, w2, w3, w4⟩ := i11 (by simpa [upd] using l); have zw : Apart w z := apart_len w4 sz (by split <;> simp [rowK]); exact ⟨w, w1, w2, by simpa using w3, by simpa [upd, zw, zw.symm] using w4⟩, fun _ => by simpa [upd] using l10, by simpa [upd] using i13⟩
        · simp at ho; subst ho
          have l11 := hp 11 (of_decide_eq_true (by kernel_rfl))
          obtain ⟨w, zs, wn, qz, sw⟩ := i11 l11
          rw [hLi] at sw
          have l8 := hp 8 (of_decide_eq_true (by kernel_rfl))
          have q8 := i8 l8
          simp [qz, sw, zs, zs.symm, e0, e3, e4, e5, e6, hw, s3, q8, netC, rowK, rowM, hIx, hmk, nq, na, nl, hH, happV, o1, o2]
          exact ⟨by simp [e0], by simp [e3], by simp [e4], by simp [e5], by simp [e6], Own.setNe hw wn, by simp [zs, zs.symm, s3], by simpa [upd] using i0, by simpa [upd] using i1, by simpa [upd] using i2, by simpa [upd] using i3, by simpa [upd] using i4, by simpa [upd] using i5, by simpa [upd] using i6, by simpa [upd] using i7, by simpa [upd] using i8, by simpa [upd] using i9, fun l => by obtain ⟨z, z1, z3, z4⟩ := i10 (by simpa [upd] using l); have zw : Apart z w := apart_len z4 sw (by split <;> simp [netC]); exact ⟨z, z1, by simpa using z3, by simpa [upd, zw, zw.symm] using z4⟩, fun _ => ⟨w, zs, wn, by simp [qz], by simp [upd, rowK]⟩, by simpa [upd] using i12, fun _ => by simpa [upd] using l11⟩
      · clear e0 e3 e4 e5 e6 hw s3
        rintro L fr σ hall ⟨e0, e3, e4, e5, e6, hw, s3, i0, i1, i2, i3, i4, i5, i6, i7, i8, i9, i10, i11, i12, i13⟩
        have q0 := i0 (hall 0 (by omega))
        have q1 := i1 (hall 1 (by omega))
        have q2 := i2 (hall 2 (by omega))
        have q3 := i3 (hall 3 (by omega))
        have q4 := i4 (hall 4 (by omega))
        have q5 := i5 (hall 5 (by omega))
        have q6 := i6 (hall 6 (by omega))
        have q7 := i7 (hall 7 (by omega))
        have q8 := i8 (hall 8 (by omega))
        have q9 := i9 (hall 9 (by omega))
        have q10 := i10 (hall 10 (by omega))
        have q11 := i11 (hall 11 (by omega))
        have q12 := i12 (hall 12 (by omega))
        have q13 := i13 (hall 13 (by omega))
        obtain ⟨z, zs, qz, sz⟩ := q10
        rw [hall 12 (by omega), if_pos rfl] at sz
        obtain ⟨w, ws, wn, qw, sw⟩ := q11
        rw [hall 13 (by omega), if_pos rfl] at sw
        have zw : Apart z w := apart_len sz sw (by simp [netC, rowK])
        refine pops_pst TQ_ok (show pT P0 TQ false 102 _ _ [_] fr σ {} from ?_)
        have s00 : sameN nt0 nt0 = true := sameN_refl nt0
        by_cases he : e = 0
        · subst he
          have tk : m.k.tmod 6 = m.k % 6 := Int.tmod_eq_emod_of_nonneg hmk.1.1
          obtain hc | hc | hc | hc : m.k % 6 = 0 ∨ m.k % 6 = 1 ∨ m.k % 6 = 4 ∨ (m.k % 6 = 2 ∨ m.k % 6 = 3 ∨ m.k % 6 = 5) := by omega
          · rw [hc] at tk
            have h0 := step0 hc (by rw [hH]) hI
            rw [hH] at h0
            obtain ⟨P, hP, hxq, hJ⟩ := h0
            replace hxq : x.q = n.q ++ [P] := hxq
            have hvx := hJ.1
            have hxl : x.q.length = n.q.length + 1 := by rw [hxq]; simp
            have hx0 : ((x.q.length : Int) == 0) = false := by simp; intro e; rw [e] at hxl; simp at hxl
            have wm : IntKind.i64.wrap ((x.q.length : Int) - 1) = (n.q.length : Int) := by rw [wrap_i64 (by omega) (by omega)]; omega
            have hIP : IAx (some (none, 3, true)) (encQ false x.q) (num (n.q.length : Int)) = ⟨True, .ref (rowK P)⟩ := by
              have := IAx_encQ (b := false) (l := x.q) (k := n.q.length) .i64 (by omega)
              rw [this]
              congr 3
              simp [hxq]
            simp [netC, rowK, rowM, qz, sz, qw, sw, zs, zs.symm, ws, ws.symm, zw, zw.symm, s3, e0, e3, e4, e5, e6, q9, o1, o2, wk, chkR, hvx, xq, xa, hIx, tk, okp, hlt, hx0, wm, hIP]
            refine own_append (k := 3) (b := 40) (rows := s.map rowK) (new := [rowK P]) (zs := [num 0, num 0, .lit (.slice none 0 0)]) hw elem22 (by decide) rfl (by decide) isl22 (yv_row fun r hr => by simp at hr; subst hr; rfl) (by simpa using rowsK_new [P]) (by simp; omega) ?_
            intro V σ2 hV hK _
            have t3 : σ2 id3 = some (.cells (netC n)) := by rw [hK id3 (by rw [s3]; simp) (hw.ne s3 (neRows (c := encA false n.a) rfl)), s3]
            have tz : σ2 z = some (.cells (netC x)) := by rw [hK z (by rw [sz]; simp) (hw.ne sz (neRows (c := encA false x.a) rfl)), sz]
            obtain ⟨v1, v2⟩ := hV.sv
            have hrow : s.map rowK ++ [rowK P] = (s ++ [P]).map rowK := by simp
            rw [hrow] at hV
            have hV2 : Own 3 (σ2.set id3 (.cells (netC x))) V ((s ++ [P]).map rowK) := hV.set fun cs e => by rw [t3] at e; cases e; exact neRows (c := encA false n.a) rfl
            have hso2 : ∀ q ∈ s ++ [P], okP q := fun q hq => by
              rcases List.mem_append.1 hq with hq | hq
              · exact hso q hq
              · rw [List.mem_singleton.1 hq]; exact hP
            simp [netC, qz, zs, zs.symm, t3, tz, e0, e3, e5, e6, v1, v2, wk, chkR, hvx, xq, xa, -List.map_append]
            exact ⟨ms.length - (i + 1), by omega, i + 1, rfl, by omega, by omega, x, ⟨rfl, rfl⟩, s ++ [P], hV2, by simp; omega, by omega, hJ, hso2⟩
          · rw [hc] at tk
            have h0 := step1 hc (by rw [hH]) hI
            rw [hH] at h0
            obtain ⟨hJ, hp⟩ := h0
            have hvx := hJ.1
            have p0 := okP_zero
            unfold okP at p0
            obtain ⟨pp, hpp⟩ := own_readQ hw
            have hw2 : Own 3 (σ.set id3 (.cells (netC x))) v (s.map rowK) := hw.set fun cs e => by rw [s3] at e; cases e; exact neRows (c := encA false n.a) rfl
            apply two (P := P0) (n := 102) (I := fun fr σ' => ∃ b : Bool, σ' = σ ∧ fr 0 = encM false ms ∧ fr 3 = .ptr id3 0 ∧ fr 4 = v ∧ fr 5 = num c ∧ fr 6 = num i ∧ fr 7 = .ptr z 0 ∧ fr 8 = .ptr w 0 ∧ fr 10 = bo b ∧ (b = true ∨ ∃ k : Nat, k < s.length ∧ sameP (s.getD k pk0) p = true))
            case main =>
              intro cont
              cases hb1 : sameP p pk0 with
              | false =>
                have hps : p ∈ s := by
                  rcases hp with ⟨h1, _⟩ | h1
                  · replace h1 : p = pk0 := h1
                    rw [h1, sameP_refl] at hb1; cases hb1
                  · exact h1
                obtain ⟨k, hk, hkp⟩ := List.getElem_of_mem hps
                have hor : (false = true ∨ ∃ k : Nat, k < s.length ∧ sameP (s.getD k pk0) p = true) := .inr ⟨k, hk, by rw [List.getD_eq_getElem?_getD, List.getElem?_eq_getElem hk]; show sameP s[k] p = true; rw [hkp]; exact sameP_refl p⟩
                simp [netC, rowK, rowM, qz, sz, qw, sw, zs, zs.symm, ws, ws.symm, zw, zw.symm, s3, e0, e3, e4, e5, e6, q9, o1, o2, wk, chkR, hvx, xq, xa, hIx, tk, okp, hlt, hb1, p0]
                refine pwpT_go (cont _ _ ⟨false, rfl, ?_, ?_, ?_, ?_, ?_, ?_, ?_, ?_, hor⟩) <;> simp [e0, e3, e4, e5, e6, qz, qw, o1, o2]
              | true =>
                by_cases hcc : 0 < c
                · simp [netC, rowK, rowM, qz, sz, qw, sw, zs, zs.symm, ws, ws.symm, zw, zw.symm, s3, e0, e3, e4, e5, e6, q9, o1, o2, wk, chkR, hvx, xq, xa, hIx, tk, okp, hlt, hb1, p0, hcc]
                  refine pwpT_go (cont _ _ ⟨true, rfl, ?_, ?_, ?_, ?_, ?_, ?_, ?_, ?_, .inl rfl⟩) <;> simp [e0, e3, e4, e5, e6, qz, qw, o1, o2]
                · have hps : p ∈ s := by
                    rcases hp with ⟨_, h1⟩ | h1
                    · exact absurd h1 hcc
                    · exact h1
                  obtain ⟨k, hk, hkp⟩ := List.getElem_of_mem hps
                  have hor : (false = true ∨ ∃ k : Nat, k < s.length ∧ sameP (s.getD k pk0) p = true) := .inr ⟨k, hk, by rw [List.getD_eq_getElem?_getD, List.getElem?_eq_getElem hk]; show sameP s[k] p = true; rw [hkp]; exact sameP_refl p⟩
                  simp [netC, rowK, rowM, qz, sz, qw, sw, zs, zs.symm, ws, ws.symm, zw, zw.symm, s3, e0, e3, e4, e5, e6, q9, o1, o2, wk, chkR, hvx, xq, xa, hIx, tk, okp, hlt, hb1, p0, hcc]
                  refine pwpT_go (cont _ _ ⟨false, rfl, ?_, ?_, ?_, ?_, ?_, ?_, ?_, ?_, hor⟩) <;> simp [e0, e3, e4, e5, e6, qz, qw, o1, o2]
            case key =>
              rintro fr σ' ⟨b, rfl, e0, e3, e4, e5, e6, e7, e8, e10, hor⟩
              refine pwp_go TQ_ok ?_
              simp [e0, e3, e4, e5, e6, e7, e8, e10]
              refine pwp_loop (fun N fr σ'' => ∃ (k : Nat) (b : Bool), N = s.length - k ∧ k ≤ s.length ∧ σ'' = σ' ∧ fr 0 = encM false ms ∧ fr 3 = .ptr id3 0 ∧ fr 4 = v ∧ fr 5 = num c ∧ fr 6 = num i ∧ fr 7 = .ptr z 0 ∧ fr 8 = .ptr w 0 ∧ fr 10 = bo b ∧ fr 11 = num k ∧ (b = true ∨ ∃ q : Nat, k ≤ q ∧ q < s.length ∧ sameP (s.getD q pk0) p = true))
                (N := s.length) ⟨0, b, by simp [e0, e3, e4, e5, e6, e7, e8, e10]; simpa using hor⟩ ?_
              rintro N fr σ'' ⟨k, b, rfl, hk, rfl, e0, e3, e4, e5, e6, e7, e8, e10, e11, hor⟩
              refine pwp_go TQ_ok ?_
              have hln : Lenx .slice σ'' v = ⟨True, num s.length⟩ := by
                rcases hw.2 with ⟨rfl, hz⟩ | ⟨id, full, rfl, _⟩ | rfl
                · have : s = [] := by simpa using hz
                  subst this; simp
                · simp
                · simp
              by_cases hkl : k < s.length
              · obtain ⟨r1, r2, r3, r4⟩ := hpp k hkl
                have wk2 : IntKind.i64.wrap ((k : Int) + 1) = (k : Int) + 1 := wrap_i64 (by omega) (by omega)
                have hsk := hso _ (List.getElem_mem hkl)
                unfold okP at hsk
                have hgd : s.getD k pk0 = s[k] := by rw [List.getD_eq_getElem?_getD, List.getElem?_eq_getElem hkl]; rfl
                simp [e0, e3, e4, e5, e6, e7, e8, e10, e11, o1, o2, hln, hkl]
                refine pwpT_go (pwp_drawT TQ_ok 9 mixed (by kernel_rfl) ?_)
                cases b with
                | true =>
                  simp [e0, e3, e4, e5, e6, e7, e8, e10, e11, o1, o2, wk2]
                  exact ⟨s.length - (k + 1), by omega, k + 1, rfl, by omega, by omega⟩
                | false =>
                  cases hb : sameP s[k] p with
                  | true =>
                    simp [netC, rowK, e0, e3, e4, e5, e6, e7, e8, e10, e11, o1, o2, r1, r2, r3, r4, sw, hsk, okp, hb, wk2]
                    exact ⟨s.length - (k + 1), by omega, k + 1, rfl, by omega, by omega⟩
                  | false =>
                    simp [netC, rowK, e0, e3, e4, e5, e6, e7, e8, e10, e11, o1, o2, r1, r2, r3, r4, sw, hsk, okp, hb, wk2]
                    rcases hor with h | ⟨q, h1, h2, h3⟩
                    · cases h
                    · have hqk : q ≠ k := fun e => by
                        subst e; rw [hgd, hb] at h3; cases h3
                      exact ⟨s.length - (k + 1), by omega, k + 1, rfl, by omega, by omega, q, by omega, h2, by simpa using h3⟩
              · have hkn : k = s.length := by omega
                have hbt : b = true := by
                  rcases hor with h | ⟨q, h1, h2, _⟩
                  · exact h
                  · omega
                subst hbt
                simp [netC, e0, e3, e4, e5, e6, e7, e8, e10, e11, o1, o2, hln, hkl, sz, s3, zs, zs.symm, chkR, hvx, xq, xa, wk]
                exact ⟨ms.length - (i + 1), by omega, i + 1, rfl, by omega, by omega, x, ⟨rfl, rfl⟩, s, hw2, by omega, by omega, hJ, hso⟩
          · rw [hc] at tk
            have hJ := step4 hc (by rw [hH]) hI
            rw [hH] at hJ
            have hvx := hJ.1
            have hw2 : Own 3 (σ.set id3 (.cells (netC x))) v (s.map rowK) := hw.set fun cs e => by rw [s3] at e; cases e; exact neRows (c := encA false n.a) rfl
            simp [netC, rowK, rowM, qz, sz, qw, sw, zs, zs.symm, ws, ws.symm, zw, zw.symm, s3, e0, e3, e4, e5, e6, q9, o1, o2, wk, chkR, hvx, xq, xa, hIx, tk, okp, hlt, wc]
            exact ⟨ms.length - (i + 1), by omega, i + 1, rfl, by omega, by omega, x, ⟨rfl, rfl⟩, s, hw2, by omega, by omega, hJ, hso⟩
          · have hJ := step2 hc (by rw [hH]) hI
            rw [hH] at hJ
            have hvx := hJ.1
            have hw2 : Own 3 (σ.set id3 (.cells (netC x))) v (s.map rowK) := hw.set fun cs e => by rw [s3] at e; cases e; exact neRows (c := encA false n.a) rfl
            rcases hc with hc | hc | hc <;> rw [hc] at tk <;> simp [netC, rowK, rowM, qz, sz, qw, sw, zs, zs.symm, ws, ws.symm, zw, zw.symm, s3, e0, e3, e4, e5, e6, q9, o1, o2, wk, chkR, hvx, xq, xa, hIx, tk, okp, hlt]
            all_goals exact ⟨ms.length - (i + 1), by omega, i + 1, rfl, by omega, by omega, x, ⟨rfl, rfl⟩, s, hw2, by omega, by omega, hJ, hso⟩
        · have hx : x = nt0 := hbad he
          subst hx
          have z1 := okN_zero.1
          have z2 := okN_zero.2
          simp [netC, rowK, qz, sz, qw, sw, zs, zs.symm, ws, ws.symm, zw, zw.symm, s3, e0, e3, e4, e5, e6, q9, o1, o2, he, wk, chkR, hvn, nq, na, z1, z2, s00]
          exact ⟨ms.length - (i + 1), by omega, i + 1, rfl, by omega, by omega, n, ⟨rfl, rfl⟩, s, hw, by omega, by omega, hI, hso⟩
    · simp [e0, e3, e4, e5, e6, hlt]
end Go.Proofs.Ytgcoikbgpkfcnaa
