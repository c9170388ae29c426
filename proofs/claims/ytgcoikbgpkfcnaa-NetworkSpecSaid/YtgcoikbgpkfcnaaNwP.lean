/-
  Network: the laws NetworkSpec, NetworkLost.
-/
import Derived.Test.YtgcoikbgpkfcnaaNwO
set_option linter.unusedSimpArgs false
set_option linter.unusedVariables false
namespace Go.Proofs.Ytgcoikbgpkfcnaa
open Go.Lo

theorem spec3_ok (n : Nt) (p : Pk) (hn : okN n) (hp : okP p) : PFun P0 3 [.agg (netC n), .agg (rowK p)] (bo true) := by
  refine pcalls_body Try.func3 rfl rfl rfl (by show 2 ≤ _; decide) (pwp_go TP_ok ?_)
  have hq := hn.1
  have ha := hn.2
  have hd := hp
  unfold okP at hd
  by_cases hf : fewS n = true
  · have hm := okN_send hn hp
    obtain ⟨m, e, hs⟩ : ∃ m e, sendN n p = (m, e) := ⟨_, _, rfl⟩
    rw [hs] at hm
    have hmq := hm.1
    have hma := hm.2
    have s1 := sameN_refl m
    have s0 := sameN_refl nt0
    have z1 := okN_zero.1
    have z2 := okN_zero.2
    simp (config := { contextual := true }) [netC, rowK, hq, ha, hd, hf, sendV, neV, hs]
    intros
    refine pwp_drawT TP_ok 21 mixed (by kernel_rfl) ?_
    simp [*, chkR, netC]
  · simp (config := { contextual := true }) [netC, rowK, hq, ha, hd, hf]

@[simp] theorem conv342 (k : IntKind) (n : Int) : evConv P0 3 42 (.lit (.int k n)) = ⟨True, .lit (.int .u64 (IntKind.u64.wrap n))⟩ := evConv_int 3 42 k .u64 n (by kernel_rfl) (by kernel_rfl)
@[simp] theorem conv423 (k : IntKind) (n : Int) : evConv P0 42 3 (.lit (.int k n)) = ⟨True, .lit (.int .i64 (IntKind.i64.wrap n))⟩ := evConv_int 42 3 k .i64 n (by kernel_rfl) (by kernel_rfl)
theorem fewS_le {n : Nt} (h : fewS n = true) : n.q.length ≤ 40 ∧ n.a.length ≤ 40 := by
  simp only [fewS, Bool.and_eq_true, decide_eq_true_eq] at h; omega
theorem send_ok {n : Nt} {p : Pk} (hv : vN n = true) (hp : vP p = true) (hl : n.q.length < 4096) : sendN n p = (⟨n.q ++ [p], n.a⟩, 0) := by
  unfold sendN; rw [if_pos (by rw [hv, hp]; rfl), if_neg (by omega)]
theorem lost_facts {n : Nt} {i : Int} (hf : n.q.length ≤ 40) (ha : askN n i = 0) : ∃ x M M2 M3, deliverN n i = (x, M, 0) ∧ loseN n i = (M, 0) ∧ repeatN n i = (M2, 0) ∧ loseN M2 i = (M3, 0) ∧ sendN M (atN n i) = (M3, 0) ∧ M2.q.length = n.q.length + 1 := by
  obtain ⟨hv, h1, h2⟩ := askN_ok.1 ha
  have hp := atN_vP ha
  have hi : i.toNat < n.q.length := by omega
  have hs := send_ok hv hp (by omega)
  have hv2 := vN_send hv hp (show n.q.length < 4096 by omega)
  have ha2 : askN ⟨n.q ++ [atN n i], n.a⟩ i = 0 := askN_ok.2 ⟨hv2, h1, by simp; omega⟩
  have hvw := vN_without hv hi
  have hlw := without_length hi
  refine ⟨_, ⟨without n.q i.toNat, n.a⟩, ⟨n.q ++ [atN n i], n.a⟩, ⟨without n.q i.toNat ++ [atN n i], n.a⟩, by unfold deliverN; rw [if_pos ha], by unfold loseN; rw [if_pos ha], by unfold repeatN; rw [if_pos ha, hs], ?_, ?_, by simp⟩
  · unfold loseN; rw [if_pos ha2, without_append hi]
  · exact send_ok hvw hp (by show (without n.q i.toNat).length < 4096; omega)
def I8 (n M M2 M3 : Nt) (p : Pk) (j : Nat) (L : Nat → Bool) (fr : Fr) (σ : Heap) : Prop :=
  (fr 2 = .ref (netC n)) ∧ (fr 5 = num j) ∧ (fr 7 = .ref (netC M)) ∧ (fr 8 = num 0) ∧ (fr 9 = .ref (netC M)) ∧ (fr 10 = num 0) ∧ (fr 11 = .ref (netC M2)) ∧ (fr 12 = num 0) ∧ (fr 13 = .ref (netC M3)) ∧ (fr 14 = num 0) ∧ (L 0 = true → fr 66 = .agg (netC M)) ∧ (L 1 = true → fr 67 = .ref (netC n)) ∧ (L 2 = true → fr 68 = encQ false n.q) ∧ (L 3 = true → fr 69 = num j) ∧ (L 4 = true → fr 70 = .ref (rowK p)) ∧ (L 5 = true → fr 71 = .agg (rowK p)) ∧ (L 6 = true → fr 72 = .tup [.agg (netC M3), num 0]) ∧ (L 7 = true → fr 65 = .tup [.agg (netC M3), num 0]) ∧ (L 8 = true → fr 73 = .agg (netC M3)) ∧ (L 9 = true → fr 74 = num 0) ∧ (L 10 = true → ∃ z, fr 15 = .ptr z 0 ∧ σ z = some (.cells (if L 11 = true then netC M3 else [.lit (.slice none 0 0), .lit (.slice none 0 0)]))) ∧ (L 11 = true → L 10 = true)
set_option maxRecDepth 8000 in
theorem lost8_ok (n : Nt) (v : Int) (hn : okN n) (hv0 : 0 ≤ v) (hv1 : v < 18446744073709551616) : PFun P0 8 [.agg (netC n), .lit (.int .u64 v)] (bo true) := by
  refine pcalls_body Try.func8 rfl rfl rfl (by show 2 ≤ _; decide) (pwp_go TP_ok ?_)
  have hq := hn.1
  have ha := hn.2
  cases hf : fewS n with
  | false => simp (config := { contextual := true }) [netC, hq, ha, hf]
  | true =>
  cases hc : vN n with
  | false => simp (config := { contextual := true }) [netC, hq, ha, hf, chkR, hc]
  | true =>
  by_cases hl : n.q.length = 0
  · have hl' : (n.q.length : Int) = 0 := by omega
    simp (config := { contextual := true }) [netC, hq, ha, hf, chkR, hc, hl', hl]
  · have hl' : ((n.q.length : Int) == 0) = false := by simpa using hl
    have hf' := fewS_le hf
    have wu : IntKind.u64.wrap (n.q.length : Int) = n.q.length := Go.IntWalk.u64_in _ (by omega)
    obtain ⟨j, hj, hja⟩ : ∃ j : Nat, v.tmod (n.q.length : Int) = (j : Int) ∧ j < n.q.length := by
      have q1 := Int.emod_nonneg v (show (n.q.length : Int) ≠ 0 by omega)
      have q2 := Int.emod_lt_of_pos v (show (0 : Int) < (n.q.length : Int) by omega)
      rw [Int.tmod_eq_emod_of_nonneg hv0]
      exact ⟨(v % (n.q.length : Int)).toNat, by omega, by omega⟩
    have wj : IntKind.i64.wrap (j : Int) = j := wrap_i64 (by omega) (by omega)
    have hask : askN n (j : Int) = 0 := askN_ok.2 ⟨hc, by omega, by omega⟩
    obtain ⟨x, M, M2, M3, f1, f2, f3, f4, f5, f6⟩ := lost_facts hf'.1 hask
    have oM := okN_lose (i := (j : Int)) hn
    rw [f2] at oM
    have oM2 := okN_repeat (i := (j : Int)) hn
    rw [f3] at oM2
    have oM3 := okN_lose (i := (j : Int)) oM2
    rw [f4] at oM3
    have ox := okP_deliver (i := (j : Int)) hn
    rw [f1] at ox
    replace oM : okN M := oM
    replace oM2 : okN M2 := oM2
    replace oM3 : okN M3 := oM3
    replace ox : okP x := ox
    unfold okP at ox
    obtain ⟨a1, a2⟩ := oM
    obtain ⟨b1, b2⟩ := oM2
    obtain ⟨c1, c2⟩ := oM3
    have g0 : (n.q.length : Int) ≠ 0 := by omega
    simp (config := { contextual := true }) [netC, hq, ha, hf, chkR, hc, hl', wu, hj, wj, g0, deliverV, loseV, repeatV, neV, rowK, f1, f2, f3, f4, a1, a2, b1, b2, c1, c2]
    intro id2
    refine ⟨fun e => hl (by rw [e]; rfl), ?_⟩
    intro id6 h62 id7 h76 h72 id9 h97 h96 h92 id11 h119 h117 h116 h112 id13 h1311 h139 h137 h136 h132
    refine pwpT_go (pwp_frz 3 ((((((Heap.empty.set id2 (.cells (netC n))).set id6 (.cells (rowK x))).set id7 (.cells (netC M))).set id9 (.cells (netC M))).set id11 (.cells (netC M2))).set id13 (.cells (netC M3))) ?_ ?_)
    · refine Frz.set (Frz.set (Frz.set (Frz.set (Frz.set (Frz.set Frz.none ?_) ?_) ?_) ?_) ?_) ?_ <;> simp [netC, rowK, *]
    refine pwp_gen (I := fun fr σ => fr 2 = .ref (netC n) ∧ fr 5 = num j ∧ fr 7 = .ref (netC M) ∧ fr 8 = num 0 ∧ fr 9 = .ref (netC M) ∧ fr 10 = num 0 ∧ fr 11 = .ref (netC M2) ∧ fr 12 = num 0 ∧ fr 13 = .ref (netC M3) ∧ fr 14 = num 0) (by simp [netC, *]) ?_
    rintro fr σ ⟨e2, e5, e7, e8, e9, e10, e11, e12, e13, e14⟩
    obtain ⟨p, hpk⟩ : ∃ p, n.q[j] = p := ⟨_, rfl⟩
    have hat : atN n (j : Int) = p := by unfold atN; rw [List.getD_eq_getElem?_getD, show ((j : Int)).toNat = j by omega, List.getElem?_eq_getElem hja]; exact hpk
    rw [hat] at f5
    have hokp : p.d.length ≤ maxLen := by rw [← hpk]; exact hn.1.1 _ (List.getElem_mem hja)
    have hIx : IAx (some (none, 3, true)) (encQ false n.q) (num (j : Int)) = ⟨True, .ref (rowK p)⟩ := by rw [← hpk]; exact IAx_encQ .i64 hja
    have s1 := sameN_refl M
    have s3 := sameN_refl M3
    have wl : IntKind.i64.wrap ((n.q.length : Int) + 1) = (n.q.length : Int) + 1 := wrap_i64 (by omega) (by omega)
    have f6' : (M2.q.length : Int) = (n.q.length : Int) + 1 := by omega
    refine pwp_drawI (k := 12) (I := I8 n M M2 M3 p j) mixed (by kernel_rfl) (by kernel_rfl) (by decide) ?_ ?_ ?_
    · exact ⟨e2, e5, e7, e8, e9, e10, e11, e12, e13, e14, nofun, nofun, nofun, nofun, nofun, nofun, nofun, nofun, nofun, nofun, nofun, nofun⟩
    · clear e2 e5 e7 e8 e9 e10 e11 e12 e13 e14
      rintro L fr σ i o hi ho hLi hp ⟨e2, e5, e7, e8, e9, e10, e11, e12, e13, e14, i0, i1, i2, i3, i4, i5, i6, i7, i8, i9, i10, i11⟩
      refine pops_pst TP_ok (show pT P0 TP false 113 _ _ [o] fr σ {} from ?_)
      rcases (show i = 0 ∨ i = 1 ∨ i = 2 ∨ i = 3 ∨ i = 4 ∨ i = 5 ∨ i = 6 ∨ i = 7 ∨ i = 8 ∨ i = 9 ∨ i = 10 ∨ i = 11 by omega) with rfl | rfl | rfl | rfl | rfl | rfl | rfl | rfl | rfl | rfl | rfl | rfl
      · simp at ho; subst ho
        simp [e2, e5, e7, e8, e9, e10, e11, e12, e13, e14, netC, rowK, hIx, hokp, a1, a2, c1, c2, f5, sendV, neV]
        exact ⟨by simp [e2], by simp [e5], by simp [e7], by simp [e8], by simp [e9], by simp [e10], by simp [e11], by simp [e12], by simp [e13], by simp [e14], fun _ => by simp [netC], by simpa [upd] using i1, by simpa [upd] using i2, by simpa [upd] using i3, by simpa [upd] using i4, by simpa [upd] using i5, by simpa [upd] using i6, by simpa [upd] using i7, by simpa [upd] using i8, by simpa [upd] using i9, by simpa [upd] using i10, by simpa [upd] using i11⟩
      · simp at ho; subst ho
        simp [e2, e5, e7, e8, e9, e10, e11, e12, e13, e14, netC, rowK, hIx, hokp, a1, a2, c1, c2, f5, sendV, neV]
        exact ⟨by simp [e2], by simp [e5], by simp [e7], by simp [e8], by simp [e9], by simp [e10], by simp [e11], by simp [e12], by simp [e13], by simp [e14], by simpa [upd] using i0, fun _ => by simp [netC], by simpa [upd] using i2, by simpa [upd] using i3, by simpa [upd] using i4, by simpa [upd] using i5, by simpa [upd] using i6, by simpa [upd] using i7, by simpa [upd] using i8, by simpa [upd] using i9, by simpa [upd] using i10, by simpa [upd] using i11⟩
      · simp at ho; subst ho
        have l1 := hp 1 (of_decide_eq_true (by kernel_rfl))
        have q1 := i1 l1
        simp [e2, e5, e7, e8, e9, e10, e11, e12, e13, e14, q1, netC, rowK, hIx, hokp, a1, a2, c1, c2, f5, sendV, neV]
        exact ⟨by simp [e2], by simp [e5], by simp [e7], by simp [e8], by simp [e9], by simp [e10], by simp [e11], by simp [e12], by simp [e13], by simp [e14], by simpa [upd] using i0, by simpa [upd] using i1, fun _ => by simp, by simpa [upd] using i3, by simpa [upd] using i4, by simpa [upd] using i5, by simpa [upd] using i6, by simpa [upd] using i7, by simpa [upd] using i8, by simpa [upd] using i9, by simpa [upd] using i10, by simpa [upd] using i11⟩
      · simp at ho; subst ho
        simp [e2, e5, e7, e8, e9, e10, e11, e12, e13, e14, netC, rowK, hIx, hokp, a1, a2, c1, c2, f5, sendV, neV]
        exact ⟨by simp [e2], by simp [e5], by simp [e7], by simp [e8], by simp [e9], by simp [e10], by simp [e11], by simp [e12], by simp [e13], by simp [e14], by simpa [upd] using i0, by simpa [upd] using i1, by simpa [upd] using i2, fun _ => by simp, by simpa [upd] using i4, by simpa [upd] using i5, by simpa [upd] using i6, by simpa [upd] using i7, by simpa [upd] using i8, by simpa [upd] using i9, by simpa [upd] using i10, by simpa [upd] using i11⟩
      · simp at ho; subst ho
        have l2 := hp 2 (of_decide_eq_true (by kernel_rfl))
        have q2 := i2 l2
        have l3 := hp 3 (of_decide_eq_true (by kernel_rfl))
        have q3 := i3 l3
        simp [e2, e5, e7, e8, e9, e10, e11, e12, e13, e14, q2, q3, netC, rowK, hIx, hokp, a1, a2, c1, c2, f5, sendV, neV]
        exact ⟨by simp [e2], by simp [e5], by simp [e7], by simp [e8], by simp [e9], by simp [e10], by simp [e11], by simp [e12], by simp [e13], by simp [e14], by simpa [upd] using i0, by simpa [upd] using i1, by simpa [upd] using i2, by simpa [upd] using i3, fun _ => by simp [rowK], by simpa [upd] using i5, by simpa [upd] using i6, by simpa [upd] using i7, by simpa [upd] using i8, by simpa [upd] using i9, by simpa [upd] using i10, by simpa [upd] using i11⟩
      · simp at ho; subst ho
        have l4 := hp 4 (of_decide_eq_true (by kernel_rfl))
        have q4 := i4 l4
        simp [e2, e5, e7, e8, e9, e10, e11, e12, e13, e14, q4, netC, rowK, hIx, hokp, a1, a2, c1, c2, f5, sendV, neV]
        exact ⟨by simp [e2], by simp [e5], by simp [e7], by simp [e8], by simp [e9], by simp [e10], by simp [e11], by simp [e12], by simp [e13], by simp [e14], by simpa [upd] using i0, by simpa [upd] using i1, by simpa [upd] using i2, by simpa [upd] using i3, by simpa [upd] using i4, fun _ => by simp [rowK], by simpa [upd] using i6, by simpa [upd] using i7, by simpa [upd] using i8, by simpa [upd] using i9, by simpa [upd] using i10, by simpa [upd] using i11⟩
      · simp at ho; subst ho
        have l0 := hp 0 (of_decide_eq_true (by kernel_rfl))
        have q0 := i0 l0
        have l5 := hp 5 (of_decide_eq_true (by kernel_rfl))
        have q5 := i5 l5
        simp [e2, e5, e7, e8, e9, e10, e11, e12, e13, e14, q0, q5, netC, rowK, hIx, hokp, a1, a2, c1, c2, f5, sendV, neV]
        exact ⟨by simp [e2], by simp [e5], by simp [e7], by simp [e8], by simp [e9], by simp [e10], by simp [e11], by simp [e12], by simp [e13], by simp [e14], by simpa [upd] using i0, by simpa [upd] using i1, by simpa [upd] using i2, by simpa [upd] using i3, by simpa [upd] using i4, by simpa [upd] using i5, fun _ => by simp [netC], by simpa [upd] using i7, by simpa [upd] using i8, by simpa [upd] using i9, by simpa [upd] using i10, by simpa [upd] using i11⟩
      · simp at ho; subst ho
        have l6 := hp 6 (of_decide_eq_true (by kernel_rfl))
        have q6 := i6 l6
        simp [e2, e5, e7, e8, e9, e10, e11, e12, e13, e14, q6, netC, rowK, hIx, hokp, a1, a2, c1, c2, f5, sendV, neV]
        exact ⟨by simp [e2], by simp [e5], by simp [e7], by simp [e8], by simp [e9], by simp [e10], by simp [e11], by simp [e12], by simp [e13], by simp [e14], by simpa [upd] using i0, by simpa [upd] using i1, by simpa [upd] using i2, by simpa [upd] using i3, by simpa [upd] using i4, by simpa [upd] using i5, by simpa [upd] using i6, fun _ => by simp [netC], by simpa [upd] using i8, by simpa [upd] using i9, by simpa [upd] using i10, by simpa [upd] using i11⟩
      · simp at ho; subst ho
        have l7 := hp 7 (of_decide_eq_true (by kernel_rfl))
        have q7 := i7 l7
        simp [e2, e5, e7, e8, e9, e10, e11, e12, e13, e14, q7, netC, rowK, hIx, hokp, a1, a2, c1, c2, f5, sendV, neV]
        exact ⟨by simp [e2], by simp [e5], by simp [e7], by simp [e8], by simp [e9], by simp [e10], by simp [e11], by simp [e12], by simp [e13], by simp [e14], by simpa [upd] using i0, by simpa [upd] using i1, by simpa [upd] using i2, by simpa [upd] using i3, by simpa [upd] using i4, by simpa [upd] using i5, by simpa [upd] using i6, by simpa [upd] using i7, fun _ => by simp [netC], by simpa [upd] using i9, by simpa [upd] using i10, by simpa [upd] using i11⟩
      · simp at ho; subst ho
        have l7 := hp 7 (of_decide_eq_true (by kernel_rfl))
        have q7 := i7 l7
        simp [e2, e5, e7, e8, e9, e10, e11, e12, e13, e14, q7, netC, rowK, hIx, hokp, a1, a2, c1, c2, f5, sendV, neV]
        exact ⟨by simp [e2], by simp [e5], by simp [e7], by simp [e8], by simp [e9], by simp [e10], by simp [e11], by simp [e12], by simp [e13], by simp [e14], by simpa [upd] using i0, by simpa [upd] using i1, by simpa [upd] using i2, by simpa [upd] using i3, by simpa [upd] using i4, by simpa [upd] using i5, by simpa [upd] using i6, by simpa [upd] using i7, by simpa [upd] using i8, fun _ => by simp, by simpa [upd] using i10, by simpa [upd] using i11⟩
      · simp at ho; subst ho
        simp [e2, e5, e7, e8, e9, e10, e11, e12, e13, e14, netC, rowK, hIx, hokp, a1, a2, c1, c2, f5, sendV, neV, -NEW_def]
        refine fun z hz => ?_
        simp
        have l11 : L 11 = false := by cases e : L 11 with | false => rfl | true => rw [i11 e] at hLi; cases hLi
        exact ⟨by simp [e2], by simp [e5], by simp [e7], by simp [e8], by simp [e9], by simp [e10], by simp [e11], by simp [e12], by simp [e13], by simp [e14], by simpa [upd] using i0, by simpa [upd] using i1, by simpa [upd] using i2, by simpa [upd] using i3, by simpa [upd] using i4, by simpa [upd] using i5, by simpa [upd] using i6, by simpa [upd] using i7, by simpa [upd] using i8, by simpa [upd] using i9, fun _ => ⟨z, by simp, by simp [upd, l11]⟩, fun _ => by simp [upd]⟩
      · simp at ho; subst ho
        have l10 := hp 10 (of_decide_eq_true (by kernel_rfl))
        obtain ⟨z, qz, sz⟩ := i10 l10
        rw [hLi] at sz
        have l8 := hp 8 (of_decide_eq_true (by kernel_rfl))
        have q8 := i8 l8
        simp [qz, sz, e2, e5, e7, e8, e9, e10, e11, e12, e13, e14, q8, netC, rowK, hIx, hokp, a1, a2, c1, c2, f5, sendV, neV]
        exact ⟨by simp [e2], by simp [e5], by simp [e7], by simp [e8], by simp [e9], by simp [e10], by simp [e11], by simp [e12], by simp [e13], by simp [e14], by simpa [upd] using i0, by simpa [upd] using i1, by simpa [upd] using i2, by simpa [upd] using i3, by simpa [upd] using i4, by simpa [upd] using i5, by simpa [upd] using i6, by simpa [upd] using i7, by simpa [upd] using i8, by simpa [upd] using i9, fun _ => ⟨z, by simp [qz], by simp [upd, netC]⟩, fun _ => by simpa [upd] using l10⟩
    · clear e2 e5 e7 e8 e9 e10 e11 e12 e13 e14
      rintro L fr σ hall ⟨e2, e5, e7, e8, e9, e10, e11, e12, e13, e14, i0, i1, i2, i3, i4, i5, i6, i7, i8, i9, i10, i11⟩
      have q0 := i0 (hall 0 (by omega))
      have q1 := i1 (hall 1 (by omega))
      have q2 := i2 (hall 2 (by omega))
      have q3 := i3 (hall 3 (by omega))
      have q4 := i4 (hall 4 (by omega))
      have q5 := i5 (hall 5 (by omega))
      have q6 := i6 (hall 6 (by omega))
      have q7 := i7 (hall 7 (by omega))
      have q8 := i8 (hall 8 (by omega))
      have q9 := i9 (hall 9 (by omega))
      have q10 := i10 (hall 10 (by omega))
      have q11 := i11 (hall 11 (by omega))
      obtain ⟨z, qz, sz⟩ := q10
      rw [hall 11 (by omega), if_pos rfl] at sz
      refine pops_pst TP_ok (show pT P0 TP false 113 _ _ [_] fr σ {} from ?_)
      simp [netC, qz, sz, e2, e5, e7, e8, e9, e10, e11, e12, e13, e14, q9, s1, s3, wl, f6', a1, a2, b1, b2, c1, c2]
end Go.Proofs.Ytgcoikbgpkfcnaa
