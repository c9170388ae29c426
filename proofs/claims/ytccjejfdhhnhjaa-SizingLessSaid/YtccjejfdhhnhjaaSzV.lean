/-
  Sizing: the contract of the law SizingLess.
-/
import Derived.Test.YtccjejfdhhnhjaaSzU
import Derived.Test.YtccjejfdhhnhjaaSzO
import Derived.Test.YtccjejfdhhnhjaaLoW
set_option linter.unusedSimpArgs false
set_option linter.unusedVariables false
namespace Go.Proofs.Ytccjejfdhhnhjaa
open Go.Lo

theorem pwp_gen {P : Program} {rd : Bool} {n : Nat} {c : Code} {Q : PX → Fr → Heap → Prop} {fr : Fr} {σ : Heap} {I : Fr → Heap → Prop} (h : I fr σ) (k : ∀ fr σ, I fr σ → pwp P rd n c Q fr σ) : pwp P rd n c Q fr σ := k _ _ h

theorem setR_num (l : List Int) (k : Nat) (z : Int) (hk : k < l.length) : setR (l.map num) k [num z] = (l.set k z).map num := by
  unfold setR
  rw [List.set_eq_take_append_cons_drop, if_pos hk]
  simp
theorem chunk_num {σf : Heap} (M : List Int) : PV.slice false (chunks 1 M.length (M.map (frzN 0 σf ∘ num))) = encI false M := by
  have e : M.map (frzN 0 σf ∘ num) = (rowI M).flatten := by rw [rowI_flat]; exact List.map_congr_left fun x _ => rfl
  have l : M.length = (rowI M).length := by simp [rowI]
  rw [e, l, Go.Lo.chunks_flatten (rowI M) (rowI_one M)]
  rfl

theorem chunk_num' {σf : Heap} (full : Bool) (M : List Int) : PV.slice full (chunks 1 M.length (M.map (frzN 0 σf ∘ num))) = encI full M := by
  have := chunk_num (σf := σf) M
  have e : chunks 1 M.length (M.map (frzN 0 σf ∘ num)) = M.map fun x => [num x] := by injection this
  rw [e]; rfl
theorem two {P : Program} {n : Nat} {I : Fr → Heap → Prop} {G : Prop} {c : Code} {Q : PX → Fr → Heap → Prop} (main : (∀ fr σ, I fr σ → pwp P false n c Q fr σ) → G) (key : ∀ fr σ, I fr σ → pwp P false n c Q fr σ) : G := main key

set_option maxRecDepth 8000 in
theorem less_law (need : List Int) (s h lo x y : Int) (hn : need.length ≤ maxLen) (hx : 0 ≤ x ∧ x < 256) (hy : 0 ≤ y ∧ y < 256) : PFun P0 8 [encI false need, num s, num h, num lo, .lit (.int .u8 x), .lit (.int .u8 y)] (bo true) := by
  refine pcalls_body Try.func8 rfl rfl rfl (by show 6 ≤ _; decide) (pwp_goK TU_ok [13, 17, 20] ?_)
  by_cases hnl : (need.length : Int) ≤ 16
  · by_cases hv : validS need s h = true
    · have H := ok_of hv
      have hf := H.few
      obtain ⟨w, hw, hw0⟩ : ∃ w, max 0 (min lo 1048576) = w ∧ 0 ≤ w := ⟨_, rfl, by omega⟩
      have hsv : validS need (min s w) h = true := valid_less hv (by have := H.paid.s; omega) (by have := H.paid.h; omega)
      have hhv : validS need s (min h w) = true := valid_less hv (by have := H.paid.s; omega) (by have := H.paid.h; omega)
      have m1 : ¬ price (nf need) s h need.length < price (nf need) (min s w) h need.length := Int.not_lt.2 (price_mono H.nonneg (fun _ => Int.le_refl _) (by have := H.paid.s; omega) (by omega) H.paid.h.1 (Int.le_refl _) _)
      have m2 : ¬ price (nf need) s h need.length < price (nf need) s (min h w) need.length := Int.not_lt.2 (price_mono H.nonneg (fun _ => Int.le_refl _) H.paid.s.1 (Int.le_refl _) (by have := H.paid.h; omega) (by omega) _)
      simp (config := { contextual := true }) [hn, hnl, hv, sizeR_ok hv, hw, sizeR_ok hsv, sizeR_ok hhv, m1, m2]
      intro id13 id15 a1 id17 a2 a3
      obtain ⟨A, hA⟩ : ∃ A : PV, A = .ref [encI true (lotsL need (bestS need s h)), num (price (nf need) s h need.length), encI false (pricesL need s h)] := ⟨_, rfl⟩
      refine pwpT_go (pwp_frz 2 (Heap.empty.set id13 (.cells [encI true (lotsL need (bestS need s h)), num (price (nf need) s h need.length), encI false (pricesL need s h)])) (Frz.set Frz.none (by simp [a1, a2, a3])) ?_)
      refine pwp_gen (I := fun fr σ => fr 0 = encI false need ∧ fr 1 = num s ∧ fr 2 = num h ∧ fr 3 = num w ∧ fr 4 = .lit (.int .u8 x) ∧ fr 5 = .lit (.int .u8 y) ∧ fr 13 = A) (by simp [hA]) ?_
      clear a1 a2 a3
      rintro fr σ ⟨e0, e1, e2, e3, e4, e5, e13⟩
      apply two (P := P0) (n := 195) (I := fun fr σ => fr 0 = encI false need ∧ fr 1 = num s ∧ fr 2 = num h ∧ fr 5 = .lit (.int .u8 y) ∧ fr 13 = A)
      case main =>
       intro key
       refine pwp_go TU_ok ?_
       by_cases hne : need.length = 0
       · simp [e0, e1, e2, e3, e4, e5, e13, hne]
         refine pwpT_go (key _ _ ?_)
         simp [e0, e1, e2, e3, e4, e5, e13]
       · have hp : 0 < need.length := by omega
         simp [e0, e1, e2, e3, e4, e5, e13, hp]
         have hrow : ∀ r ∈ rowI need, r.length = 1 ∧ ∀ c ∈ r, isCell1 c = true := fun r hr => by
           obtain ⟨v, _, rfl⟩ := List.mem_map.1 hr; exact ⟨rfl, fun c hc => by simp at hc; subst hc; rfl⟩
         refine own_append (k := 1) (b := 8) (rows := []) (new := rowI need) (zs := [num 0]) (Own.full 1 _ (by simp)) elem22 (by decide) rfl (by decide) isl22 (yv_row fun r hr => (hrow r hr).1) hrow (by simp [rowI]; unfold maxLen at hn; omega) ?_
         intro V σ2 _ _ hm
         obtain ⟨id, rfl, hid⟩ := hm (by intro e; have := congrArg List.length e; simp [rowI] at this; simp [this] at hne)
         rw [List.nil_append, rowI_flat] at hid
         have hrl : ([] ++ rowI need).length = need.length := by simp [rowI]
         rw [hrl]
         obtain ⟨k, hk, hkn⟩ : ∃ k : Nat, x.tmod (need.length : Int) = (k : Int) ∧ k < need.length := by
           have q1 := Int.emod_nonneg x (show (need.length : Int) ≠ 0 by omega)
           have q2 := Int.emod_lt_of_pos x (show (0 : Int) < (need.length : Int) by omega)
           rw [Int.tmod_eq_emod_of_nonneg hx.1]
           exact ⟨(x % (need.length : Int)).toNat, by omega, by omega⟩
         have wx : IntKind.i64.wrap x = x := wrap_i64 (by omega) (by omega)
         have hneI : ¬ ((need.length : Int) = 0) := by omega
         simp [e0, e1, e2, e3, e4, e5, e13, hid, hk, hkn, wx, hne, hneI]
         obtain ⟨z, hz⟩ : ∃ z, min need[k] w = z := ⟨_, rfl⟩
         obtain ⟨M, hM⟩ : ∃ M, need.set k z = M := ⟨_, rfl⟩
         refine ⟨hkn, pwpT_go (pwp_frz 1 (Heap.empty.set id (.cells (M.map num))) (Frz.set Frz.none ?_) ?_)⟩
         · simp [← hM, hz, setR_num, hkn]
         have hMv : validS M s h = true := by
           rw [← hM]; refine valid_set hv ?_
           have := H.need k; rw [nf_get hkn] at this; omega
         have hMp : ¬ price (nf need) s h need.length < price (nf M) s h need.length := Int.not_lt.2 (price_mono (ok_of hMv).nonneg (fun d => by
           rw [← hM, nf_set hkn]; split
           · rename_i e; subst e; rw [nf_get hkn]; omega
           · exact Int.le_refl _) H.paid.s.1 (Int.le_refl _) H.paid.h.1 (Int.le_refl _) _)
         have hMl : M.length = need.length := by rw [← hM]; simp
         have hch := chunk_num (σf := Heap.empty.set id (.cells (M.map num))) M
         rw [hMl] at hch
         refine pwp_gen (I := fun fr σ => fr 0 = encI false need ∧ fr 1 = num s ∧ fr 2 = num h ∧ fr 3 = num w ∧ fr 4 = .lit (.int .u8 x) ∧ fr 5 = .lit (.int .u8 y) ∧ fr 13 = A ∧ fr 19 = encI false M) ?_ ?_
         · simp [e0, e1, e2, e3, e4, e5, e13, hA, hch, hMl]
         clear hid
         rintro fr σ ⟨e0, e1, e2, e3, e4, e5, e13, e19⟩
         refine pwp_go TU_ok ?_
         simp [-NEW_def, e0, e1, e2, e3, e4, e5, e13, e19, hA, hMl, hn, sizeR_ok hMv]
         refine fun id hid => ?_
         simp [e0, e1, e2, e3, e4, e5, e13, e19, hA, hid, hMp]
         refine pwpT_go (key _ _ ?_)
         simp [e0, e1, e2, e3, e4, e5, e13, hA]
      case key =>
        rintro fr σ ⟨e0, e1, e2, e5, e13⟩
        refine pwp_go TU_ok ?_
        simp [e0, e1, e2, e5, e13]
        have hrow : ∀ r ∈ rowI need, r.length = 1 ∧ ∀ c ∈ r, isCell1 c = true := fun r hr => by
          obtain ⟨v, _, rfl⟩ := List.mem_map.1 hr; exact ⟨rfl, fun c hc => by simp at hc; subst hc; rfl⟩
        refine own_append (k := 1) (b := 8) (rows := []) (new := rowI need) (zs := [num 0]) (Own.full 1 _ (by simp)) elem22 (by decide) rfl (by decide) isl22 (yv_row fun r hr => (hrow r hr).1) hrow (by simp [rowI]; unfold maxLen at hn; omega) ?_
        intro V σ2 hV _ _
        rw [List.nil_append] at hV
        obtain ⟨v1, v2⟩ := hV.sv
        obtain ⟨j, hj⟩ : ∃ j : Nat, min (y.tmod 4) (16 - (need.length : Int)) = (j : Int) := by
          have q1 := Int.emod_nonneg y (show (4 : Int) ≠ 0 by omega)
          rw [Int.tmod_eq_emod_of_nonneg hy.1]
          exact ⟨(min (y % 4) (16 - (need.length : Int))).toNat, by omega⟩
        have wy : IntKind.i64.wrap y = y := wrap_i64 (by omega) (by omega)
        have wl : IntKind.i64.wrap (16 - (need.length : Int)) = 16 - (need.length : Int) := wrap_i64 (by omega) (by omega)
        have hjn : need.length + j ≤ 16 := by omega
        simp [e0, e1, e2, e5, e13, v1, v2, wy, wl, hj, hn]
        refine pwp_loop (fun N fr σ => ∃ (t : Nat) (V : PV), N = j - t ∧ t ≤ j ∧ fr 0 = encI false need ∧ fr 1 = num s ∧ fr 2 = num h ∧ fr 13 = A ∧ fr 23 = V ∧ Own 1 σ V (rowI (need ++ List.replicate t 0)) ∧ fr 127 = num j ∧ fr 128 = num t) (N := j) ?_ ?_
        · refine ⟨0, V, ?_⟩
          simp [e0, e1, e2, e5, e13]
          exact hV
        clear hV v1 v2 e0 e1 e2 e5 e13
        rintro N fr σ ⟨t, V, rfl, ht, e0, e1, e2, e13, e23, hV, e127, e128⟩
        have hll : (need ++ List.replicate t (0 : Int)).length = need.length + t := by simp
        by_cases htj : t < j
        · obtain ⟨v1, v2⟩ := hV.sv
          have wt := wrap_succ (k := t) (by omega)
          refine pwp_go TU_ok ?_
          simp [e0, e1, e2, e13, e23, e127, e128, v1, v2, htj]
          refine own_append (k := 1) (b := 8) (rows := rowI (need ++ List.replicate t 0)) (new := [[num 0]]) (zs := [num 0]) hV elem22 (by decide) rfl (by decide) isl22 ⟨fun r hr => by simp at hr; subst hr; rfl, rfl, rfl⟩ (by simp [isCell1]) (by simp [rowI]; omega) ?_
          intro V' σ2 hV' _ _
          obtain ⟨v1', v2'⟩ := hV'.sv
          simp [e0, e1, e2, e13, e23, e127, e128, v1', v2', wt]
          refine ⟨j - (t + 1), by omega, t + 1, rfl, by omega, ?_, by omega⟩
          have e : rowI (need ++ List.replicate t 0) ++ [[num 0]] = rowI (need ++ List.replicate (t + 1) 0) := by
            rw [List.replicate_succ', ← List.append_assoc]; simp [rowI]
          rw [e] at hV'
          exact hV'
        · have htj' : t = j := by omega
          subst htj'
          obtain ⟨L, hL⟩ : ∃ L, need ++ List.replicate t (0 : Int) = L := ⟨_, rfl⟩
          rw [hL] at hV hll
          have hLv : validS L s h = true := by rw [← hL]; exact valid_zeros hv hjn
          obtain ⟨z1, z2⟩ := zeros_size need s h t
          rw [hL] at z1 z2
          have hLm : L.length ≤ maxLen := by unfold maxLen; omega
          apply two (P := P0) (n := 195) (I := fun fr σ => fr 0 = encI false need ∧ fr 1 = num s ∧ fr 2 = num h ∧ fr 13 = A ∧ (∃ V, fr 23 = V ∧ isI V ∧ decI V = L ∧ (∀ σ, Lenx .slice σ V = ⟨True, num L.length⟩) ∧ sv V = V ∧ avt V = True) ∧ fr 127 = num t ∧ fr 128 = num t)
          case main =>
            intro key
            obtain ⟨_, ⟨rfl, hz⟩ | ⟨id, full, rfl, hid⟩ | rfl⟩ := hV
            · refine key _ _ ⟨e0, e1, e2, e13, ⟨_, e23, ?_⟩, e127, e128⟩
              have : L = [] := by simpa [rowI] using hz
              subst this
              simp
            · have hrl : (rowI L).length = L.length := by simp [rowI]
              rw [hrl] at e23
              rw [rowI_flat] at hid
              have hch := chunk_num' (σf := Heap.empty.set id (.cells (L.map num))) full L
              refine pwp_frz 1 (Heap.empty.set id (.cells (L.map num))) (Frz.set Frz.none hid) (key _ _ ?_)
              simp [e0, e1, e2, e13, e23, e127, e128, hA, hch, hLm]
            · have ee : PV.slice true (rowI L) = encI true L := rfl
              rw [ee] at e23
              refine key _ _ ⟨e0, e1, e2, e13, ⟨_, e23, ?_⟩, e127, e128⟩
              simp [hLm]
          case key =>
            rintro fr σ ⟨e0, e1, e2, e13, ⟨V, e23, hI, hD, hLen, v1, v2⟩, e127, e128⟩
            refine pwp_go TU_ok ?_
            simp [-NEW_def, e0, e1, e2, e13, e23, e127, e128, hI, hD, hLen, v1, v2, sizeR_ok hLv, hLm]
            refine fun id hid => ?_
            simp [e0, e1, e2, e13, e23, e127, e128, hI, hD, hLen, v1, v2, hA, hid, z1, lotsL_length]
            obtain ⟨G, hG⟩ : ∃ G, lotsL L (bestS L s h) = G := ⟨_, rfl⟩
            obtain ⟨S, hS⟩ : ∃ S, lotsL need (bestS need s h) = S := ⟨_, rfl⟩
            have hGl : G.length = L.length := by rw [← hG, lotsL_length]
            have hSl : S.length = need.length := by rw [← hS, lotsL_length]
            rw [hG, hS] at z2
            rw [hG]
            obtain ⟨D, hD2⟩ : ∃ D : PV, D = .ref [encI true G, num (price (nf need) s h need.length), encI false (pricesL L s h)] := ⟨_, rfl⟩
            refine pwpT_go (pwp_frz 2 (Heap.empty.set id (.cells [encI true G, num (price (nf need) s h need.length), encI false (pricesL L s h)])) (Frz.set Frz.none (by simp)) ?_)
            refine pwp_loop (fun N fr σ => ∃ k : Nat, N = L.length - k ∧ k ≤ L.length ∧ fr 0 = encI false need ∧ fr 13 = A ∧ fr 24 = D ∧ fr 159 = num L.length ∧ fr 160 = num k) (N := L.length) ?_ ?_
            · refine ⟨0, ?_⟩
              simp [e0, e1, e2, e13, hA, hD2, hLen]
            clear e0 e1 e2 e13 e23 e127 e128 hid
            rintro N fr σ ⟨k, rfl, hk, e0, e13, e24, e159, e160⟩
            refine pwp_go TU_ok ?_
            by_cases hkL : k < L.length
            · have wk := wrap_succ (k := k) (by omega)
              simp [e0, e13, e24, e159, e160, hkL]
              refine pwp_drawT TU_ok 30 mixed (by kernel_rfl) ?_
              have hkG : k < G.length := by omega
              have zk := z2 k
              rw [nf_get hkG] at zk
              by_cases hkn : k < need.length
              · have hkS : k < S.length := by omega
                have hkI : ¬ ((need.length : Int) ≤ k) := by omega
                have hkI' : ¬ (need.length ≤ k) := by omega
                rw [nf_get hkS] at zk
                simp [e0, e13, e24, e159, e160, hA, hD2, hS, hn, hkL, hkn, hkG, hkS, hkI, hkI', IAx_encI, zk, wk]
                exact ⟨L.length - (k + 1), by omega, k + 1, rfl, by omega, by omega⟩
              · have z0 : nf S k = 0 := by unfold nf; rw [List.getD_eq_getElem?_getD, List.getElem?_eq_none (by omega)]; rfl
                rw [z0] at zk
                have hkI : (need.length : Int) ≤ k := by omega
                have hkI' : need.length ≤ k := by omega
                simp [e0, e13, e24, e159, e160, hA, hD2, hn, hkL, hkn, hkG, hkI, hkI', IAx_encI, zk, wk]
                exact ⟨L.length - (k + 1), by omega, k + 1, rfl, by omega, by omega⟩
            · simp [e0, e13, e24, e159, e160, hkL]
    · simp (config := { contextual := true }) [hn, hnl, hv, sizeR_no hv]
  · simp (config := { contextual := true }) [hn, hnl]
end Go.Proofs.Ytccjejfdhhnhjaa
