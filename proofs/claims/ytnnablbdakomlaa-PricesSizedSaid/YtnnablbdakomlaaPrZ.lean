/-
  Prices: the contract of the law PricesSized.
-/
import Derived.Test.YtnnablbdakomlaaPrY
import Derived.Test.YtnnablbdakomlaaLoX
set_option linter.unusedSimpArgs false
set_option linter.unusedVariables false
namespace Go.Proofs.Ytnnablbdakomlaa
open Go.Lo

@[simp] theorem conv342 (k : IntKind) (n : Int) : evConv P0 3 42 (.lit (.int k n)) = ⟨True, .lit (.int .u64 (IntKind.u64.wrap n))⟩ := evConv_int 3 42 k .u64 n (by kernel_rfl) (by kernel_rfl)
@[simp] theorem conv423 (k : IntKind) (n : Int) : evConv P0 42 3 (.lit (.int k n)) = ⟨True, .lit (.int .i64 (IntKind.i64.wrap n))⟩ := evConv_int 42 3 k .i64 n (by kernel_rfl) (by kernel_rfl)
theorem wrap_ne {c b : Int} (hc : -9223372036854775808 ≤ c ∧ c < 9223372036854775808) (hb : -9223372036854775808 ≤ b ∧ b < 9223372036854775808) (h : b ≠ 0) : IntKind.i64.wrap (c + b) ≠ c := by
  rw [IntKind.wrap_i64]; omega

theorem best_lots {a : List Int} {s h : Int} (hv : validS a s h = true) : costB a (lotsL a (bestS a s h)) s h (price (nf a) s h a.length) = true := by
  have H := ok_of hv
  obtain ⟨q1, q2, q3⟩ := pos_small H (best_posB H)
  have h3 : C_ a (lotsL a (bestS a s h)) s h (lotsL a (bestS a s h)).length = price (nf a) s h a.length := by
    rw [lotsL_length, q3]
    exact best_cost (need := nf a) H.nonneg H.paid.s.1 H.paid.h.1 a.length
  unfold costB
  rw [hv, fits_of q1, q2, h3]; simp
theorem last_prices {a : List Int} {s h : Int} (hv : validS a s h = true) : lastB a (pricesL a s h) s h (price (nf a) s h a.length) = true := by
  unfold lastB
  rw [bound_prices, fS_prices (Nat.le_refl _)]; simp
theorem size_checks {a : List Int} {s h : Int} (hv : validS a s h = true) : checkB a s h (lotsL a (bestS a s h)) (price (nf a) s h a.length) (pricesL a s h) = true := by
  unfold checkB
  rw [priced_prices (ok_of hv), best_lots hv, last_prices hv]; rfl
theorem check_cost {a : List Int} {s h : Int} {L : List Int} {c : Int} {p : List Int} (hc : c ≠ price (nf a) s h a.length) : checkB a s h L c p = false := by
  cases e : checkB a s h L c p with
  | false => rfl
  | true => exact absurd (check_price e) hc
theorem check_last {a : List Int} {s h : Int} {L : List Int} {c z : Int} {p : List Int} (h0 : 0 < a.length) (hl : p.length = a.length) (hz : z ≠ c) : checkB a s h L c (p.set (a.length - 1) z) = false := by
  have e : fS (p.set (a.length - 1) z) a.length = z := by
    obtain ⟨k, hk⟩ : ∃ k, a.length = k + 1 := ⟨a.length - 1, by omega⟩
    rw [hk, fS_succ, nf_get (by simp; omega)]; simp
  unfold checkB lastB
  rw [e, decide_eq_false hz]; simp
theorem sum_change {f g : Nat → Int} {k : Nat} : ∀ n, k < n → (∀ i, i < n → i ≠ k → f i = g i) → sumTo f n = sumTo g n + (f k - g k) := by
  intro n
  induction n with
  | zero => intro h; omega
  | succ n ih =>
    intro hk he
    simp only [sumTo]
    rcases Nat.lt_or_ge k n with h1 | h1
    · rw [ih h1 fun i hi hne => he i (by omega) hne, he n (by omega) (by omega)]; omega
    · have e : k = n := by omega
      subst e
      rw [sumTo_congr (f := f) (g := g) fun i hi => he i (by omega) (by omega)]; omega
theorem check_less {a : List Int} {s h : Int} {k : Nat} {c : Int} {p : List Int} (hv : validS a s h = true) (hk : k < a.length) (hz : nf (lotsL a (bestS a s h)) k ≠ 0) : checkB a s h ((lotsL a (bestS a s h)).set k 0) c p = false := by
  have H := ok_of hv
  have hpos := best_pos (need := nf a) (setup := s) (hold := h) H.nonneg a.length
  have hsum := (hpos.held H.nonneg a.length).2
  have hlots := H.lots (bestS a s h) k a.length
  obtain ⟨L, hL⟩ : ∃ L, lotsL a (bestS a s h) = L := ⟨_, rfl⟩
  have hLl : L.length = a.length := by rw [← hL, lotsL_length]
  have hnf : ∀ d, nf L d = lotsTo (nf a) (bestS a s h) a.length d := fun d => by rw [← hL, nf_lotsL]
  rw [hL] at hz ⊢
  have hset : ∀ d, nf (L.set k 0) d = if d = k then 0 else nf L d := fun d => by
    unfold nf
    rw [List.getD_eq_getElem?_getD, List.getD_eq_getElem?_getD, List.getElem?_set]
    by_cases e : k = d
    · subst e; rw [if_pos rfl, if_pos rfl]; simp [show k < L.length by omega]
    · rw [if_neg e, if_neg (Ne.symm e)]
  have hc : coversS a (L.set k 0) = false := by
    cases e : coversS a (L.set k 0) with
    | false => rfl
    | true =>
      exfalso
      have := (coversS_iff a (L.set k 0)).1 e (a.length - 1) (by simp; omega)
      unfold heldF at this
      rw [show a.length - 1 + 1 = a.length by omega] at this
      have h2 := sum_change (f := fun i => nf (L.set k 0) i - nf a i) (g := fun i => lotsTo (nf a) (bestS a s h) a.length i - nf a i) (k := k) a.length hk (fun i _ hne => by simp only [hset, if_neg hne, hnf])
      have h3 : sumTo (fun i => lotsTo (nf a) (bestS a s h) a.length i - nf a i) a.length = 0 := hsum
      rw [h2, h3, hset, if_pos rfl, ← hnf] at this
      rw [← hnf] at hlots
      omega
  unfold checkB costB
  rw [hc]; simp

def SC (L : List Int) (c : Int) (P : List Int) : List PV := [encI true L, num c, encI false P]
def SZ : List PV := [.lit (.slice none 0 0), num 0, .lit (.slice none 0 0)]
/-- While the three copies are made, in any order. -/
def I13 (S : List PV) (K : Fr → Prop) (L : Nat → Bool) (fr : Fr) (σ : Heap) : Prop :=
  K fr ∧ fr 11 = .ref S ∧ (L 0 = true → fr 76 = .agg S) ∧ (L 1 = true → fr 77 = .agg S) ∧ (L 2 = true → fr 78 = .agg S) ∧
  (L 6 = true → L 3 = true) ∧ (L 7 = true → L 4 = true) ∧
  ∃ x y z : Nat, (L 3 = true → fr 15 = .ptr x 0 ∧ σ x = some (.cells (if L 6 then S else SZ))) ∧ (L 4 = true → fr 16 = .ptr y 0 ∧ σ y = some (.cells (if L 7 then S else SZ))) ∧ (L 5 = true → fr 17 = .ptr z 0 ∧ σ z = some (.cells SZ)) ∧
    (L 3 = true → L 4 = true → Apart x y) ∧ (L 3 = true → L 5 = true → Apart x z) ∧ (L 4 = true → L 5 = true → Apart y z)

theorem apart_num {σ : Heap} {id x : Nat} {l : List Int} {cs : List PV} {c : PV} (h : σ id = some (.cells (rowI l).flatten)) (hx : σ x = some (.cells cs)) (hc : c ∈ cs) (hn : ∀ z, c ≠ num z) : Apart id x := fun e => by
  subst e; rw [hx] at h; cases h; exact neNum hc hn rfl
theorem rowI_new (l : List Int) : ∀ r ∈ rowI l, r.length = 1 ∧ ∀ c ∈ r, isCell1 c = true := fun r hr => by
  obtain ⟨v, _, rfl⟩ := List.mem_map.1 hr; exact ⟨rfl, fun c hc => by simp at hc; subst hc; rfl⟩
theorem rowI_ne {l : List Int} (h : 0 < l.length) : rowI l ≠ [] := fun e => by
  have := congrArg List.length e; simp [rowI] at this; simp [this] at h
theorem keeps_full {σ σ' : Heap} {rows : List (List PV)} (h : Keeps (.slice true rows) σ σ') {j : Nat} {x : PObj} (hj : σ j = some x) : σ' j = some x := by
  rw [h j (by rw [hj]; simp) (fun _ _ _ _ e => by cases e), hj]
theorem encI_num (b : Bool) (l : List Int) : ∀ z, encI b l ≠ num z := fun z e => by cases e

set_option maxRecDepth 8000 in
theorem sized_law (a : List Int) (s h b t : Int) (ha : a.length ≤ maxLen) (hb : (Lit.int .i64 b).wf = true) (ht : 0 ≤ t ∧ t < 18446744073709551616) : PFun P0 8 [encI false a, num s, num h, num b, .lit (.int .u64 t)] (bo true) := by
  refine pcalls_body Try.func8 rfl rfl rfl (by show 5 ≤ _; decide) (pwp_goK TU_ok [20] ?_)
  by_cases h1 : fewS a = true
  · by_cases hv : validS a s h = true
    · have H := ok_of hv
      have hf := H.few
      have hck : checkR a s h (lotsL a (bestS a s h)) (price (nf a) s h a.length) (pricesL a s h) = .tup [bo true, num 0] := by
        unfold checkR; rw [if_pos hv, size_checks hv]
      have hLl : (lotsL a (bestS a s h)).length = a.length := lotsL_length _ _
      have hPl : (pricesL a s h).length = a.length := pricesL_length _ _ _
      have hls := fun k hk hz c p => check_less (a := a) (s := s) (h := h) (k := k) (c := c) (p := p) hv hk hz
      obtain ⟨L, hL⟩ : ∃ L, lotsL a (bestS a s h) = L := ⟨_, rfl⟩
      obtain ⟨P, hP⟩ : ∃ P, pricesL a s h = P := ⟨_, rfl⟩
      have hcp := fun c => check_cost (a := a) (s := s) (h := h) (L := L) (c := c) (p := P)
      have hcl := fun z c (h0 : 0 < a.length) => check_last (a := a) (s := s) (h := h) (L := L) (c := c) (z := z) (p := P) h0 (by rw [← hP, pricesL_length])
      have hpr := H.price a.length hf
      have hlastP : ∀ k, k + 1 = a.length → nf P k = price (nf a) s h a.length := fun k hk => by
        rw [← hP, nf_get (by rw [pricesL_length]; omega), pricesL_get, hk]
      rw [hL, hP] at hck
      rw [hL] at hLl hls
      rw [hP] at hPl
      obtain ⟨c, hc⟩ : ∃ c, price (nf a) s h a.length = c := ⟨_, rfl⟩
      have hsz : sizeR a s h = .tup [.agg [encI true L, num c, encI false P], num 0] := by rw [sizeR_ok hv, hL, hP, hc]
      rw [hc] at hck hpr
      simp only [hc] at hcp hlastP
      clear hc
      by_cases hb0 : b = 0
      · simp (config := { contextual := true }) [ha, h1, hsz, hLl, hPl, hck, hb0]
      · by_cases ha0 : a.length = 0
        · simp (config := { contextual := true }) [ha, h1, hsz, hLl, hPl, hck, hb0, ha0]
        · simp [-NEW_def, ha, h1, hsz]
          refine fun id hid => ?_
          simp [ha, hLl, hPl, hck, hb0, ha0]
          refine pwpT_go (pwp_frz 2 (Heap.empty.set id (.cells [encI true L, num c, encI false P])) (Frz.set Frz.none (by simp)) ?_)
          refine pwp_gen (I := fun fr σ => fr 0 = encI false a ∧ fr 1 = num s ∧ fr 2 = num h ∧ fr 3 = num b ∧ fr 4 = .lit (.int .u64 t) ∧ fr 11 = .ref [encI true L, num c, encI false P]) (by simp) ?_
          rintro fr σ ⟨e0, e1, e2, e3, e4, e11⟩
          refine pwp_drawI (k := 8) (I := I13 [encI true L, num c, encI false P] fun fr => fr 0 = encI false a ∧ fr 1 = num s ∧ fr 2 = num h ∧ fr 3 = num b ∧ fr 4 = .lit (.int .u64 t)) mixed (by kernel_rfl) (by kernel_rfl) (by decide) ?_ ?_ ?_
          · exact ⟨⟨e0, e1, e2, e3, e4⟩, e11, nofun, nofun, nofun, nofun, nofun, 0, 0, 0, nofun, nofun, nofun, nofun, nofun, nofun⟩
          · clear e0 e1 e2 e3 e4 e11
            rintro Ld fr σ i o hi ho hLi hp ⟨⟨e0, e1, e2, e3, e4⟩, e11, i0, i1, i2, j6, j7, x, y, z, i3, i4, i5, d34, d35, d45⟩
            refine pops_pst TU_ok (show pT P0 TU false 154 _ _ [o] fr σ {} from ?_)
            rcases (show i = 0 ∨ i = 1 ∨ i = 2 ∨ i = 3 ∨ i = 4 ∨ i = 5 ∨ i = 6 ∨ i = 7 by omega) with rfl | rfl | rfl | rfl | rfl | rfl | rfl | rfl
            · simp at ho; subst ho
              simp [e0, e1, e2, e3, e4, e11]
              exact ⟨⟨by simp [e0], by simp [e1], by simp [e2], by simp [e3], by simp [e4]⟩, by simp [e11], fun _ => by simp, by simpa [upd] using i1, by simpa [upd] using i2, by simpa [upd] using j6, by simpa [upd] using j7, x, y, z, by simpa [upd] using i3, by simpa [upd] using i4, by simpa [upd] using i5, by simpa [upd] using d34, by simpa [upd] using d35, by simpa [upd] using d45⟩
            · simp at ho; subst ho
              simp [e0, e1, e2, e3, e4, e11]
              exact ⟨⟨by simp [e0], by simp [e1], by simp [e2], by simp [e3], by simp [e4]⟩, by simp [e11], by simpa [upd] using i0, fun _ => by simp, by simpa [upd] using i2, by simpa [upd] using j6, by simpa [upd] using j7, x, y, z, by simpa [upd] using i3, by simpa [upd] using i4, by simpa [upd] using i5, by simpa [upd] using d34, by simpa [upd] using d35, by simpa [upd] using d45⟩
            · simp at ho; subst ho
              simp [e0, e1, e2, e3, e4, e11]
              exact ⟨⟨by simp [e0], by simp [e1], by simp [e2], by simp [e3], by simp [e4]⟩, by simp [e11], by simpa [upd] using i0, by simpa [upd] using i1, fun _ => by simp, by simpa [upd] using j6, by simpa [upd] using j7, x, y, z, by simpa [upd] using i3, by simpa [upd] using i4, by simpa [upd] using i5, by simpa [upd] using d34, by simpa [upd] using d35, by simpa [upd] using d45⟩
            · simp at ho; subst ho
              have h6 : Ld 6 = false := by
                cases q : Ld 6 with
                | false => rfl
                | true => rw [j6 q] at hLi; cases hLi
              simp [-NEW_def, e0, e1, e2, e3, e4, e11]
              refine fun idn hn => ?_
              simp
              exact ⟨⟨by simp [e0], by simp [e1], by simp [e2], by simp [e3], by simp [e4]⟩, by simp [e11], by simpa [upd] using i0, by simpa [upd] using i1, by simpa [upd] using i2, fun _ => by simp [upd], by simpa [upd] using j7, idn, y, z, fun _ => ⟨by simp, by simp [upd, h6, SZ]⟩, fun q => by obtain ⟨r1, r2⟩ := i4 (by simpa [upd] using q); have ap := frs.ne hn r2; simpa [upd, ap, r1] using r2, fun q => by obtain ⟨r1, r2⟩ := i5 (by simpa [upd] using q); have ap := frs.ne hn r2; simpa [upd, ap, r1] using r2, fun _ q => by obtain ⟨r1, r2⟩ := i4 (by simpa [upd] using q); exact frs.ne hn r2, fun _ q => by obtain ⟨r1, r2⟩ := i5 (by simpa [upd] using q); exact frs.ne hn r2, by simpa [upd] using d45⟩
            · simp at ho; subst ho
              have h7 : Ld 7 = false := by
                cases q : Ld 7 with
                | false => rfl
                | true => rw [j7 q] at hLi; cases hLi
              simp [-NEW_def, e0, e1, e2, e3, e4, e11]
              refine fun idn hn => ?_
              simp
              exact ⟨⟨by simp [e0], by simp [e1], by simp [e2], by simp [e3], by simp [e4]⟩, by simp [e11], by simpa [upd] using i0, by simpa [upd] using i1, by simpa [upd] using i2, by simpa [upd] using j6, fun _ => by simp [upd], x, idn, z, fun q => by obtain ⟨r1, r2⟩ := i3 (by simpa [upd] using q); have ap := frs.ne hn r2; simpa [upd, ap, r1] using r2, fun _ => ⟨by simp, by simp [upd, h7, SZ]⟩, fun q => by obtain ⟨r1, r2⟩ := i5 (by simpa [upd] using q); have ap := frs.ne hn r2; simpa [upd, ap, r1] using r2, fun q _ => by obtain ⟨r1, r2⟩ := i3 (by simpa [upd] using q); exact (frs.ne hn r2).symm, by simpa [upd] using d35, fun _ q => by obtain ⟨r1, r2⟩ := i5 (by simpa [upd] using q); exact frs.ne hn r2⟩
            · simp at ho; subst ho
              simp [-NEW_def, e0, e1, e2, e3, e4, e11]
              refine fun idn hn => ?_
              simp
              exact ⟨⟨by simp [e0], by simp [e1], by simp [e2], by simp [e3], by simp [e4]⟩, by simp [e11], by simpa [upd] using i0, by simpa [upd] using i1, by simpa [upd] using i2, by simpa [upd] using j6, by simpa [upd] using j7, x, y, idn, fun q => by obtain ⟨r1, r2⟩ := i3 (by simpa [upd] using q); have ap := frs.ne hn r2; simpa [upd, ap, r1] using r2, fun q => by obtain ⟨r1, r2⟩ := i4 (by simpa [upd] using q); have ap := frs.ne hn r2; simpa [upd, ap, r1] using r2, fun _ => ⟨by simp, by simp [SZ]⟩, by simpa [upd] using d34, fun q _ => by obtain ⟨r1, r2⟩ := i3 (by simpa [upd] using q); exact (frs.ne hn r2).symm, fun q _ => by obtain ⟨r1, r2⟩ := i4 (by simpa [upd] using q); exact (frs.ne hn r2).symm⟩
            · simp at ho; subst ho
              have l3 := hp 3 (of_decide_eq_true (by kernel_rfl))
              have l0 := hp 0 (of_decide_eq_true (by kernel_rfl))
              have q0 := i0 l0
              obtain ⟨r1, r2⟩ := i3 l3
              rw [hLi] at r2
              have hz : ∀ q : False, True := fun _ => trivial
              simp [e0, e1, e2, e3, e4, e11, q0, r1, r2, SZ]
              exact ⟨⟨by simp [e0], by simp [e1], by simp [e2], by simp [e3], by simp [e4]⟩, by simp [e11], by simpa [upd] using i0, by simpa [upd] using i1, by simpa [upd] using i2, fun _ => by simpa [upd] using l3, by simpa [upd] using j7, x, y, z, fun _ => ⟨by simpa using r1, by simp [upd]⟩, fun q => by (obtain ⟨u1, u2⟩ := i4 (by simpa [upd] using q); have ap := d34 l3 (by simpa [upd] using q); simpa [upd, ap, u1] using u2), fun q => by (obtain ⟨u1, u2⟩ := i5 (by simpa [upd] using q); have ap := d35 l3 (by simpa [upd] using q); simpa [upd, ap, u1] using u2), by simpa [upd] using d34, by simpa [upd] using d35, by simpa [upd] using d45⟩
            · simp at ho; subst ho
              have l4 := hp 4 (of_decide_eq_true (by kernel_rfl))
              have l1 := hp 1 (of_decide_eq_true (by kernel_rfl))
              have q1 := i1 l1
              obtain ⟨r1, r2⟩ := i4 l4
              rw [hLi] at r2
              simp [e0, e1, e2, e3, e4, e11, q1, r1, r2, SZ]
              exact ⟨⟨by simp [e0], by simp [e1], by simp [e2], by simp [e3], by simp [e4]⟩, by simp [e11], by simpa [upd] using i0, by simpa [upd] using i1, by simpa [upd] using i2, by simpa [upd] using j6, fun _ => by simpa [upd] using l4, x, y, z, fun q => by (obtain ⟨u1, u2⟩ := i3 (by simpa [upd] using q); have ap := (d34 (by simpa [upd] using q) l4).symm; simpa [upd, ap, u1] using u2), fun _ => ⟨by simpa using r1, by simp [upd]⟩, fun q => by (obtain ⟨u1, u2⟩ := i5 (by simpa [upd] using q); have ap := d45 l4 (by simpa [upd] using q); simpa [upd, ap, u1] using u2), by simpa [upd] using d34, by simpa [upd] using d35, by simpa [upd] using d45⟩
          · clear e0 e1 e2 e3 e4 e11
            rintro Ld fr σ hall ⟨⟨e0, e1, e2, e3, e4⟩, e11, i0, i1, i2, j6, j7, x, y, z, i3, i4, i5, d34, d35, d45⟩
            obtain ⟨e15, sx⟩ := i3 (hall 3 (by omega))
            obtain ⟨e16, sy⟩ := i4 (hall 4 (by omega))
            obtain ⟨e17, sz⟩ := i5 (hall 5 (by omega))
            rw [hall 6 (by omega), if_pos rfl] at sx
            rw [hall 7 (by omega), if_pos rfl] at sy
            have dxy := d34 (hall 3 (by omega)) (hall 4 (by omega))
            have dxz := d35 (hall 3 (by omega)) (hall 5 (by omega))
            have dyz := d45 (hall 4 (by omega)) (hall 5 (by omega))
            have dyx := dxy.symm
            have dzx := dxz.symm
            have dzy := dyz.symm
            have e78 := i2 (hall 2 (by omega))
            clear i0 i1 i2 j6 j7 i3 i4 i5 d34 d35 d45 hall
            refine pops_pst TU_ok (show pT P0 TU false 154 _ _ [_] fr σ {} from ?_)
            simp [e0, e1, e2, e3, e4, e11, e15, e16, e17, e78, sx, sy, sz, dxy, dxz, dyz, dyx, dzx, dzy, SZ]
            obtain ⟨W, hW⟩ : ∃ W, IntKind.i64.wrap (c + b) = W := ⟨_, rfl⟩
            rw [hW]
            refine own_append (k := 1) (b := 8) (rows := []) (new := rowI P) (zs := [num 0]) (Own.full 1 _ (by simp)) elem22 (by decide) rfl (by decide) isl22 (yv_row fun r hr => (rowI_new P r hr).1) (rowI_new P) (by simp [rowI]; omega) ?_
            intro V σ2 _ hK hm
            obtain ⟨idP, rfl, sP⟩ := hm (rowI_ne (by omega))
            rw [List.nil_append] at sP
            have tx := keeps_full hK (j := x) (x := .cells [encI true L, num W, encI false P]) (by simp)
            have ty := keeps_full hK (j := y) (x := .cells [encI true L, num c, encI false P]) (by simp [dxy, dzy, sy])
            have tz := keeps_full hK (j := z) (x := .cells [encI true L, num c, encI false P]) (by simp [dxz])
            clear hK hm sx sy sz
            have aPx := apart_num sP tx (c := encI true L) (by simp) (encI_num _ _)
            have aPy := apart_num sP ty (c := encI true L) (by simp) (encI_num _ _)
            have aPz := apart_num sP tz (c := encI true L) (by simp) (encI_num _ _)
            rw [rowI_flat] at sP
            have hrl : ([] ++ rowI P).length = a.length := by simp [rowI, hPl]
            rw [hrl]
            obtain ⟨k, hk⟩ : ∃ k, a.length = k + 1 := ⟨a.length - 1, by omega⟩
            have wk : IntKind.i64.wrap ((a.length : Int) - 1) = (k : Int) := by rw [wrap_i64 (by omega) (by omega)]; omega
            have hkP : k < P.length := by omega
            have hPk : P[k] = c := by rw [← nf_get hkP]; exact hlastP k (by omega)
            have hka : k < a.length := by omega
            simp [e0, e1, e2, e3, e4, e11, e15, e16, e17, tx, ty, tz, sP, aPx, aPy, aPz, aPx.symm, aPy.symm, aPz.symm, dxy, dxz, dyz, dyx, dzx, dzy, wk, hkP, hPk, hka, hW]
            refine ⟨by omega, ?_⟩
            rw [show setR (List.map num P) k [PV.lit (Value.int IntKind.i64 W)] = (P.set k W).map num from setR_num P k W hkP]
            obtain ⟨P2, hP2⟩ : ∃ P2, P.set k W = P2 := ⟨_, rfl⟩
            have hP2l : P2.length = a.length := by rw [← hP2]; simp [hPl]
            rw [hP2]
            refine own_appendF (k := 1) (b := 8) (rows := []) (new := rowI L) (zs := [num 0]) (Own.full 1 _ (by simp)) elem22 (by decide) rfl (by decide) isl22 (yv_row fun r hr => (rowI_new L r hr).1) (rowI_new L) (by simp [rowI]; omega) ?_
            intro V σ3 _ hK hm
            obtain ⟨idL, rfl, sL, fL⟩ := hm (rowI_ne (by omega))
            rw [List.nil_append] at sL
            have ux := keeps_full hK (j := x) (x := .cells [encI true L, num W, encI false P]) (by simp [tx, aPx, aPx.symm, dyx])
            have uy := keeps_full hK (j := y) (x := .cells [encI true L, num c, .msl idP 1 0 a.length false]) (by simp [aPy, aPy.symm])
            have uz := keeps_full hK (j := z) (x := .cells [encI true L, num c, encI false P]) (by simp [tz, aPz, aPz.symm, dyz])
            have uP := keeps_full hK (j := idP) (x := .cells (P2.map num)) (by simp)
            clear hK hm tx ty tz sP
            have aLx := apart_num sL ux (c := encI true L) (by simp) (encI_num _ _)
            have aLy := apart_num sL uy (c := encI true L) (by simp) (encI_num _ _)
            have aLz := apart_num sL uz (c := encI true L) (by simp) (encI_num _ _)
            have aLP : Apart idL idP := frs.ne (show frs _ idL from fL) (x := .cells (P2.map num)) (by simp)
            rw [rowI_flat] at sL
            have hrl2 : ([] ++ rowI L).length = a.length := by simp [rowI, hLl]
            rw [hrl2]
            obtain ⟨j, hj, hja⟩ : ∃ j : Nat, t.tmod (a.length : Int) = (j : Int) ∧ j < a.length := by
              have q1 := Int.emod_nonneg t (show (a.length : Int) ≠ 0 by omega)
              have q2 := Int.emod_lt_of_pos t (show (0 : Int) < (a.length : Int) by omega)
              rw [Int.tmod_eq_emod_of_nonneg ht.1]
              exact ⟨(t % (a.length : Int)).toNat, by omega, by omega⟩
            have wj : IntKind.i64.wrap (j : Int) = j := wrap_i64 (by omega) (by omega)
            have wu : IntKind.u64.wrap (a.length : Int) = a.length := Go.IntWalk.u64_in _ (by omega)
            have hjL : j < L.length := by omega
            simp [e0, e1, e2, e3, e4, e11, e15, e16, e17, ux, uy, uz, uP, sL, aLx, aLy, aLz, aLx.symm, aLy.symm, aLz.symm, aLP, aLP.symm, aPx, aPy, aPz, aPx.symm, aPy.symm, aPz.symm, dxy, dxz, dyz, dyx, dzx, dzy, wj, wu, hj, hja, hjL, ha0]
            refine ⟨by omega, ?_⟩
            rw [show setR (List.map num L) j [PV.lit (Value.int IntKind.i64 0)] = (L.set j 0).map num from setR_num L j 0 hjL]
            obtain ⟨L2, hL2⟩ : ∃ L2, L.set j 0 = L2 := ⟨_, rfl⟩
            have hL2l : L2.length = a.length := by rw [← hL2]; simp [hLl]
            rw [hL2]
            obtain ⟨σf, hσf⟩ : ∃ σf, σf = ((((Heap.empty.set x (.cells [encI true L, num W, encI false P])).set y (.cells [encI true L, num c, .msl idP 1 0 a.length false])).set z (.cells [.msl idL 1 0 a.length false, num c, encI false P])).set idP (.cells (P2.map num))).set idL (.cells (L2.map num)) := ⟨_, rfl⟩
            have gx : σf x = some (.cells [encI true L, num W, encI false P]) := by rw [hσf]; simp [aLx, aPx, dzx, dyx]
            have gy : σf y = some (.cells [encI true L, num c, .msl idP 1 0 a.length false]) := by rw [hσf]; simp [aLy, aPy, dzy]
            have gz : σf z = some (.cells [.msl idL 1 0 a.length false, num c, encI false P]) := by rw [hσf]; simp [aLz, aPz]
            have gP : σf idP = some (.cells (P2.map num)) := by rw [hσf]; simp [aLP]
            have gL : σf idL = some (.cells (L2.map num)) := by rw [hσf]; simp
            refine pwpT_go (pwp_frz 4 σf ?_ ?_)
            · rw [hσf]
              refine Frz.set (Frz.set (Frz.set (Frz.set (Frz.set Frz.none ?_) ?_) ?_) ?_) ?_
              · simp [ux, aLx.symm, aLx, dxz, dzx]
              · simp [uy, aLy.symm, aLy, dyz, dzy]
              · simp [uz, aLz.symm, aLz]
              · simp [uP, aLP.symm, aLP, aPz, aPz.symm]
              · simp
            have hch2 := chunk_num' (n := 2) (σf := σf) false P2
            have hch3 := chunk_num' (n := 2) (σf := σf) false L2
            rw [hP2l] at hch2
            rw [hL2l] at hch3
            refine pwp_gen (I := fun fr σ => fr 0 = encI false a ∧ fr 1 = num s ∧ fr 2 = num h ∧ fr 11 = .ref [encI true L, num c, encI false P] ∧ fr 15 = .ref [encI true L, num W, encI false P] ∧ fr 16 = .ref [encI true L, num c, encI false P2] ∧ fr 17 = .ref [encI false L2, num c, encI false P] ∧ fr 18 = num j) ?_ ?_
            · simp [e0, e1, e2, e11, e15, e16, e17, gx, gy, gz, gP, gL, hch2, hch3, hP2l, hL2l]
            clear e0 e1 e2 e3 e4 e11 e15 e16 e17 ux uy uz uP sL
            rintro fr σ ⟨e0, e1, e2, e11, e15, e16, e17, e18⟩
            have hbr : -9223372036854775808 ≤ b ∧ b < 9223372036854775808 := by
              simp only [Lit.wf, Bool.and_eq_true, decide_eq_true_eq] at hb
              have q1 : IntKind.i64.min = -9223372036854775808 := by decide
              have q2 : IntKind.i64.max = 9223372036854775807 := by decide
              rw [q1, q2] at hb; omega
            have hWc : W ≠ c := by rw [← hW]; exact wrap_ne (by omega) hbr hb0
            have ck1 : checkR a s h L W P = .tup [bo false, num 0] := by unfold checkR; rw [if_pos hv, hcp W hWc]
            have ck2 : checkR a s h L c P2 = .tup [bo false, num 0] := by
              unfold checkR
              rw [if_pos hv, ← hP2, show k = a.length - 1 by omega, hcl W c (by omega) hWc]
            have hj0 : nf L j = L[j] := nf_get hjL
            refine pwp_go TU_ok ?_
            by_cases hz : L[j] = 0
            · have hLL : L2 = L := by
                rw [← hL2, ← hz]; exact List.set_getElem_self hjL
              rw [hLL] at e17
              simp [e0, e1, e2, e11, e15, e16, e17, e18, ha, hLl, hPl, hP2l, ck1, ck2, hck, IAx_encI, hjL, hja, hz]
            · have ck3 : checkR a s h L2 c P = .tup [bo false, num 0] := by
                unfold checkR
                rw [if_pos hv, ← hL2, hls j hja (by rw [hj0]; exact hz)]
              simp [e0, e1, e2, e11, e15, e16, e17, e18, ha, hLl, hPl, hP2l, hL2l, ck1, ck2, ck3, IAx_encI, hjL, hja, hz]
    · simp (config := { contextual := true }) [ha, h1, sizeR_no hv]
  · simp (config := { contextual := true }) [ha, h1]
end Go.Proofs.Ytnnablbdakomlaa
