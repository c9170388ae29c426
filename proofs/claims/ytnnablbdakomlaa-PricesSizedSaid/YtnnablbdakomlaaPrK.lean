/-
  Sizing: what the functions compute, part K: the program's Size.
-/
import Derived.Test.YtnnablbdakomlaaPrH
set_option linter.unusedSimpArgs false
set_option linter.unusedVariables false
namespace Go.Proofs.Ytnnablbdakomlaa
open Go.Lo

/-! The closure that calculates the cost of a lot. -/
def lotE : List PV → EV
  | [.lit (.int .i64 a), .lit (.int .i64 b), .ref [n], .ref [.lit (.int .i64 h)], .ref [.lit (.int .i64 s)]] => ⟨isI n ∧ Ok (decI n) s h ∧ 0 ≤ a ∧ a ≤ b ∧ b ≤ (decI n).length, lotR (decI n) s h a.toNat b.toNat⟩
  | _ => .no
@[simp] theorem lotE_mk (a b s h : Int) (n : PV) : lotE [num a, num b, .ref [n], .ref [num h], .ref [num s]] = ⟨isI n ∧ Ok (decI n) s h ∧ 0 ≤ a ∧ a ≤ b ∧ b ≤ (decI n).length, lotR (decI n) s h a.toNat b.toNat⟩ := rfl
theorem lotE_fun (args : List PV) (hd : (lotE args).D) : PFun P0 41 args (lotE args).V := by
  unfold lotE at hd ⊢
  split at hd
  · rename_i a b n h s
    obtain ⟨h0, H, h1, h2, h3⟩ := hd
    obtain ⟨k1, k2⟩ := isI_le h0
    have := lot24_ok (decI n) s h H a.toNat b.toNat (by omega) (by omega)
    rw [show ((a.toNat : Nat) : Int) = a by omega, show ((b.toNat : Nat) : Int) = b by omega] at this
    exact pcalls.args this (.cons (.refl _) (.cons (.refl _) (.cons (.ref (.cons k1 .nil)) (.cons (.refl _) (.cons (.refl _) .nil)))))
  · exact hd.elim
def TR : Tab := (TA.add 39 fun a _ => e3 (fun l s h => ⟨True, bo (validS l s h)⟩) a).add 41 (fun a _ => lotE a) |>.add 42 (fun a _ => match a with | [.lit (.int .i64 d)] => ⟨True, bIt d⟩ | _ => .no)
theorem TR_ok : TR.ok P0 := by
  refine Tab.add_fun (Tab.add_fun (Tab.add_fun TA_ok Try.call39 ?_) Try.call41 lotE_fun) Try.call42 ?_
  · exact e3_fun fun l s h hl _ => valid23_ok false l s h hl
  · intro args hd
    split at hd
    · exact back25_ok _
    · exact hd.elim
@[simp] theorem TR_dom39 : TR.dom 39 = true := rfl
@[simp] theorem TR_dom41 : TR.dom 41 = true := rfl
@[simp] theorem TR_dom42 : TR.dom 42 = true := rfl
@[simp] theorem TR_ev39 (a : List PV) (σ : Heap) : TR.ev 39 a σ = e3 (fun l s h => ⟨True, bo (validS l s h)⟩) a := rfl
@[simp] theorem TR_ev41 (a : List PV) (σ : Heap) : TR.ev 41 a σ = lotE a := rfl
@[simp] theorem TR_ev42 (d : Int) (σ : Heap) : TR.ev 42 [num d] σ = ⟨True, bIt d⟩ := rfl

theorem zero68' : zeroP P0 68 = some (rowP 17 fun _ => num 0) := by kernel_rfl

theorem size12_raw (need : List Int) (s h : Int) (hl : need.length ≤ maxLen) (hv : validS need s h = true) : pcalls P0 20 [encI false need, num s, num h] Heap.empty fun o σ' => ∃ id id2 full,
    o = .val (.tup [.agg [.msl id 1 0 need.length true, num (price (nf need) s h need.length), .msl id2 1 1 need.length full], num 0]) ∧ id ≠ id2 ∧ σ' id = some (.cells (rowP need.length fun d => num (lotsTo (nf need) (bestS need s h) need.length d))) ∧
    ∃ g : Nat → PV, σ' id2 = some (.cells (rowP 17 g)) ∧ ∀ t, t ≤ need.length → g t = num (price (nf need) s h t) := by
  have H := ok_of hv
  have hf := H.few
  refine pcalls_body Try.func20 rfl rfl rfl (by show 3 ≤ _; decide) (pwp_go TR_ok ?_)
  simp (config := { contextual := true }) [hl, hv, -zero68, zero68']
  intro id3 id4 a1 id5 a2 a3 id6 a4 a5 a6 id8 a7 a8 a9 a10 id9 a11 a12 a13 a14 a15
  obtain ⟨CL, hCL⟩ : ∃ CL : PV, CL = .fn (.func 41) [] [.ref [encI false need], .ref [num h], .ref [num s]] := ⟨_, rfl⟩
  refine pwpT_go (pwp_frz 3 ((((Heap.empty.set id3 (.cells [encI false need])).set id4 (.cells [num s])).set id5 (.cells [num h])).set id8 (.cells [.fn (.func 41) [] [.ptr id3 0, .ptr id5 0, .ptr id4 0]])) ?_ ?_)
  · refine Frz.set (Frz.set (Frz.set (Frz.set Frz.none ?_) ?_) ?_) ?_ <;> simp [a1, a2, a3, a4, a5, a6, a7, a8, a9, a10, a11, a12, a13, a14, a15]
  refine pwp_loop (fun N fr σ => ∃ (t : Nat) (g : Nat → PV), N = need.length + 1 - t ∧ 1 ≤ t ∧ t ≤ need.length + 1 ∧ fr 3 = .ref [encI false need] ∧ fr 4 = .ref [num s] ∧ fr 5 = .ref [num h] ∧ fr 6 = .ptr id6 0 ∧ fr 8 = .ref [CL] ∧ fr 9 = .ptr id9 0 ∧ fr 10 = num t ∧
    σ id6 = some (.cells [nilS, num 0, nilS]) ∧ σ id9 = some (.cells (rowP 17 g)) ∧ ∀ u, u < t → g u = num (price (nf need) s h u)) (N := need.length) ?_ ?_
  · refine ⟨1, fun _ => num 0, rfl, by omega, by omega, ?_⟩
    simp [a1, a2, a3, a4, a5, a6, a7, a8, a9, a10, a11, a12, a13, a14, a15, hCL, nilS]
    exact (price_zero _ _ _).symm
  rintro N fr σ ⟨t, g, rfl, ht1, ht2, e3, e4, e5, e6, e8, e9, e10, s6, s9, hg⟩
  refine pwp_go TR_ok ?_
  by_cases htn : t ≤ need.length
  · have ht17 : t < 17 := by omega
    have wt := wrap_succ (k := t) (by omega)
    simp [e3, e4, e5, e6, e8, e9, e10, s6, s9, htn, ht17, rowP_set]
    refine ⟨by omega, by omega, ?_⟩
    refine pwp_loop (fun N fr σ => ∃ (c : Nat) (g : Nat → PV), N = t - c ∧ c ≤ t ∧ fr 3 = .ref [encI false need] ∧ fr 4 = .ref [num s] ∧ fr 5 = .ref [num h] ∧ fr 6 = .ptr id6 0 ∧ fr 8 = .ref [CL] ∧ fr 9 = .ptr id9 0 ∧ fr 10 = num t ∧
      fr 36 = num t ∧ fr 37 = num c ∧ σ id6 = some (.cells [nilS, num 0, nilS]) ∧ σ id9 = some (.cells (rowP 17 g)) ∧ (∀ u, u < t → g u = num (price (nf need) s h u)) ∧
      g t = (if c = 0 then num (-1) else num (minF (fun r => price (nf need) s h r + lotC (nf need) s h r t) (c - 1)))) (N := t) ?_ ?_
    · refine ⟨0, fun j => if j = t then num (-1) else g j, by omega, by omega, ?_⟩
      simp [e3, e4, e5, e6, e8, e9, e10, s6, s9, a12]
      intro u hu
      rw [if_neg (by omega)]; exact hg u hu
    clear e3 e4 e5 e6 e8 e9 e10 s6 s9 hg
    rintro N fr σ ⟨c, g, rfl, hc, e3, e4, e5, e6, e8, e9, e10, e36, e37, s6, s9, hg, hgt⟩
    refine pwp_go TR_ok ?_
    by_cases hct : c < t
    · have wc := wrap_succ (k := c) (by omega)
      have hc17 : c < 17 := by omega
      have b1 := H.price c (by omega)
      have b2 := H.lot c t (by omega)
      have w1 : IntKind.i64.wrap (price (nf need) s h c + lotC (nf need) s h c t) = price (nf need) s h c + lotC (nf need) s h c t := wrap_i64 (by omega) (by omega)
      have gc := hg c hct
      have hcl : (c : Int) ≤ t := by omega
      simp [e3, e4, e5, e6, e8, e9, e10, e36, e37, s6, s9, hct, hCL, hl, H, htn, hcl, lotR]
      refine pwp_drawT TR_ok 14 mixed (by kernel_rfl) ?_
      rcases Nat.eq_zero_or_pos c with h0 | h0
      · subst h0
        have gt : g t = num (-1) := by rw [hgt]; rfl
        simp [e3, e4, e5, e6, e8, e9, e10, e36, e37, s6, s9, hct, rowP_get?, rowP_getD, ht17, gt, gc, w1, rowP_set, wc, a12]
        exact ⟨by omega, by omega, t - 1, by omega, 1, by omega, by omega, by decide, _, rfl, fun u hu => by rw [if_neg (by omega)]; exact hg u hu, by simp [minF]⟩
      · have gt : g t = num (minF (fun r => price (nf need) s h r + lotC (nf need) s h r t) (c - 1)) := by rw [hgt, if_neg (by omega)]
        obtain ⟨q, q1, q2⟩ := minF_met (fun r => price (nf need) s h r + lotC (nf need) s h r t) (c - 1)
        have b3 := H.price q (by omega)
        have b4 := H.lot q t (by omega)
        have hm : minF (fun r => price (nf need) s h r + lotC (nf need) s h r t) c = min (minF (fun r => price (nf need) s h r + lotC (nf need) s h r t) (c - 1)) (price (nf need) s h c + lotC (nf need) s h c t) := by
          obtain ⟨k, rfl⟩ : ∃ k, c = k + 1 := ⟨c - 1, by omega⟩
          rfl
        generalize minF (fun r => price (nf need) s h r + lotC (nf need) s h r t) (c - 1) = X at *
        have hx : ¬ X < 0 := by omega
        simp [e3, e4, e5, e6, e8, e9, e10, e36, e37, s6, s9, hct, rowP_get?, rowP_getD, ht17, hc17, gt, gc, w1, rowP_set, wc, hx, a12]
        refine ⟨by omega, by omega, by omega, fun hlt => ⟨by omega, by omega, by omega, t - (c + 1), by omega, c + 1, by omega, by omega, by omega, _, rfl, fun u hu => by rw [if_neg (by omega)]; exact hg u hu, ?_⟩,
          fun hge => ⟨t - (c + 1), by omega, c + 1, rfl, by omega, by omega, g, rfl, hg, ?_⟩⟩
        · rw [if_pos rfl, if_neg (by omega), show c + 1 - 1 = c by omega, hm, show min X (price (nf need) s h c + lotC (nf need) s h c t) = price (nf need) s h c + lotC (nf need) s h c t by omega]
        · rw [if_neg (by omega), show c + 1 - 1 = c by omega, hm, show min X (price (nf need) s h c + lotC (nf need) s h c t) = X by omega, gt]
    · have hct' : c = t := by omega
      subst hct'
      simp [e3, e4, e5, e6, e8, e9, e10, e36, e37, s6, s9, wt]
      refine ⟨need.length + 1 - (c + 1), by omega, c + 1, rfl, by omega, by omega, by omega, g, rfl, fun u hu => ?_⟩
      rcases Nat.lt_or_ge u c with h1 | h1
      · exact hg u h1
      · obtain ⟨k, rfl⟩ : ∃ k, c = k + 1 := ⟨c - 1, by omega⟩
        rw [show u = k + 1 by omega, hgt, if_neg (by omega), price_succ]; rfl
  · have htn' : t = need.length + 1 := by omega
    subst htn'
    have hn1 : ¬ ((need.length : Int) + 1 ≤ need.length) := by omega
    simp [e3, e4, e5, e6, e8, e9, e10, s6, s9, hn1]
    have w17 : IntKind.i64.wrap ((need.length : Int) + 1) = (need.length : Int) + 1 := wrap_i64 (by omega) (by omega)
    have gn := hg need.length (by omega)
    refine pwpT_go (pwp_drawMT TR_ok 11 2 (fun id => .msl id 1 0 need.length true) (.cells (rowP need.length fun _ => num 0)) [some false, some false, none, some false, some false, some false, some false, some false, some false, some false, some false] mixed (by kernel_rfl) (by decide) (by kernel_rfl) ?_)
    intro idL hL
    have hL6 := frs.ne (show frs σ idL from hL) s6
    have hL9 := frs.ne (show frs σ idL from hL) s9
    have hmk : MKJ P0 σ 22 (num need.length) (num need.length) (fun id => .msl id 1 0 need.length true) (.cells (rowP need.length fun _ => num 0)) := by
      have := MKJ_int (σ := σ) elem22 (x := (need.length : Int)) (y := need.length) (by omega) (by omega) (by omega) (by decide) (by simp)
      simpa [rowP_repl] using this
    have hn17 : need.length < 17 := by omega
    simp [e3, e4, e5, e6, e8, e9, e10, s6, s9, hmk, w17, rowP_get?, hn17, gn, hL6, hL9]
    have hmx : (17 : Nat) ≤ maxLen := by decide
    refine ⟨by omega, ⟨by omega, by omega, hmx⟩, ?_⟩
    intro id14 b1 b2 b0
    have b3 := frs.ne b0 s9
    generalize decide ((17 : Int) = (need.length : Int) + 1) = fl
    refine pwp_loop (fun N fr σ => ∃ (t : Nat) (id14 : Nat) (f : Nat → PV) (fl : Bool), N = t ∧ t ≤ need.length ∧ Apart id14 idL ∧ Apart id14 id6 ∧ Apart id14 id9 ∧ fr 3 = .ref [encI false need] ∧ fr 4 = .ref [num s] ∧ fr 5 = .ref [num h] ∧ fr 6 = .ptr id6 0 ∧ fr 8 = .ref [CL] ∧ fr 9 = .ptr id9 0 ∧ fr 14 = .ptr id14 0 ∧
      σ id14 = some (.cells [num t]) ∧ σ idL = some (.cells (rowP need.length f)) ∧ σ id6 = some (.cells [.msl idL 1 0 need.length true, num (price (nf need) s h need.length), .msl id9 1 1 need.length fl]) ∧ σ id9 = some (.cells (rowP 17 g)) ∧
      (∀ x, f x = if x < t then num 0 else num (lotsTo (nf need) (bestS need s h) need.length x)) ∧ ∀ x, x < t → lotsTo (nf need) (bestS need s h) need.length x = lotsTo (nf need) (best (nf need) s h t) t x) (N := need.length) ?_ ?_
    · refine ⟨need.length, id14, fun _ => num 0, fl, rfl, Nat.le_refl _, b2, b1, b3, ?_⟩
      have hz : ∀ x, need.length ≤ x → lotsTo (nf need) (bestS need s h) need.length x = 0 := fun x hx => lotsTo_out (.inl hx)
      simp [e3, e4, e5, e6, e8, e9, s6, s9, b1, b2, b3, hL6, hL9, a12]
      exact ⟨fun x hx => (hz x hx).symm, fun x hx => rfl⟩
    · clear e3 e4 e5 e6 e8 e9 e10 s6 s9
      rintro t fr σ' ⟨_, id14, f, fl, rfl, htn, d1, d2, d3, e3, e4, e5, e6, e8, e9, e14, s14, sL, s6, s9, hf', hch⟩
      refine pwp_go TR_ok ?_
      rcases Nat.eq_zero_or_pos t with h0 | h0
      · subst h0
        have hrow : rowP need.length f = rowP need.length fun d => num (lotsTo (nf need) (bestS need s h) need.length d) := rowP_congr fun x _ => by rw [hf' x, if_neg (by omega)]
        simp [e3, e4, e5, e6, e8, e9, e14, s14, sL, s6, s9, hL6, hL9, a12, d1, d2, d3]
        exact ⟨idL, id9, ⟨rfl, rfl⟩, hL9, by simp [hL6, sL, hrow], g, by simp [a12, s9], fun u hu => hg u (by omega)⟩
      · have ht17 : t < 17 := by omega
        simp [-NEW_def, e3, e4, e5, e6, e8, e9, e14, s14, sL, s6, s9, h0]
        refine fun id15 h15 => ?_
        have c1 := frs.ne h15 s14
        have c2 := frs.ne h15 sL
        have c3 := frs.ne h15 s6
        have c4 := frs.ne h15 s9
        simp [e3, e4, e5, e6, e8, e9, e14, s14, sL, s6, s9, c1, c2, c3, c4, d1, d2, d3, hL6, hL9, a12]
        refine pwp_rangeT TR_ok (fun k σ => σ id14 = some (.cells [num t]) ∧ σ id15 = some (.cells [bo false]) ∧ σ idL = some (.cells (rowP need.length f)) ∧ σ id6 = some (.cells [.msl idL 1 0 need.length true, num (price (nf need) s h need.length), .msl id9 1 1 need.length fl]) ∧ σ id9 = some (.cells (rowP 17 g)) ∧
          ∀ i, i < k → pickP (nf need) s h t (t - 1 - i) = false) (backIt (t := t) (by omega)) (by simp; rfl) Try.call56 (fun v hv => by obtain ⟨d, _, rfl⟩ := List.mem_map.1 hv; rfl) (by decide)
          (by simp [e14, s14, sL, s6, s9, c1, c2, c3, c4, d1, d2, d3]) ?_ ?_
        · rintro k σ2 hk ⟨r14, r15, rL, r6, r9, hno⟩
          rw [bVs_get hk]
          rw [bVs_length] at hk
          obtain ⟨d, hd⟩ : ∃ d, d = t - 1 - k := ⟨_, rfl⟩
          rw [← hd]
          have hdt : d < t := by omega
          have hdl : (d : Int) ≤ t := by omega
          have hd17 : d < 17 := by omega
          have gd := hg d (by omega)
          have gt := hg t (by omega)
          have p1 := H.price d (by omega)
          have p2 := H.lot d t (by omega)
          have w1 : IntKind.i64.wrap (price (nf need) s h d + lotC (nf need) s h d t) = price (nf need) s h d + lotC (nf need) s h d t := wrap_i64 (by omega) (by omega)
          have htl : (t : Int) ≤ need.length := by omega
          have next : pickP (nf need) s h t d = false → ∀ i, i < k + 1 → pickP (nf need) s h t (t - 1 - i) = false := fun hp i hi => by
            rcases Nat.lt_or_ge i k with h1 | h1
            · exact hno i h1
            · rw [show i = k by omega, ← hd]; exact hp
          cases hs : some_ (nf need) d (t - d) with
          | false =>
            simp [e3, e4, e5, e6, e8, e9, e14, r14, r15, rL, r6, r9, hCL, hl, H, hdl, htl, htn, lotR, hs]
            refine pwp_drawT TR_ok 11 mixed (by kernel_rfl) ?_
            simp [e3, e4, e5, e6, e8, e9, e14, r14, r15, rL, r6, r9]
            exact next (by simp [pickP, hs])
          | true =>
            by_cases hq : price (nf need) s h d + lotC (nf need) s h d t = price (nf need) s h t
            · simp [e3, e4, e5, e6, e8, e9, e14, r14, r15, rL, r6, r9, hCL, hl, H, hdl, htl, htn, lotR, hs]
              refine pwp_drawT TR_ok 11 mixed (by kernel_rfl) ?_
              have hpk : pick (nf need) s h t = some d := findB_of hdt (by simp [pickP, hs, hq]) fun x x1 x2 => by
                have := hno (t - 1 - x) (by omega)
                rwa [show t - 1 - (t - 1 - x) = x by omega] at this
              obtain ⟨k1, k2, k3⟩ := chain_step hpk
              have w2 : IntKind.i64.wrap (price (nf need) s h t) = price (nf need) s h t := by rw [← hq]; exact w1
              simp [e3, e4, e5, e6, e8, e9, e14, r14, r15, rL, r6, r9, rowP_get?, rowP_getD, hd17, ht17, gd, gt, w2, hq, Slx_encI, Nat.le_of_lt hdt, htn]
              refine ⟨by omega, by omega, ?_⟩
              obtain ⟨P1, hP1⟩ : ∃ P1 : List Int, (need.drop d).take (t - d) = P1 := ⟨_, rfl⟩
              have hP2 : P1.length = t - d := by rw [← hP1]; simp; omega
              have hP3 : ∀ j, (hj : j < P1.length) → P1[j] = nf need (d + j) := fun j hj => by
                subst hP1
                rw [nf_get (by simp at hj; omega)]; simp
              have hSb : ∀ j, j ≤ 16 → 0 ≤ sumTo (fun i => nf need (d + i)) j ∧ sumTo (fun i => nf need (d + i)) j ≤ 16777216 := fun j hj => by
                have q1 : 0 ≤ sumTo (fun i => nf need (d + i)) j := sumTo_nonneg fun i _ => H.nonneg _
                have q2 : sumTo (fun i => nf need (d + i)) j ≤ j * 1048576 := sumTo_bound fun i _ => (H.need _).2
                omega
              have hdn : d < need.length := by omega
              have fd : f d = num 0 := by rw [hf' d, if_pos hdt]
              refine pwp_loop (fun N fr σ => ∃ j : Nat, N = P1.length - j ∧ j ≤ P1.length ∧ fr 6 = .ptr id6 0 ∧ fr 14 = .ptr id14 0 ∧ fr 15 = .ptr id15 0 ∧ fr 16 = num d ∧ fr 111 = encI false P1 ∧ fr 112 = num P1.length ∧ fr 113 = num j ∧
                σ id14 = some (.cells [num t]) ∧ σ id15 = some (.cells [bo false]) ∧ σ idL = some (.cells (rowP need.length fun x => if x = d then num (sumTo (fun i => nf need (d + i)) j) else f x)) ∧
                σ id6 = some (.cells [.msl idL 1 0 need.length true, num (price (nf need) s h need.length), .msl id9 1 1 need.length fl]) ∧ σ id9 = some (.cells (rowP 17 g))) (N := P1.length) ?_ ?_
              · refine ⟨0, ?_⟩
                have hrow : rowP need.length f = rowP need.length fun x => if x = d then num (sumTo (fun i => nf need (d + i)) 0) else f x := rowP_congr fun x _ => by
                  split
                  · rename_i e; rw [e, fd]; rfl
                  · rfl
                simp [e3, e4, e5, e6, e8, e9, e14, r14, r15, rL, r6, r9, hP1, ← hP2]
                rw [← hrow]
                simp [← hP1, Nat.min_eq_left (show t - d ≤ need.length - d by omega)]
              · rintro N fr' σ3 ⟨j, rfl, hj, f6, f14, f15, f16, f111, f112, f113, u14, u15, uL, u6, u9⟩
                refine pwp_go TR_ok ?_
                by_cases hjP : j < P1.length
                · have wj := wrap_succ (k := j) (by omega)
                  have hjv := hP3 j hjP
                  have b1 := hSb j (by omega)
                  have b2 := hSb (j + 1) (by omega)
                  have w3 : IntKind.i64.wrap (sumTo (fun i => nf need (d + i)) j + nf need (d + j)) = sumTo (fun i => nf need (d + i)) (j + 1) := wrap_i64 (by simp only [sumTo] at b2; omega) (by simp only [sumTo] at b2; omega)
                  simp [f6, f14, f15, f16, f111, f112, f113, u14, u15, uL, u6, u9, hjP, IAx_encI, hjv, hdn, rowP_get?, rowP_set, w3, wj, d1, d2, d3, c1, c2, c3, c4, hL6, hL9, a12]
                  exact ⟨by omega, P1.length - (j + 1), by omega, j + 1, rfl, by omega, by omega, rowP_congr fun x _ => by by_cases e : x = d <;> simp [e]⟩
                · simp [-NEW_def, f6, f14, f15, f16, f111, f112, f113, u14, u15, uL, u6, u9, hjP, d1, d2, d3, c1, c2, c3, c4, hL6, hL9, a12, e14]
                  refine fun idN hN => ?_
                  have hj' : j = t - d := by omega
                  subst hj'
                  have hN3 : frs σ3 idN := by
                    have hN' : frs ((σ3.set id14 (.cells [num d])).set id15 (.cells [bo true])) idN := hN
                    rw [frs_set, frs_set] at hN'
                    exact hN'.2.2
                  have n1 := frs.ne hN3 uL
                  have n2 := frs.ne hN3 u6
                  have n3 := frs.ne hN3 u9
                  simp [e3, e4, e5, e6, e8, e9, uL, u6, u9, n1, n2, n3, d1, d2, d3, c1, c2, c3, c4]
                  refine ⟨d, hdt, by omega, idN, n1, n2, n3, rfl, by simp, _, rfl, fun x => ?_, fun x hx => ?_⟩
                  · by_cases e : x = d
                    · subst e
                      rw [if_pos rfl, if_neg (by omega), hch x hdt, k2]
                    · rw [if_neg e, hf' x]
                      by_cases q : x < d
                      · rw [if_pos q, if_pos (by omega)]
                      · by_cases q2 : x < t
                        · rw [if_pos q2, if_neg q, hch x q2, k3 x (by omega) q2]
                        · rw [if_neg q2, if_neg q]
                  · rw [hch x (by omega), k1 x hx]
            · simp [e3, e4, e5, e6, e8, e9, e14, r14, r15, rL, r6, r9, hCL, hl, H, hdl, htl, htn, lotR, hs]
              refine pwp_drawT TR_ok 11 mixed (by kernel_rfl) ?_
              simp [e3, e4, e5, e6, e8, e9, e14, r14, r15, rL, r6, r9, rowP_get?, rowP_getD, hd17, ht17, gd, gt, w1, hq]
              refine ⟨by omega, by omega, ?_⟩
              exact next (by simp [pickP, hq])
        · rintro σ2 ⟨r14, r15, rL, r6, r9, hno⟩
          rw [bVs_length] at hno
          have hpk : pick (nf need) s h t = none := findB_no fun x hx => by
            have := hno (t - 1 - x) (by omega)
            rwa [show t - 1 - (t - 1 - x) = x by omega] at this
          have hrow : rowP need.length f = rowP need.length fun d => num (lotsTo (nf need) (bestS need s h) need.length d) := rowP_congr fun x _ => by
            rw [hf' x]
            split
            · rename_i hx; rw [hch x hx, chain_end hpk]
            · rfl
          simp [e3, e4, e5, e6, e8, e9, e14, r14, r15, rL, r6, r9, hL6, hL9, a12, d1, d2, d3]
          exact ⟨idL, id9, ⟨rfl, rfl⟩, hL9, by simp [hL6, rL, hrow], g, by simp [a12, r9], fun u hu => hg u (by omega)⟩

theorem size12_ok (need : List Int) (s h : Int) (hl : need.length ≤ maxLen) : PFun P0 20 [encI false need, num s, num h] (sizeR need s h) := by
  by_cases hv : validS need s h = true
  · have H := ok_of hv
    have hf := H.few
    refine pcalls.wk (pcalls_frz ((size12_raw need s h hl hv).mono ?_))
    rintro o σ' ⟨id, id2, full, rfl, hne, h1, g, h2, hg⟩
    refine ⟨3, (Heap.empty.set id (.cells (rowP need.length fun d => num (lotsTo (nf need) (bestS need s h) need.length d)))).set id2 (.cells (rowP 17 g)), Frz.set (Frz.set Frz.none h1) h2, ?_⟩
    have e1 : ∀ (n : Nat) (σ : Heap), (rowP need.length fun d => num (lotsTo (nf need) (bestS need s h) need.length d)).map (frzN n σ) = rowP need.length fun d => num (lotsTo (nf need) (bestS need s h) need.length d) := fun n σ => by rw [rowP_map]; exact rowP_congr fun i _ => frzN_num n σ _
    have e2 : ∀ (n : Nat) (σ : Heap), chunks 1 need.length (((rowP 17 g).drop 1).map (frzN n σ)) = (pricesL need s h).map fun x => [num x] := fun n σ => by
      unfold chunks pricesL
      rw [List.map_map]
      refine List.map_congr_left fun i hi => ?_
      have hi := List.mem_range.1 hi
      have hlen : i < ((List.drop 1 (rowP 17 g)).map (frzN n σ)).length := by simp; omega
      rw [Nat.mul_one, List.drop_eq_getElem_cons hlen]
      simp only [List.getElem_map, List.getElem_drop, rowP_getElem, List.take_succ_cons, List.take_zero, Function.comp]
      rw [hg (1 + i) (by omega), Nat.add_comm 1 i]; simp
    refine ⟨.tup [.agg [encI true (lotsL need (bestS need s h)), num (price (nf need) s h need.length), encI full (pricesL need s h)], num 0], ?_, ?_⟩
    · have e3 : ((List.range need.length).map fun i => [num (lotsTo (nf need) (bestS need s h) need.length i)]) = (lotsL need (bestS need s h)).map fun x => [num x] := by simp [lotsL]
      simp only [frzO, frzN_tup, frzN_agg, List.map_cons, List.map_nil, frzN_msl, frzN_num, frzN_zero]
      rw [Heap.set_at, Heap.set_at, Heap.set_at, if_neg (show ¬ SameId id id2 from hne), if_pos (show SameId id id from rfl), if_pos (show SameId id2 id2 from rfl)]
      simp only [cellsO_some, FZM_some, e1, List.drop_zero, e2]
      rw [if_pos (by simp), if_pos (by simp; omega), chunks_row, e3]
      rfl
    · unfold sizeR
      rw [if_pos hv]
      exact .tup (.cons (.agg (.cons (.refl _) (.cons (.refl _) (.cons (PLe.encI_full _ _) .nil)))) (.cons (.refl _) .nil))
  · refine pcalls_body Try.func20 rfl rfl rfl (by show 3 ≤ _; decide) (pwp_go TR_ok ?_)
    unfold sizeR
    simp (config := { contextual := true }) [hl, hv, nilS]

end Go.Proofs.Ytnnablbdakomlaa
