/-
  Prices: the contract of the law PricesLower.
-/
import Derived.Test.YtnnablbdakomlaaPrX
set_option linter.unusedSimpArgs false
set_option linter.unusedVariables false
namespace Go.Proofs.Ytnnablbdakomlaa
open Go.Lo

@[simp] theorem conv403 (k : IntKind) (n : Int) : evConv P0 40 3 (.lit (.int k n)) = ⟨True, .lit (.int .i64 (IntKind.i64.wrap n))⟩ := evConv_int 40 3 k .i64 n (by kernel_rfl) (by kernel_rfl)
@[simp] theorem conv53 (k : IntKind) (n : Int) : evConv P0 5 3 (.lit (.int k n)) = ⟨True, .lit (.int .i64 (IntKind.i64.wrap n))⟩ := evConv_int 5 3 k .i64 n (by kernel_rfl) (by kernel_rfl)

/-- The prices, from day f to day k less by b. -/
def lowL (p : List Int) (f k : Nat) (b : Int) : List Int := (List.range p.length).map fun i => if f ≤ i ∧ i < k then nf p i - b else nf p i
theorem lowL_length (p : List Int) (f k : Nat) (b : Int) : (lowL p f k b).length = p.length := by simp [lowL]
theorem lowL_get {p : List Int} {f k i : Nat} {b : Int} (hi : i < (lowL p f k b).length) : (lowL p f k b)[i] = if f ≤ i ∧ i < k then nf p i - b else nf p i := by simp [lowL]
theorem lowL_zero (p : List Int) (f : Nat) (b : Int) : lowL p f 0 b = p := by
  refine List.ext_getElem (by simp [lowL]) fun i h1 h2 => ?_
  rw [lowL_get, if_neg (by omega), nf_get h2]
theorem lowL_skip {p : List Int} {f k : Nat} {b : Int} (h : k < f) : lowL p f (k + 1) b = lowL p f k b := by
  refine List.ext_getElem (by simp [lowL]) fun i h1 h2 => ?_
  rw [lowL_get, lowL_get]
  by_cases e : f ≤ i ∧ i < k
  · rw [if_pos e, if_pos (by omega)]
  · rw [if_neg e, if_neg (by omega)]
theorem lowL_step {p : List Int} {f k : Nat} {b : Int} (h : f ≤ k) (hk : k < p.length) : (lowL p f k b).set k (nf p k - b) = lowL p f (k + 1) b := by
  refine List.ext_getElem (by simp [lowL]) fun i h1 h2 => ?_
  rw [List.getElem_set, lowL_get, lowL_get]
  by_cases e : k = i
  · subst e; rw [if_pos rfl, if_pos (by omega)]
  · rw [if_neg e]
    by_cases e2 : f ≤ i ∧ i < k
    · rw [if_pos e2, if_pos (by omega)]
    · rw [if_neg e2, if_neg (by omega)]
theorem nf_low {p : List Int} {f : Nat} {b : Int} {i : Nat} (hi : i < p.length) : nf (lowL p f p.length b) i = if f ≤ i then nf p i - b else nf p i := by
  rw [nf_get (by rw [lowL_length]; exact hi), lowL_get]
  by_cases e : f ≤ i
  · rw [if_pos ⟨e, hi⟩, if_pos e]
  · rw [if_neg (by omega), if_neg e]
theorem fS_low {p : List Int} {f : Nat} {b : Int} {t : Nat} (ht : t ≤ p.length) : fS (lowL p f p.length b) t = if f < t then fS p t - b else fS p t := by
  cases t with
  | zero => simp [fS]
  | succ t =>
    rw [fS_succ, fS_succ, nf_low (by omega)]
    by_cases e : f ≤ t
    · rw [if_pos e, if_pos (by omega)]
    · rw [if_neg e, if_neg (by omega)]
theorem bound_low {a : List Int} {s h : Int} {p : List Int} {f : Nat} {b : Int} (hb : 0 ≤ b) (hl : p.length = a.length) (hB : boundS a s h p = true) : boundS a s h (lowL p f p.length b) = true := boundS_iff.2 fun x t hx ht => by
  have := proof_lower (b := b) (f := f) hb (boundS_iff.1 hB) x t hx ht
  unfold slackF at this ⊢
  rw [fS_low (by omega), fS_low (by omega)]
  exact this
theorem priced_low {a p : List Int} {f : Nat} {b : Int} (hb : 0 ≤ b ∧ b < 65536) (hq : pricedS a p = true) (hlow : ∀ i, f ≤ i → i < p.length → -576460752303423488 ≤ nf p i) : pricedS a (lowL p f p.length b) = true := by
  have hP := prc_of hq
  have hl := hP.len
  simp only [pricedS, Bool.and_eq_true, decide_eq_true_eq, Bool.not_eq_true', List.any_eq_false, lowL_length]
  refine ⟨by omega, fun x hx => ?_⟩
  obtain ⟨i, hi, rfl⟩ := List.mem_map.1 hx
  have hi := List.mem_range.1 hi
  have h1 := hP.le i
  simp only [greatS, Bool.or_eq_true, decide_eq_true_eq]
  split
  · have := hlow i (by omega) hi; omega
  · omega

theorem own_lenx {σ : Heap} {v : PV} {l : List Int} (ho : Own 1 σ v (rowI l)) : Lenx .slice σ v = ⟨True, num l.length⟩ := by
  rcases ho.2 with ⟨rfl, hz⟩ | ⟨id, full, rfl, _⟩ | rfl
  · have : l = [] := by simpa [rowI] using hz
    subst this; simp
  · simp [rowI]
  · simp [rowI]

set_option maxRecDepth 8000 in
theorem lower_law (a : List Int) (s h : Int) (p : List Int) (f b : Int) (ha : a.length ≤ maxLen) (hp : p.length ≤ maxLen) (hf : 0 ≤ f ∧ f < 256) (hb : 0 ≤ b ∧ b < 65536) : PFun P0 7 [encI false a, num s, num h, encI false p, .lit (.int .u8 f), .lit (.int .u16 b)] (bo true) := by
  refine pcalls_body Try.func7 rfl rfl rfl (by show 6 ≤ _; decide) (pwp_goK TU_ok [18] ?_)
  by_cases h1 : (20 : Int) < a.length
  · simp (config := { contextual := true }) [ha, hp, h1]
  by_cases h2 : (20 : Int) < p.length
  · simp (config := { contextual := true }) [ha, hp, h1, h2]
  by_cases hv : validS a s h = true
  · rcases bndR_cases p hv with ⟨b1, b2, b3⟩ | ⟨b1, b2, b3⟩ | ⟨b1, b3⟩
    · have H := ok_of hv
      have hfew := H.few
      have hP := prc_of b1
      have hl := hP.len
      obtain ⟨g, hg⟩ : ∃ g : Nat, f = (g : Int) := ⟨f.toNat, by omega⟩
      subst hg
      simp [ha, hp, h1, h2, b3]
      have hrow : ∀ r ∈ rowI p, r.length = 1 ∧ ∀ c ∈ r, isCell1 c = true := fun r hr => by
        obtain ⟨v, _, rfl⟩ := List.mem_map.1 hr; exact ⟨rfl, fun c hc => by simp at hc; subst hc; rfl⟩
      refine own_append (k := 1) (b := 8) (rows := []) (new := rowI p) (zs := [num 0]) (Own.full 1 _ (by simp)) elem22 (by decide) rfl (by decide) isl22 (yv_row fun r hr => (hrow r hr).1) hrow (by simp [rowI]; omega) ?_
      intro V σ2 hV _ hm
      rw [List.nil_append] at hV hm
      obtain ⟨v1, v2⟩ := hV.sv
      rcases Nat.eq_zero_or_pos p.length with hp0 | hp0
      · have hpn : p = [] := List.length_eq_zero_iff.1 hp0
        subst hpn
        have hlx := own_lenx hV
        simp [v1, v2]
        refine pwp_loop (fun N fr σ => fr 0 = encI false a ∧ fr 1 = num s ∧ fr 2 = num h ∧ fr 5 = .lit (.int .u16 b) ∧ fr 13 = num (fS [] a.length) ∧ fr 16 = V ∧ fr 17 = bo false ∧ fr 18 = num 0 ∧ Own 1 σ V (rowI [])) (N := 0) ?_ ?_
        · simp; exact hV
        clear hV hlx
        rintro N fr σ ⟨e0, e1, e2, e5, e13, e16, e17, e18, hV⟩
        have hlx := own_lenx hV
        refine pwp_go TU_ok ?_
        simp [e0, e1, e2, e5, e13, e16, e17, e18, v1, v2, hlx]
        obtain ⟨_, ⟨rfl, _⟩ | ⟨id, full, rfl, hid⟩ | rfl⟩ := hV
        · refine pwpT_go (pwp_go TU_ok ?_)
          simp [e0, e1, e2, e5, e13, e16, e17, e18, ha, b3]
        · refine pwpT_go (pwp_frz 1 (Heap.empty.set id (.cells ([] : List PV))) (Frz.set Frz.none (by simpa [rowI] using hid)) (pwp_go TU_ok ?_))
          have hch : PV.slice full (chunks 1 0 []) = encI full [] := rfl
          simp [e0, e1, e2, e5, e13, e16, e17, e18, ha, b3, rowI, hch]
        · refine pwpT_go (pwp_go TU_ok ?_)
          have : PV.slice true (rowI []) = encI true [] := rfl
          simp [e0, e1, e2, e5, e13, e16, e17, e18, ha, b3, this]
      · obtain ⟨id, rfl, hid⟩ := hm (by intro e; have := congrArg List.length e; simp [rowI] at this; simp [this] at hp0)
        have hrl : (rowI p).length = p.length := by simp [rowI]
        rw [rowI_flat] at hid
        rw [hrl]
        simp
        refine pwp_loop (fun N fr σ => ∃ k : Nat, N = p.length - k ∧ k ≤ p.length ∧ fr 0 = encI false a ∧ fr 1 = num s ∧ fr 2 = num h ∧ fr 4 = .lit (.int .u8 g) ∧ fr 5 = .lit (.int .u16 b) ∧ fr 13 = num (fS p a.length) ∧ fr 16 = .msl id 1 0 p.length false ∧ fr 17 = bo (decide (g < k)) ∧ fr 18 = num k ∧ σ id = some (.cells ((lowL p g k b).map num)) ∧ ∀ i, g ≤ i → i < k → -576460752303423488 ≤ nf p i) (N := p.length) ?_ ?_
        · exact ⟨0, by simp [hid, lowL_zero]⟩
        clear hid hV hm v1 v2
        rintro N fr σ ⟨k, rfl, hk, e0, e1, e2, e4, e5, e13, e16, e17, e18, s1, hlow⟩
        refine pwp_go TU_ok ?_
        have wg : IntKind.i64.wrap (g : Int) = g := wrap_i64 (by omega) (by omega)
        have wb : IntKind.i64.wrap b = b := wrap_i64 (by omega) (by omega)
        by_cases hkp : k < p.length
        · have wk := wrap_succ (k := k) (by omega)
          by_cases hkg : k < g
          · have hg1 : ¬ g < k := by omega
            have hg2 : ¬ g ≤ k := by omega
            simp [e0, e1, e2, e4, e5, e13, e16, e17, e18, s1, hkp, hkg, wg, wk, hg1]
            refine ⟨p.length - (k + 1), by omega, k + 1, rfl, by omega, by omega, by omega, by rw [lowL_skip hkg], fun i h1 h2 => by omega⟩
          · have hkl : k < (lowL p g k b).length := by rw [lowL_length]; exact hkp
            have hget : (lowL p g k b)[k] = nf p k := by rw [lowL_get, if_neg (by omega)]
            by_cases hsm : nf p k < -576460752303423488
            · simp [e0, e1, e2, e4, e5, e13, e16, e17, e18, s1, hkp, hkg, wg, wk, hkl, hget, hsm, lowL_length]
            · have hb2 := hP.le k
              have wm : IntKind.i64.wrap (nf p k - b) = nf p k - b := wrap_i64 (by omega) (by omega)
              simp [e0, e1, e2, e4, e5, e13, e16, e17, e18, s1, hkp, hkg, wg, wb, wk, hkl, hget, hsm, wm, lowL_length]
              refine ⟨by omega, p.length - (k + 1), by omega, k + 1, rfl, by omega, by omega, by omega, ?_, fun i q1 q2 => ?_⟩
              · rw [← lowL_step (by omega) hkp]; exact setR_num _ _ _ hkl
              · rcases Nat.lt_or_ge i k with q3 | q3
                · exact hlow i q1 q3
                · rw [show i = k by omega]; omega
        · have hkn : k = p.length := by omega
          subst hkn
          simp [e0, e1, e2, e4, e5, e13, e16, e17, e18, s1]
          have hch := chunk_num' (n := 0) (σf := Heap.empty.set id (.cells ((lowL p g p.length b).map num))) false (lowL p g p.length b)
          rw [lowL_length] at hch
          refine pwpT_go (pwp_frz 1 (Heap.empty.set id (.cells ((lowL p g p.length b).map num))) (Frz.set Frz.none s1) (pwp_go TU_ok ?_))
          have hB := bound_low (f := g) hb.1 hl b2
          have hQ := priced_low (f := g) hb b1 hlow
          have hfs := fS_low (p := p) (f := g) (b := b) (t := p.length) (Nat.le_refl _)
          rw [hl] at hfs
          have hbn : bndR a s h (lowL p g p.length b) = .tup [num (if g < a.length then fS p a.length - b else fS p a.length), bo true, num 0] := by
            unfold bndR; rw [if_pos (by rw [hv, hQ]; rfl), if_pos hB, ← hl, fS_low (Nat.le_refl _)]
          have hf2 := hP.f a.length
          have wm : IntKind.i64.wrap (fS p a.length - b) = fS p a.length - b := wrap_i64 (by omega) (by omega)
          by_cases hgl : g < p.length
          · rw [if_pos (by omega)] at hbn
            simp [e0, e1, e2, e4, e5, e13, e16, e17, e18, hch, hbn, ha, hgl, wb, wm, lowL_length, hp]
          · rw [if_neg (by omega)] at hbn
            simp [e0, e1, e2, e4, e5, e13, e16, e17, e18, hch, hbn, ha, hgl, lowL_length, hp]
    · simp (config := { contextual := true }) [ha, hp, h1, h2, b3]
    · simp (config := { contextual := true }) [ha, hp, h1, h2, b3]
  · have b3 : bndR a s h p = .tup [num 0, bo false, num 230] := by unfold bndR; rw [if_neg (by simp [hv])]
    simp (config := { contextual := true }) [ha, hp, h1, h2, b3]
end Go.Proofs.Ytnnablbdakomlaa
