/-
  Prices: the laws' contracts: BoundSpec, CheckSpec, Least, One.
-/
import Derived.Test.YtnnablbdakomlaaPrV
set_option linter.unusedSimpArgs false
set_option linter.unusedVariables false
namespace Go.Proofs.Ytnnablbdakomlaa
open Go.Lo

noncomputable def TU : Tab := TT.add 10 fun args _ => ⟨args = [], bo true⟩
theorem TU_ok : TU.ok P0 := Tab.add_fun TT_ok Try.call10 fun args h => by subst h; exact sane_ok
@[simp] theorem TU_dom10 : TU.dom 10 = true := rfl
@[simp] theorem TU_dom11 : TU.dom 11 = true := rfl
@[simp] theorem TU_dom12 : TU.dom 12 = true := rfl
@[simp] theorem TU_dom13 : TU.dom 13 = true := rfl
@[simp] theorem TU_dom14 : TU.dom 14 = true := rfl
@[simp] theorem TU_dom15 : TU.dom 15 = true := rfl
@[simp] theorem TU_dom16 : TU.dom 16 = true := rfl
@[simp] theorem TU_dom17 : TU.dom 17 = true := rfl
@[simp] theorem TU_dom18 : TU.dom 18 = true := rfl
@[simp] theorem TU_dom19 : TU.dom 19 = true := rfl
@[simp] theorem TU_dom20 : TU.dom 20 = true := rfl
@[simp] theorem TU_dom21 : TU.dom 21 = true := rfl
@[simp] theorem TU_ev10 (σ : Heap) : TU.ev 10 [] σ = ⟨True, bo true⟩ := by show (⟨([] : List PV) = [], bo true⟩ : EV) = _; simp
@[simp] theorem TU_ev11 (a : List PV) (σ : Heap) : TU.ev 11 a σ = q4 (fun a s h p => ⟨True, bndR a s h p⟩) a := rfl
@[simp] theorem TU_ev12 (a : List PV) (σ : Heap) : TU.ev 12 a σ = q4 (fun a s h p => ⟨True, bndR a s h p⟩) a := rfl
@[simp] theorem TU_ev13 (a : List PV) (σ : Heap) : TU.ev 13 a σ = q4 (fun a s h p => ⟨True, tightR a s h p⟩) a := rfl
@[simp] theorem TU_ev14 (a : List PV) (σ : Heap) : TU.ev 14 a σ = q4 (fun a s h p => ⟨True, tightR a s h p⟩) a := rfl
@[simp] theorem TU_ev15 (a : List PV) (σ : Heap) : TU.ev 15 a σ = e2 (fun l m => ⟨True, bo (decide (l = m))⟩) a := rfl
@[simp] theorem TU_ev16 (a : List PV) (σ : Heap) : TU.ev 16 a σ = k5 (fun a s h L c p => ⟨True, checkR a s h L c p⟩) a := rfl
@[simp] theorem TU_ev17 (a : List PV) (σ : Heap) : TU.ev 17 a σ = k5 (fun a s h L c p => ⟨True, checkR a s h L c p⟩) a := rfl
@[simp] theorem TU_ev18 (a : List PV) (σ : Heap) : TU.ev 18 a σ = e4 (fun l m s h => ⟨True, costR l m s h⟩) a := rfl
@[simp] theorem TU_ev19 (a : List PV) (σ : Heap) : TU.ev 19 a σ = e1 (fun l => ⟨True, bo (fewS l)⟩) a := rfl
@[simp] theorem TU_ev20 (a : List PV) (σ : Heap) : TU.ev 20 a σ = e3 (fun l s h => ⟨True, sizeR l s h⟩) a := rfl
@[simp] theorem TU_ev21 (a : List PV) (σ : Heap) : TU.ev 21 a σ = l1 (fun l x => ⟨True, bo (l.any fun y => decide (y = x))⟩) a := rfl

theorem bndR_some (a : List Int) (s h : Int) (p : List Int) : ∃ x y e, bndR a s h p = .tup [num x, bo y, num e] := by
  unfold bndR; split; split <;> exact ⟨_, _, _, rfl⟩; exact ⟨_, _, _, rfl⟩
theorem ints_tiS (a : List Int) (s h : Int) (p : List Int) (ha : a.length ≤ maxLen) : (ints (tiS a s h p)).length ≤ maxLen := by
  have := tiS_length a s h p
  simp only [ints, List.length_map]; omega
theorem tightR_cases {a : List Int} {s h : Int} {p : List Int} (ha : a.length ≤ maxLen) : ∃ v e, tightR a s h p = .tup [v, num e] ∧ isI v ∧ sv v = v ∧ avt v = True := by
  unfold tightR
  split
  · exact ⟨_, _, rfl, by rw [isI_enc]; exact ints_tiS a s h p ha, rfl, rfl⟩
  · exact ⟨_, _, rfl, trivial, rfl, rfl⟩

set_option maxRecDepth 8000 in
theorem boundSpec_law (a : List Int) (s h : Int) (p : List Int) (ha : a.length ≤ maxLen) (hp : p.length ≤ maxLen) : PFun P0 3 [encI false a, num s, num h, encI false p] (bo true) := by
  refine pcalls_body Try.func3 rfl rfl rfl (by show 4 ≤ _; decide) (pwp_go TU_ok ?_)
  by_cases h1 : (20 : Int) < a.length
  · simp (config := { contextual := true }) [ha, hp, h1]
  · by_cases h2 : (20 : Int) < p.length
    · simp (config := { contextual := true }) [ha, hp, h1, h2]
    · obtain ⟨x, y, e, k1⟩ := bndR_some a s h p
      obtain ⟨v, f, k2, k3, k4, k5⟩ := tightR_cases (a := a) (s := s) (h := h) (p := p) ha
      simp (config := { contextual := true }) [ha, hp, h1, h2, k1, k2, k3, k4, k5]

set_option maxRecDepth 8000 in
theorem checkSpec_law (a : List Int) (s h : Int) (L : List Int) (c : Int) (p : List Int) (ha : a.length ≤ maxLen) (hL : L.length ≤ maxLen) (hp : p.length ≤ maxLen) : PFun P0 4 [encI false a, num s, num h, .agg [encI false L, num c, encI false p]] (bo true) := by
  refine pcalls_body Try.func4 rfl rfl rfl (by show 4 ≤ _; decide) (pwp_go TU_ok ?_)
  obtain ⟨x, e, k1⟩ : ∃ x e, checkR a s h L c p = .tup [bo x, num e] := by unfold checkR; split <;> exact ⟨_, _, rfl⟩
  by_cases h1 : (20 : Int) < a.length
  · simp (config := { contextual := true }) [ha, hp, hL, h1]
  · by_cases h2 : (20 : Int) < L.length
    · simp (config := { contextual := true }) [ha, hp, hL, h1, h2]
    · by_cases h3 : (20 : Int) < p.length
      · simp (config := { contextual := true }) [ha, hp, hL, h1, h2, h3]
      · simp (config := { contextual := true }) [ha, hp, hL, h1, h2, h3, k1]

theorem bound_le {a : List Int} {s h : Int} {p : List Int} (hb : boundS a s h p = true) : fS p a.length ≤ price (nf a) s h a.length :=
  proof_le (fS_zero p) (boundS_iff.1 hb) a.length (Nat.le_refl _)
set_option maxRecDepth 8000 in
theorem least_law (a L : List Int) (s h : Int) (p : List Int) (ha : a.length ≤ maxLen) (hL : L.length ≤ maxLen) (hp : p.length ≤ maxLen) : PFun P0 5 [encI false a, encI false L, num s, num h, encI false p] (bo true) := by
  refine pcalls_body Try.func5 rfl rfl rfl (by show 5 ≤ _; decide) (pwp_go TU_ok ?_)
  by_cases h1 : (20 : Int) < a.length
  · simp (config := { contextual := true }) [ha, hp, hL, h1]
  · by_cases h2 : (20 : Int) < L.length
    · simp (config := { contextual := true }) [ha, hp, hL, h1, h2]
    · by_cases h3 : (20 : Int) < p.length
      · simp (config := { contextual := true }) [ha, hp, hL, h1, h2, h3]
      · by_cases hv : validS a s h = true
        · rcases bndR_cases p hv with ⟨b1, b2, b3⟩ | ⟨b1, b2, b3⟩ | ⟨b1, b3⟩
          · have hb := bound_le b2
            rcases cost_any a L s h with ⟨e, he, k⟩ | ⟨n, k, hn⟩
            · simp (config := { contextual := true }) [ha, hp, hL, h1, h2, h3, b3, k, he]
            · have hle : fS p a.length ≤ n := Int.le_trans hb hn
              simp (config := { contextual := true }) [ha, hp, hL, h1, h2, h3, b3, k, hle]
          · rcases cost_any a L s h with ⟨e, he, k⟩ | ⟨n, k, hn⟩
            · simp (config := { contextual := true }) [ha, hp, hL, h1, h2, h3, b3, k, he]
            · simp (config := { contextual := true }) [ha, hp, hL, h1, h2, h3, b3, k]
          · rcases cost_any a L s h with ⟨e, he, k⟩ | ⟨n, k, hn⟩
            · simp (config := { contextual := true }) [ha, hp, hL, h1, h2, h3, b3, k, he]
            · simp (config := { contextual := true }) [ha, hp, hL, h1, h2, h3, b3, k]
        · have b3 : bndR a s h p = .tup [num 0, bo false, num 230] := by unfold bndR; rw [if_neg (by simp [hv])]
          rcases cost_any a L s h with ⟨e, he, k⟩ | ⟨n, k, hn⟩
          · simp (config := { contextual := true }) [ha, hp, hL, h1, h2, h3, b3, k, he]
          · simp (config := { contextual := true }) [ha, hp, hL, h1, h2, h3, b3, k]

/-- What is accepted costs the least. -/
theorem check_price {a : List Int} {s h : Int} {L : List Int} {c : Int} {p : List Int} (hk : checkB a s h L c p = true) : c = price (nf a) s h a.length := by
  unfold checkB lastB costB at hk
  simp only [Bool.and_eq_true, decide_eq_true_eq] at hk
  obtain ⟨⟨_, ⟨⟨hv, hf⟩, hc⟩, he⟩, hb, hl⟩ := hk
  have H := ok_of hv
  have hS := small_of hv hf
  have h1 := bound_le hb
  have h2 := cost_ge (need := nf a) (lots := nf L) H.nonneg H.paid.s.1 H.paid.h.1 L.length ((coversS_iff a L).1 hc)
  have h3 : costF (nf a) (nf L) s h L.length = c := he
  rw [← hS.len] at h2 h3
  omega
set_option maxRecDepth 8000 in
theorem one_law (a : List Int) (s h : Int) (L : List Int) (c : Int) (p : List Int) (L' : List Int) (c' : Int) (p' l : List Int) (ha : a.length ≤ maxLen) (hL : L.length ≤ maxLen) (hp : p.length ≤ maxLen) (hL' : L'.length ≤ maxLen) (hp' : p'.length ≤ maxLen) (hl : l.length ≤ maxLen) :
    PFun P0 6 [encI false a, num s, num h, .agg [encI false L, num c, encI false p], .agg [encI false L', num c', encI false p'], encI false l] (bo true) := by
  refine pcalls_body Try.func6 rfl rfl rfl (by show 6 ≤ _; decide) (pwp_go TU_ok ?_)
  by_cases h1 : (20 : Int) < a.length
  · simp (config := { contextual := true }) [ha, hp, hL, h1]
  by_cases h2 : (20 : Int) < L.length
  · simp (config := { contextual := true }) [ha, hp, hL, h1, h2]
  by_cases h3 : (20 : Int) < p.length
  · simp (config := { contextual := true }) [ha, hp, hL, h1, h2, h3]
  by_cases h4 : (20 : Int) < L'.length
  · simp (config := { contextual := true }) [ha, hp, hL, h1, h2, h3, h4]
  by_cases h5 : (20 : Int) < p'.length
  · simp (config := { contextual := true }) [ha, hp, hL, h1, h2, h3, h4, h5]
  by_cases h6 : (20 : Int) < l.length
  · simp (config := { contextual := true }) [ha, hp, hL, h1, h2, h3, h4, h5, h6]
  by_cases hv : validS a s h = true
  · have k1 : checkR a s h L c p = .tup [bo (checkB a s h L c p), num 0] := by unfold checkR; rw [if_pos hv]
    have k2 : checkR a s h L' c' p' = .tup [bo (checkB a s h L' c' p'), num 0] := by unfold checkR; rw [if_pos hv]
    cases q1 : checkB a s h L c p with
    | false =>
      rw [q1] at k1
      simp (config := { contextual := true }) [ha, hp, hL, hL', hp', hl, h1, h2, h3, h4, h5, h6, k1, k2]
    | true =>
      have e1 := check_price q1
      rw [q1] at k1
      cases q2 : checkB a s h L' c' p' with
      | true =>
        have e2 := check_price q2
        rw [q2] at k2
        have hcc : c' = c := by omega
        subst hcc
        rcases cost_any a l s h with ⟨e, he, k⟩ | ⟨n, k, hn⟩
        · simp (config := { contextual := true }) [ha, hp, hL, hL', hp', hl, h1, h2, h3, h4, h5, h6, k1, k2, k, he]
        · have hle : c' ≤ n := by omega
          simp (config := { contextual := true }) [ha, hp, hL, hL', hp', hl, h1, h2, h3, h4, h5, h6, k1, k2, k, hle]
      | false =>
        rw [q2] at k2
        rcases cost_any a l s h with ⟨e, he, k⟩ | ⟨n, k, hn⟩
        · simp (config := { contextual := true }) [ha, hp, hL, hL', hp', hl, h1, h2, h3, h4, h5, h6, k1, k2, k, he]
        · have hle : c ≤ n := by omega
          simp (config := { contextual := true }) [ha, hp, hL, hL', hp', hl, h1, h2, h3, h4, h5, h6, k1, k2, k, hle]
  · have k1 : checkR a s h L c p = .tup [bo false, num 230] := by unfold checkR; rw [if_neg hv]
    have k2 : checkR a s h L' c' p' = .tup [bo false, num 230] := by unfold checkR; rw [if_neg hv]
    simp (config := { contextual := true }) [ha, hp, hL, hL', hp', hl, h1, h2, h3, h4, h5, h6, k1, k2]
end Go.Proofs.Ytnnablbdakomlaa
