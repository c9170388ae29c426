/-
  Sizing: the contract of the law SizingSets.
-/
import Derived.Test.YtccjejfdhhnhjaaSzN
set_option linter.unusedSimpArgs false
set_option linter.unusedVariables false
namespace Go.Proofs.Ytccjejfdhhnhjaa
open Go.Lo

@[simp] theorem conv373 (k : IntKind) (n : Int) : evConv P0 37 3 (.lit (.int k n)) = ⟨True, .lit (.int .i64 (IntKind.i64.wrap n))⟩ := evConv_int 37 3 k .i64 n (by kernel_rfl) (by kernel_rfl)
@[simp] theorem conv53 (k : IntKind) (n : Int) : evConv P0 5 3 (.lit (.int k n)) = ⟨True, .lit (.int .i64 (IntKind.i64.wrap n))⟩ := evConv_int 5 3 k .i64 n (by kernel_rfl) (by kernel_rfl)
theorem and_mask {x n M : Nat} (hM : M = 2 ^ n) (hM2 : M ≤ 65536) (hx : x < 65536) : andI .i64 (x : Int) ((M - 1 : Nat) : Int) = ((x % M : Nat) : Int) := by
  have h0 : 0 < M := by rw [hM]; exact Nat.two_pow_pos n
  have h1 : x % M < M := Nat.mod_lt _ h0
  unfold andI
  rw [show IntKind.i64.bits = 64 from rfl]
  have e2 : (BitVec.ofInt 64 (x : Int) &&& BitVec.ofInt 64 ((M - 1 : Nat) : Int)).toNat = x % M := by
    rw [BitVec.toNat_and, BitVec.ofInt_natCast, BitVec.ofInt_natCast, BitVec.toNat_ofNat, BitVec.toNat_ofNat, Nat.mod_eq_of_lt (by omega), Nat.mod_eq_of_lt (by omega), hM, Nat.and_two_pow_sub_one_eq_mod]
  rw [e2, wrap_i64 (by omega) (by omega)]

theorem lots_bit {need : List Int} {S : Nat → Bool} (hp : posB need S = true) {d : Nat} (hd : d < need.length) : (nf (lotsL need S) d != 0) = S d := by
  rw [nf_lotsL]
  cases e : S d with
  | true => have := ((posB_iff need S).1 hp).2 d hd e; simp [this]
  | false => rw [lotsTo_out (.inr e)]; rfl

set_option maxRecDepth 8000 in
theorem sets_law (need : List Int) (s h x : Int) (hn : need.length ≤ maxLen) (hx : 0 ≤ x ∧ x < 65536) : PFun P0 6 [encI false need, num s, num h, .lit (.int .u16 x)] (bo true) := by
  refine pcalls_body Try.func6 rfl rfl rfl (by show 4 ≤ _; decide) (pwp_go TU_ok ?_)
  by_cases hv : validS need s h = true
  · have H := ok_of hv
    have hf := H.few
    obtain ⟨f1, f2⟩ := size_facts hv
    have hLl : (lotsL need (bestS need s h)).length ≤ maxLen := by rw [lotsL_length]; exact hn
    obtain ⟨M, hM⟩ : ∃ M, M = 2 ^ need.length := ⟨_, rfl⟩
    obtain ⟨hsh, hM2⟩ := shl_one hf hM
    have hM0 : 0 < M := by rw [hM]; exact Nat.two_pow_pos _
    obtain ⟨y, rfl⟩ : ∃ y : Nat, x = (y : Int) := ⟨x.toNat, by omega⟩
    have w0 : IntKind.i64.wrap (y : Int) = y := wrap_i64 (by omega) (by omega)
    have w1 : IntKind.i64.wrap ((M : Int) - 1) = ((M - 1 : Nat) : Int) := by rw [wrap_i64 (by omega) (by omega)]; omega
    have hmask := and_mask (x := y) hM hM2 (by omega)
    obtain ⟨m, hm⟩ : ∃ m, m = y % M := ⟨_, rfl⟩
    rw [← hm] at hmask
    have hmM : m < M := by rw [hm]; exact Nat.mod_lt _ hM0
    have hex : ∃ s h, Ok need s h := ⟨s, h, H⟩
    have hm6 : (m : Int) < 65536 := by omega
    have hnl : (need.length : Int) ≤ 16 := by omega
    cases hp : posB need m.testBit with
    | false =>
      have hof : ofR need m = .tup [.lit (.slice none 0 0), bo false] := by unfold ofR; rw [hp]; rfl
      simp (config := { contextual := true }) [hn, hv, sizeR_ok hv, hsh, w0, w1, hmask, hof, hex, hm6, hnl]
    | true =>
      have hof : ofR need m = .tup [encI true (lotsL need m.testBit), bo true] := by unfold ofR; rw [hp]; rfl
      obtain ⟨q1, q2, q3⟩ := pos_small H hp
      have hcr := costR_ok hv q1 q2
      rw [lotsL_length, q3] at hcr
      have hP := (posB_iff _ _).1 hp
      have hge := hP.ge (setup := s) (hold := h) H.nonneg H.paid.s.1 H.paid.h.1
      have htie := best_tie (setup := s) (hold := h) H.nonneg H.paid.s.1 H.paid.h.1 need.length hP
      have hml : (lotsL need m.testBit).length ≤ maxLen := by rw [lotsL_length]; exact hn
      generalize costF (nf need) (lotsTo (nf need) m.testBit need.length) s h need.length = X at *
      have hX : ¬ X < price (nf need) s h need.length := by omega
      simp (config := { contextual := true }) [hn, hv, sizeR_ok hv, hsh, w0, w1, hmask, hof, hex, hm6, hnl, hcr, hml, hX, lotsL_length]
      intro id hXp
      have hXe : X = price (nf need) s h need.length := by omega
      have htie := htie hXe
      obtain ⟨G, hG⟩ : ∃ G, bestS need s h = G := ⟨_, rfl⟩
      have hG' : ∀ d, best (nf need) s h need.length d = G d := fun d => by rw [← hG]; rfl
      simp only [hG'] at htie
      rw [hG]
      have hgp : posB need G = true := by rw [← hG]; exact best_posB H
      have w2 : IntKind.i64.wrap ((need.length : Int) - 1) = (need.length : Int) - 1 := wrap_i64 (by omega) (by omega)
      refine pwp_loop (fun N fr σ => ∃ c : Nat, N = c ∧ c ≤ need.length ∧ fr 9 = .ptr id 0 ∧ fr 11 = encI true (lotsL need m.testBit) ∧ fr 15 = num ((c : Int) - 1) ∧
        σ id = some (.cells [encI true (lotsL need G), num (price (nf need) s h need.length), encI false (pricesL need s h)]) ∧ ∀ u, c ≤ u → u < need.length → m.testBit u = G u) (N := need.length) ?_ ?_
      · refine ⟨need.length, rfl, Nat.le_refl _, ?_⟩
        simp [w2, hG]
        intro u h1 h2; omega
      rintro c fr σ ⟨_, rfl, hc, e9, e11, e15, s9, hsame⟩
      refine pwp_go TU_ok ?_
      rcases Nat.eq_zero_or_pos c with h0 | h0
      · subst h0
        have heq : lotsL need m.testBit = lotsL need G := by
          unfold lotsL
          refine List.map_congr_left fun d _ => lotsTo_congr (fun u hu => hsame u (Nat.zero_le _) hu) d
        have hml' : (lotsL need G).length ≤ maxLen := by rw [← heq]; exact hml
        simp [e9, e11, e15, s9, hml', heq]
      · obtain ⟨t, rfl⟩ : ∃ t, c = t + 1 := ⟨c - 1, by omega⟩
        have e15' : fr 15 = num (t : Int) := by rw [e15]; congr 2; omega
        have ht : t < need.length := by omega
        have w3 : IntKind.i64.wrap ((t : Int) - 1) = (t : Int) - 1 := wrap_i64 (by omega) (by omega)
        have ht1 : t < (lotsL need m.testBit).length := by rw [lotsL_length]; exact ht
        have ht2 : t < (lotsL need G).length := by rw [lotsL_length]; exact ht
        have z1 := lots_bit hp ht
        have z2 := lots_bit hgp ht
        rw [nf_get ht1] at z1
        rw [nf_get ht2] at z2
        simp [e9, e11, e15', s9]
        refine pwp_drawT TU_ok 11 mixed (by kernel_rfl) ?_
        cases b1 : m.testBit t <;> cases b2 : G t <;> rw [b1] at z1 <;> rw [b2] at z2
        · simp [e9, e11, e15', s9, ht1, ht2, IAx_encI, z1, z2, w3]
          refine ⟨t, by omega, by omega, rfl, fun u h1 h2 => ?_⟩
          rcases Nat.eq_or_lt_of_le h1 with e | h3
          · rw [← e, b1, b2]
          · exact hsame u (by omega) h2
        · simp [e9, e11, e15', s9, ht1, ht2, IAx_encI, z1, z2, w3]
        · exfalso
          rcases htie with h1 | ⟨d, d1, d2, d3, d4⟩
          · rw [h1 t ht, b2] at b1; cases b1
          · rcases Nat.lt_trichotomy d t with q | q | q
            · rw [d4 t q ht, b2] at b1; cases b1
            · subst q; rw [d2] at b1; cases b1
            · rw [hsame d (by omega) d1, d3] at d2; cases d2
        · simp [e9, e11, e15', s9, ht1, ht2, IAx_encI, z1, z2, w3]
          refine ⟨t, by omega, by omega, rfl, fun u h1 h2 => ?_⟩
          rcases Nat.eq_or_lt_of_le h1 with e | h3
          · rw [← e, b1, b2]
          · exact hsame u (by omega) h2
  · simp (config := { contextual := true }) [hn, hv, sizeR_no hv]
end Go.Proofs.Ytccjejfdhhnhjaa
