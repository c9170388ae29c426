/-
  Sizing: what the functions compute, part F: Covers and Cost.
-/
import Derived.Test.YtnnablbdakomlaaPrE
set_option linter.unusedSimpArgs false
set_option linter.unusedVariables false
namespace Go.Proofs.Ytnnablbdakomlaa
open Go.Lo

def e1 (r : List Int → EV) (args : List PV) : EV := match args with
  | [a] => ⟨isI a ∧ (r (decI a)).D, (r (decI a)).V⟩
  | _ => .no
@[simp] theorem e1_mk (r : List Int → EV) (a : PV) : e1 r [a] = gEV (isI a) (r (decI a)) := rfl
theorem e1_fun {f : FuncId} {r : List Int → EV} (k : ∀ l, l.length ≤ maxLen → (r l).D → PFun P0 f [encI false l] (r l).V) (args : List PV) (hd : (e1 r args).D) : PFun P0 f args (e1 r args).V := by
  unfold e1 at hd ⊢
  split at hd
  · obtain ⟨h1, h2⟩ := isI_le hd.1
    exact pcalls.args (k _ h2 hd.2) (.cons h1 .nil)
  · exact hd.elim

def TB : Tab := ((((((((TA.add 25 fun a _ => e3 (fun l s h => ⟨True, bo (validS l s h)⟩) a).add 39 fun a _ => e3 (fun l s h => ⟨True, bo (validS l s h)⟩) a).add 53 fun a _ => e2 (fun l m => ⟨True, bo (fitsS l m)⟩) a).add 50 fun a _ => e2 (fun l m => ⟨True, bo (fitsS l m)⟩) a).add 51
  fun a _ => e2 (fun l m => ⟨Small l m, bo (coversS l m)⟩) a).add 52 fun a _ => e4 (fun l m s h => ⟨Small l m ∧ Paid s h ∧ coversS l m = true, num (C_ l m s h m.length)⟩) a).add 40 fun a _ => e2 (fun l m => ⟨True, hIt l m⟩) a).add 15 fun a _ => e2 (fun l m => ⟨True, bo (decide (l = m))⟩) a).add 19 fun a _ => e1 (fun l => ⟨True, bo (fewS l)⟩) a
theorem TB_ok : TB.ok P0 := by
  refine Tab.add_fun (Tab.add_fun (Tab.add_fun (Tab.add_fun (Tab.add_fun (Tab.add_fun (Tab.add_fun (Tab.add_fun (Tab.add_fun TA_ok Try.call25 ?_) Try.call39 ?_) Try.call53 ?_) Try.call50 ?_) Try.call51 ?_) Try.call52 ?_) Try.call40 ?_) Try.call15 ?_) Try.call19 ?_
  · exact e3_fun fun l s h hl _ => valid19_ok false l s h hl
  · exact e3_fun fun l s h hl _ => valid23_ok false l s h hl
  · exact e2_fun fun l m hl hm _ => fits28_ok false false l m hl hm
  · exact e2_fun fun l m hl hm _ => lots30_ok false false l m hl hm
  · exact e2_fun fun l m hl hm h => covers31_ok false false l m h
  · exact e4_fun fun l m s t hl hm h => cost26_ok false false l m s t h.1 h.2.1 h.2.2
  · exact e2_fun fun l m hl hm _ => held29_ok l m
  · exact e2_fun fun l m hl hm _ => sameInts_ok false false l m hl hm
  · exact e1_fun fun l hl _ => few_ok false l
@[simp] theorem TB_dom25 : TB.dom 25 = true := rfl
@[simp] theorem TB_dom39 : TB.dom 39 = true := rfl
@[simp] theorem TB_dom53 : TB.dom 53 = true := rfl
@[simp] theorem TB_dom50 : TB.dom 50 = true := rfl
@[simp] theorem TB_dom51 : TB.dom 51 = true := rfl
@[simp] theorem TB_dom52 : TB.dom 52 = true := rfl
@[simp] theorem TB_dom40 : TB.dom 40 = true := rfl
@[simp] theorem TB_dom15 : TB.dom 15 = true := rfl
@[simp] theorem TB_dom19 : TB.dom 19 = true := rfl
@[simp] theorem TB_ev25 (a : List PV) (σ : Heap) : TB.ev 25 a σ = e3 (fun l s h => ⟨True, bo (validS l s h)⟩) a := rfl
@[simp] theorem TB_ev39 (a : List PV) (σ : Heap) : TB.ev 39 a σ = e3 (fun l s h => ⟨True, bo (validS l s h)⟩) a := rfl
@[simp] theorem TB_ev53 (a : List PV) (σ : Heap) : TB.ev 53 a σ = e2 (fun l m => ⟨True, bo (fitsS l m)⟩) a := rfl
@[simp] theorem TB_ev50 (a : List PV) (σ : Heap) : TB.ev 50 a σ = e2 (fun l m => ⟨True, bo (fitsS l m)⟩) a := rfl
@[simp] theorem TB_ev51 (a : List PV) (σ : Heap) : TB.ev 51 a σ = e2 (fun l m => ⟨Small l m, bo (coversS l m)⟩) a := rfl
@[simp] theorem TB_ev52 (a : List PV) (σ : Heap) : TB.ev 52 a σ = e4 (fun l m s h => ⟨Small l m ∧ Paid s h ∧ coversS l m = true, num (C_ l m s h m.length)⟩) a := rfl
@[simp] theorem TB_ev40 (a : List PV) (σ : Heap) : TB.ev 40 a σ = e2 (fun l m => ⟨True, hIt l m⟩) a := rfl
@[simp] theorem TB_ev15 (a : List PV) (σ : Heap) : TB.ev 15 a σ = e2 (fun l m => ⟨True, bo (decide (l = m))⟩) a := rfl
@[simp] theorem TB_ev19 (a : List PV) (σ : Heap) : TB.ev 19 a σ = e1 (fun l => ⟨True, bo (fewS l)⟩) a := rfl
@[simp] theorem sv_hIt (l m : List Int) : sv (hIt l m) = hIt l m := rfl
@[simp] theorem avt_hIt (l m : List Int) : avt (hIt l m) = True := rfl

theorem covers15_ok (need l : List Int) (hn : need.length ≤ maxLen) (hl : l.length ≤ maxLen) : PFun P0 38 [encI false need, encI false l] (coverR need l) := by
  refine pcalls_body Try.func38 rfl rfl rfl (by show 2 ≤ _; decide) (pwp_go TB_ok ?_)
  unfold coverR
  by_cases h1 : validS need 0 0 = true
  · by_cases h2 : fitsS need l = true
    · simp (config := { contextual := true }) [hn, hl, h1, h2]
      intro id4 id5 h54
      have hS := small_of h1 h2
      refine pwp_rangeT TB_ok (fun k σ => σ id4 = some (.cells [bo false]) ∧ σ id5 = some (.cells [num 0]) ∧ covTo need l k = true) (heldIt hS) (by simp; rfl) Try.call55 (fun v hv => by obtain ⟨d, _, rfl⟩ := List.mem_map.1 hv; rfl) (by decide)
        (by simp [h54, covTo]) ?_ ?_
      · rintro k σ hk ⟨s4, s5, hc⟩
        rw [hVs_get hk]
        rw [hVs_length] at hk
        have hkl : k < l.length := by have := hS.len; omega
        simp [s4, s5, h54, h1, h2, covTo_succ, hc]
        exact fun h => covTo_false hkl (by omega)
      · rintro σ ⟨s4, s5, hc⟩
        rw [hVs_length, hS.len] at hc
        simp [s4, s5, h54, h1, h2, coversS, hc]
    · simp (config := { contextual := true }) [hn, hl, h1, h2]
  · simp (config := { contextual := true }) [hn, hl, h1]

/-! ### Cost -/
def costR (need l : List Int) (s h : Int) : PV := if validS need s h && fitsS need l && coversS need l then .tup [num (C_ need l s h l.length), num 0] else .tup [num 0, num 220]
def TC : Tab := TB.add 38 fun a _ => e2 (fun l m => ⟨True, coverR l m⟩) a
theorem TC_ok : TC.ok P0 := Tab.add_fun TB_ok Try.call38 (e2_fun fun l m hl hm _ => covers15_ok l m hl hm)
@[simp] theorem TC_dom38 : TC.dom 38 = true := rfl
@[simp] theorem TC_dom39 : TC.dom 39 = true := rfl
@[simp] theorem TC_dom40 : TC.dom 40 = true := rfl
@[simp] theorem TC_ev38 (a : List PV) (σ : Heap) : TC.ev 38 a σ = e2 (fun l m => ⟨True, coverR l m⟩) a := rfl
@[simp] theorem TC_ev39 (a : List PV) (σ : Heap) : TC.ev 39 a σ = e3 (fun l s h => ⟨True, bo (validS l s h)⟩) a := rfl
@[simp] theorem TC_ev40 (a : List PV) (σ : Heap) : TC.ev 40 a σ = e2 (fun l m => ⟨True, hIt l m⟩) a := rfl
theorem valid00 {need : List Int} {s h : Int} (h1 : validS need s h = true) : validS need 0 0 = true := by
  simp only [validS, Bool.and_eq_true, decide_eq_true_eq] at h1 ⊢
  exact ⟨h1.1, ⟨h1.2.1.1, rfl⟩, rfl⟩
theorem cost18_ok (need l : List Int) (s h : Int) (hn : need.length ≤ maxLen) (hl : l.length ≤ maxLen) : PFun P0 37 [encI false need, encI false l, num s, num h] (costR need l s h) := by
  refine pcalls_body Try.func37 rfl rfl rfl (by show 4 ≤ _; decide) (pwp_go TB_ok ?_)
  unfold costR
  by_cases h1 : validS need s h = true
  · by_cases h2 : fitsS need l = true
    · by_cases h3 : coversS need l = true
      · simp [hn, hl, h1, h2, h3, small_of h1 h2, paid_of h1]
      · simp [hn, hl, h1, h2, h3, small_of h1 h2]
    · simp [hn, hl, h1, h2]
  · simp [hn, hl, h1]

theorem cost17_ok (need l : List Int) (s h : Int) (hn : need.length ≤ maxLen) (hl : l.length ≤ maxLen) : PFun P0 18 [encI false need, encI false l, num s, num h] (costR need l s h) := by
  refine pcalls_body Try.func18 rfl rfl rfl (by show 4 ≤ _; decide) (pwp_go TC_ok ?_)
  unfold costR
  by_cases h1 : validS need s h = true
  · have h0 := valid00 h1
    by_cases h2 : fitsS need l = true
    · by_cases h3 : coversS need l = true
      · have hc : coverR need l = .tup [bo true, num 0] := by simp [coverR, h0, h2, h3]
        simp (config := { contextual := true }) [hn, hl, h1, h2, h3, hc]
        intro id5 id6 a1 id7 a2 a3 id8 a4 a5 a6
        have hS := small_of h1 h2
        have hp := paid_of h1
        refine pwp_rangeT TC_ok (fun k σ => σ id5 = some (.cells [encI false l]) ∧ σ id6 = some (.cells [num s]) ∧ σ id7 = some (.cells [num h]) ∧ σ id8 = some (.cells [num (C_ need l s h k)])) (heldIt hS) (by simp; rfl) Try.call55 (fun v hv => by obtain ⟨d, _, rfl⟩ := List.mem_map.1 hv; rfl) (by decide)
          (by simp [a1, a2, a3, a4, a5, a6, C_, costF, sumTo]) ?_ ?_
        · rintro k σ hk ⟨s5, s6, s7, s8⟩
          rw [hVs_get hk]
          rw [hVs_length] at hk
          have hkl : k < l.length := by have := hS.len; omega
          have hf := hS.few
          have c1 := hS.paid hp h3 (show k ≤ l.length by omega)
          have c2 := hS.paid hp h3 (show k + 1 ≤ l.length by omega)
          have q1 := (coversS_iff need l).1 h3 k hkl
          have q2 : 0 ≤ h * S_ need l (k + 1) ∧ h * S_ need l (k + 1) ≤ 1125899906842624 := mul_bound hp.h ⟨q1, (hS.bound (show k + 1 ≤ 16 by omega)).2⟩
          have q3 := hp.s
          have w3 : IntKind.i64.wrap (h * S_ need l (k + 1)) = h * S_ need l (k + 1) := wrap_i64 (by omega) (by omega)
          have w4 : IntKind.i64.wrap (C_ need l s h k + h * S_ need l (k + 1)) = C_ need l s h k + h * S_ need l (k + 1) := wrap_i64 (by omega) (by omega)
          by_cases hz : l[k] = 0
          · simp [s5, s6, s7, s8, a1, a2, a3, a4, a5, a6, hkl, IAx_encI, hz, w3, w4]
            rw [C_succ, nf_get hkl, if_neg (by simp [hz])]; omega
          · have w5 : IntKind.i64.wrap (C_ need l s h k + h * S_ need l (k + 1) + s) = C_ need l s h k + h * S_ need l (k + 1) + s := wrap_i64 (by omega) (by omega)
            simp [s5, s6, s7, s8, a1, a2, a3, a4, a5, a6, hkl, IAx_encI, hz, w3, w4, w5]
            rw [C_succ, nf_get hkl, if_pos hz]; omega
        · rintro σ ⟨s5, s6, s7, s8⟩
          rw [hVs_length, hS.len] at s8
          simp [s5, s6, s7, s8, a1, a2, a3, a4, a5, a6, h1, h2, h3]
      · have hc : coverR need l = .tup [bo false, num 0] := by simp [coverR, h0, h2, h3]
        simp (config := { contextual := true }) [hn, hl, h1, h2, h3, hc]
    · have hc : coverR need l = .tup [bo false, num 220] := by simp [coverR, h2]
      simp (config := { contextual := true }) [hn, hl, h1, h2, hc]
  · by_cases h2 : validS need 0 0 = true ∧ fitsS need l = true
    · by_cases h3 : coversS need l = true
      · have hc : coverR need l = .tup [bo true, num 0] := by simp [coverR, h2, h3]
        simp (config := { contextual := true }) [hn, hl, h1, h3, hc]
      · have hc : coverR need l = .tup [bo false, num 0] := by simp [coverR, h2, h3]
        simp (config := { contextual := true }) [hn, hl, h1, h3, hc]
    · have hc : coverR need l = .tup [bo false, num 220] := by unfold coverR; rw [if_neg]; simpa using h2
      simp (config := { contextual := true }) [hn, hl, h1, hc]
end Go.Proofs.Ytnnablbdakomlaa
