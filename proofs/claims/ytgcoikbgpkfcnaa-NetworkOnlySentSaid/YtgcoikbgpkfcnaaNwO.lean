/-
  Network: what the functions compute, part O: sane.
-/
import Derived.Test.YtgcoikbgpkfcnaaNwN
set_option linter.unusedSimpArgs false
set_option linter.unusedVariables false
namespace Go.Proofs.Ytgcoikbgpkfcnaa
open Go.Lo

@[simp] theorem decB_one (b : Bool) (x : Int) : decB (.slice b [[u8 x]]) = [x] := rfl
@[simp] theorem isBs_one (b : Bool) (x : Int) : isBs (.slice b [[u8 x]]) = True := eq_true ⟨[x], rfl, by simp [maxLen]⟩
def kP : Pk := ⟨1, 3, [7]⟩
set_option maxHeartbeats 4000000 in
set_option maxRecDepth 8000 in
theorem sane9_ok : PFun P0 9 [] (bo true) := by
  refine pcalls_body Try.func9 rfl rfl rfl (by show 0 ≤ _; decide) (pwp_go TN_ok ?_)
  have d0 : deliverN nt0 0 = (pk0, nt0, 1) := by decide +kernel
  have s1 : sendN nt0 ⟨3, 3, []⟩ = (nt0, 460) := by decide +kernel
  have c1 : cutN nt0 2 2 true = (nt0, 1) := by decide +kernel
  obtain ⟨N1, s2, r1, hs, o1, N2, r2, o2, c2, o3, d2, d3⟩ : ∃ N1, sendN nt0 ⟨1, 3, [7]⟩ = (N1, 0) ∧ N1.a = N1.a ∧ sameN N1 N1 = true ∧ okN N1 ∧ ∃ N2, repeatN N1 0 = (N2, 0) ∧ okN N2 ∧ cutN N2 3 1 true = (⟨N2.q, [(1, 3)]⟩, 0) ∧ N2.q.length = 2 ∧ deliverN N2 0 = (kP, N1, 0) ∧ ∃ m, deliverN ⟨N2.q, [(1, 3)]⟩ 1 = (pk0, m, 0) :=
    ⟨⟨[kP], []⟩, by decide +kernel, rfl, sameN_refl _, ⟨⟨by simp [okP, kP, maxLen], by simp [maxLen]⟩, by simp [maxLen]⟩, ⟨[kP, kP], []⟩, by decide +kernel, ⟨⟨by simp [okP, kP, maxLen], by simp [maxLen]⟩, by simp [maxLen]⟩, by decide +kernel, rfl, by decide +kernel, ⟨[kP], [(1, 3)]⟩, by decide +kernel⟩
  obtain ⟨N4, d3⟩ := d3
  have hv : vN nt0 = true := vN_zero
  have k1 : sameP ⟨1, 3, [7]⟩ kP = true := sameP_refl kP
  have k2 : sameP pk0 pk0 = true := sameP_refl pk0
  have o0 := okN_zero
  have z1 := o0.1
  have z2 := o0.2
  have y1 := o1.1
  have y2 := o1.2
  have x1 := o2.1
  have x2 := o2.2
  have e1 : 1 ≤ maxLen := by decide
  have e2 : IAx (some (none, 2, true)) (encA false [(1, 3)]) (num 0) = ⟨True, .ref (rowL (1, 3))⟩ := IAx_encA (l := [((1 : Int), (3 : Int))]) (k := 0) .i64 (by decide)
  have p0 := okP_zero
  have p1 : okP kP := by simp [okP, kP, maxLen]
  unfold okP at p0 p1
  simp (config := { contextual := true }) [netC, rowK, sendV, cutV, deliverV, repeatV, neV, chkR, d0, s1, c1, s2, r2, c2, d2, d3, hs, hv, k1, k2, z1, z2, y1, y2, x1, x2, p0, p1, o3, e1, e2, rowL]
def TP : Tab := TN.add 9 fun a _ => n0 (bo true) a
theorem TP_ok : TP.ok P0 := Tab.add_fun TN_ok Try.call9 (n0_fun sane9_ok)
@[simp] theorem TP_dom9 : TP.dom 9 = true := rfl
@[simp] theorem TP_ev9 (a : List PV) (σ : Heap) : TP.ev 9 a σ = n0 (bo true) a := rfl
@[simp] theorem TP_dom16 : TP.dom 16 = true := rfl
@[simp] theorem TP_ev16 (a : List PV) (σ : Heap) : TP.ev 16 a σ = n0 (.agg (netC nt0)) a := rfl
@[simp] theorem TP_dom17 : TP.dom 17 = true := rfl
@[simp] theorem TP_ev17 (a : List PV) (σ : Heap) : TP.ev 17 a σ = n0 (.agg (netC nt0)) a := rfl
@[simp] theorem TP_dom10 : TP.dom 10 = true := rfl
@[simp] theorem TP_ev10 (a : List PV) (σ : Heap) : TP.ev 10 a σ = n1 (fun n => bo (fewS n)) a := rfl
@[simp] theorem TP_dom15 : TP.dom 15 = true := rfl
@[simp] theorem TP_ev15 (a : List PV) (σ : Heap) : TP.ev 15 a σ = n2 (fun n m => bo (sameN n m)) a := rfl
@[simp] theorem TP_dom19 : TP.dom 19 = true := rfl
@[simp] theorem TP_ev19 (a : List PV) (σ : Heap) : TP.ev 19 a σ = p2 (fun p q => bo (sameP p q)) a := rfl
@[simp] theorem TP_dom13 : TP.dom 13 = true := rfl
@[simp] theorem TP_ev13 (a : List PV) (σ : Heap) : TP.ev 13 a σ = n1 chkR a := rfl
@[simp] theorem TP_dom14 : TP.dom 14 = true := rfl
@[simp] theorem TP_ev14 (a : List PV) (σ : Heap) : TP.ev 14 a σ = n1 chkR a := rfl
@[simp] theorem TP_dom11 : TP.dom 11 = true := rfl
@[simp] theorem TP_ev11 (a : List PV) (σ : Heap) : TP.ev 11 a σ = np sendV a := rfl
@[simp] theorem TP_dom12 : TP.dom 12 = true := rfl
@[simp] theorem TP_ev12 (a : List PV) (σ : Heap) : TP.ev 12 a σ = np sendV a := rfl
@[simp] theorem TP_dom18 : TP.dom 18 = true := rfl
@[simp] theorem TP_ev18 (a : List PV) (σ : Heap) : TP.ev 18 a σ = ni deliverV a := rfl
@[simp] theorem TP_dom22 : TP.dom 22 = true := rfl
@[simp] theorem TP_ev22 (a : List PV) (σ : Heap) : TP.ev 22 a σ = ni deliverV a := rfl
@[simp] theorem TP_dom23 : TP.dom 23 = true := rfl
@[simp] theorem TP_ev23 (a : List PV) (σ : Heap) : TP.ev 23 a σ = ni loseV a := rfl
@[simp] theorem TP_dom24 : TP.dom 24 = true := rfl
@[simp] theorem TP_ev24 (a : List PV) (σ : Heap) : TP.ev 24 a σ = ni loseV a := rfl
@[simp] theorem TP_dom25 : TP.dom 25 = true := rfl
@[simp] theorem TP_ev25 (a : List PV) (σ : Heap) : TP.ev 25 a σ = ni repeatV a := rfl
@[simp] theorem TP_dom26 : TP.dom 26 = true := rfl
@[simp] theorem TP_ev26 (a : List PV) (σ : Heap) : TP.ev 26 a σ = ni repeatV a := rfl
@[simp] theorem TP_dom20 : TP.dom 20 = true := rfl
@[simp] theorem TP_ev20 (a : List PV) (σ : Heap) : TP.ev 20 a σ = niib cutV a := rfl
@[simp] theorem TP_dom21 : TP.dom 21 = true := rfl
@[simp] theorem TP_ev21 (a : List PV) (σ : Heap) : TP.ev 21 a σ = niib cutV a := rfl
end Go.Proofs.Ytgcoikbgpkfcnaa
