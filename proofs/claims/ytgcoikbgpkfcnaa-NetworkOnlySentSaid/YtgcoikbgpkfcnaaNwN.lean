/-
  Network: what the functions compute, part N: the results as nets, one table for the laws.
-/
import Derived.Test.YtgcoikbgpkfcnaaNwM
set_option linter.unusedSimpArgs false
set_option linter.unusedVariables false
namespace Go.Proofs.Ytgcoikbgpkfcnaa
open Go.Lo

theorem pfun_wk {f : FuncId} {args : List PV} {r r' : PV} (h : PFun P0 f args r) (hle : PLe r r') : PFun P0 f args r' :=
  pcalls.wk (h.mono fun o _ e => ⟨r, e, hle⟩)
theorem netZ_le : PLe netZ (.agg (netC nt0)) := .agg (.cons (PLe.nil false) (.cons (PLe.nil false) .nil))
theorem pkZ_le : PLe pkZ (.agg (rowK pk0)) := .agg (.cons (.refl _) (.cons (.refl _) (.cons (PLe.nil false) .nil)))
theorem okN_zero : okN nt0 := ⟨⟨by simp [nt0], by simp [nt0, maxLen]⟩, by simp [nt0, maxLen]⟩
theorem okP_zero : okP pk0 := by simp [okP, pk0, maxLen]
@[simp] theorem nt_eta (n : Nt) : Nt.mk n.q n.a = n := rfl
@[simp] theorem pk_eta (p : Pk) : Pk.mk p.f p.t p.d = p := rfl
@[simp] theorem nt0_mk : (⟨[], []⟩ : Nt) = nt0 := rfl
@[simp] theorem pk0_mk : (⟨0, 0, []⟩ : Pk) = pk0 := rfl

def neV (r : Nt × Int) : PV := .tup [.agg (netC r.1), num r.2]
def sendV (n : Nt) (p : Pk) : PV := neV (sendN n p)
def loseV (n : Nt) (i : Int) : PV := neV (loseN n i)
def repeatV (n : Nt) (i : Int) : PV := neV (repeatN n i)
def cutV (n : Nt) (a b : Int) (on : Bool) : PV := neV (cutN n a b on)
def deliverV (n : Nt) (i : Int) : PV := .tup [.agg (rowK (deliverN n i).1), .agg (netC (deliverN n i).2.1), num (deliverN n i).2.2]
theorem neZ (e : Int) : PLe (.tup [netZ, num e]) (neV (nt0, e)) := .tup (.cons netZ_le (.cons (.refl _) .nil))
theorem send_le (n : Nt) (p : Pk) : PLe (sendR n p) (sendV n p) := by
  unfold sendR sendV sendN
  split
  · split
    · exact neZ _
    · exact .refl _
  · exact neZ _
theorem lose_le (n : Nt) (i : Int) : PLe (loseR n i) (loseV n i) := by
  unfold loseR loseV loseN
  split
  · exact .refl _
  · exact neZ _
theorem repeat_le (n : Nt) (i : Int) : PLe (repeatR n i) (repeatV n i) := by
  unfold repeatR repeatV repeatN
  split
  · exact send_le _ _
  · exact neZ _
theorem cut_le (n : Nt) (a b : Int) (on : Bool) : PLe (cutR n a b on) (cutV n a b on) := by
  unfold cutR cutV cutN
  split
  · split
    · exact .refl _
    · exact neZ _
  · exact neZ _
theorem deliver_le (n : Nt) (i : Int) : PLe (deliverR n i) (deliverV n i) := by
  unfold deliverR deliverV deliverN
  split
  · simp only []
    split
    · exact .tup (.cons pkZ_le (.cons (.refl _) (.cons (.refl _) .nil)))
    · exact .refl _
  · exact .tup (.cons pkZ_le (.cons netZ_le (.cons (.refl _) .nil)))
theorem okN_without {n : Nt} {i : Nat} (hn : okN n) : okN ⟨without n.q i, n.a⟩ := by
  refine ⟨⟨fun p hp => hn.1.1 p (without_mem hp), ?_⟩, hn.2⟩
  refine Nat.le_trans ?_ hn.1.2
  show (without n.q i).length ≤ _
  unfold without
  simp only [List.length_append, List.length_take, List.length_drop]
  by_cases h : i < n.q.length
  · omega
  · omega
theorem okN_send {n : Nt} {p : Pk} (hn : okN n) (hp : okP p) : okN (sendN n p).1 := by
  unfold sendN
  split
  · rename_i h
    split
    · exact okN_zero
    · have := (vN_parts.1 (Bool.and_eq_true_iff.1 h).1).1.1
      refine ⟨⟨fun q hq => ?_, by simp [maxLen]; omega⟩, hn.2⟩
      rcases List.mem_append.1 hq with hq | hq
      · exact hn.1.1 q hq
      · rw [List.mem_singleton.1 hq]; exact hp
  · exact okN_zero
theorem okP_at {n : Nt} {i : Int} (hn : okN n) : okP (atN n i) := by
  unfold atN
  rw [List.getD_eq_getElem?_getD]
  cases h : n.q[i.toNat]? with
  | none => exact okP_zero
  | some p => exact hn.1.1 p (List.mem_of_getElem? h)
theorem okN_lose {n : Nt} {i : Int} (hn : okN n) : okN (loseN n i).1 := by
  unfold loseN
  split
  · exact okN_without hn
  · exact okN_zero
theorem okN_repeat {n : Nt} {i : Int} (hn : okN n) : okN (repeatN n i).1 := by
  unfold repeatN
  split
  · exact okN_send hn (okP_at hn)
  · exact okN_zero
theorem okN_cut {n : Nt} {a b : Int} {on : Bool} (hn : okN n) : okN (cutN n a b on).1 := by
  unfold cutN
  split
  · split
    · exact ⟨hn.1, Nat.le_trans (cutS_few _ _ _) (by decide)⟩
    · exact okN_zero
  · exact okN_zero
theorem okN_deliver {n : Nt} {i : Int} (hn : okN n) : okN (deliverN n i).2.1 := by
  unfold deliverN
  split
  · exact okN_without hn
  · exact okN_zero
theorem okP_deliver {n : Nt} {i : Int} (hn : okN n) : okP (deliverN n i).1 := by
  unfold deliverN
  split
  · simp only []
    split
    · exact okP_zero
    · exact okP_at hn
  · exact okP_zero

def n0 (r : PV) (args : List PV) : EV := match args with
  | [] => ⟨True, r⟩
  | _ => .no
@[simp] theorem n0_mk (r : PV) : n0 r [] = ⟨True, r⟩ := rfl
theorem n0_fun {f : FuncId} {r : PV} (k : PFun P0 f [] r) (args : List PV) (hd : (n0 r args).D) : PFun P0 f args (n0 r args).V := by
  unfold n0 at hd ⊢
  split at hd
  · exact k
  · exact hd.elim
def niib (r : Nt → Int → Int → Bool → PV) (args : List PV) : EV := match args with
  | [.agg c, .lit (.int .i64 a), .lit (.int .i64 b), .lit (.bool on)] => ⟨isN c, r (decN c) a b on⟩
  | _ => .no
@[simp] theorem niib_mk (r : Nt → Int → Int → Bool → PV) (c : List PV) (a b : Int) (on : Bool) : niib r [.agg c, num a, num b, bo on] = ⟨isN c, r (decN c) a b on⟩ := rfl
theorem niib_fun {f : FuncId} {r : Nt → Int → Int → Bool → PV} (k : ∀ n a b on, okN n → PFun P0 f [.agg (netC n), num a, num b, bo on] (r n a b on)) (args : List PV) (hd : (niib r args).D) : PFun P0 f args (niib r args).V := by
  unfold niib at hd ⊢
  split at hd
  · obtain ⟨h1, h2⟩ := isN_le hd
    exact pcalls.args (k _ _ _ _ h2) (.cons (.agg h1) (.cons (.refl _) (.cons (.refl _) (.cons (.refl _) .nil))))
  · exact hd.elim
def TN0 : Tab := ((((TG.add 16 fun a _ => n0 (.agg (netC nt0)) a).add 17 fun a _ => n0 (.agg (netC nt0)) a).add 10 fun a _ => n1 (fun n => bo (fewS n)) a).add 15 fun a _ => n2 (fun n m => bo (sameN n m)) a)
theorem TN0_ok : TN0.ok P0 := Tab.add_fun (Tab.add_fun (Tab.add_fun (Tab.add_fun TG_ok Try.call16 (n0_fun (pfun_wk new16_ok netZ_le))) Try.call17 (n0_fun (pfun_wk new17_ok netZ_le))) Try.call10 (n1_fun few10_ok)) Try.call15 (n2_fun same15_ok)
def TN : Tab := (((((((((TN0.add 11 fun a _ => np sendV a).add 12 fun a _ => np sendV a).add 18 fun a _ => ni deliverV a).add 22 fun a _ => ni deliverV a).add 23 fun a _ => ni loseV a).add 24 fun a _ => ni loseV a).add 25 fun a _ => ni repeatV a).add 26 fun a _ => ni repeatV a).add 20 fun a _ => niib cutV a).add 21 fun a _ => niib cutV a
theorem TN_ok : TN.ok P0 :=
  Tab.add_fun (Tab.add_fun (Tab.add_fun (Tab.add_fun (Tab.add_fun (Tab.add_fun (Tab.add_fun (Tab.add_fun (Tab.add_fun (Tab.add_fun TN0_ok
    Try.call11 (np_fun fun n p h1 h2 => pfun_wk (send11_ok n p h1 h2) (send_le n p)))
    Try.call12 (np_fun fun n p h1 h2 => pfun_wk (rsend12_ok n p h1 h2) (send_le n p)))
    Try.call18 (ni_fun fun n i h => pfun_wk (deliver18_ok n i h) (deliver_le n i)))
    Try.call22 (ni_fun fun n i h => pfun_wk (rdeliver22_ok n i h) (deliver_le n i)))
    Try.call23 (ni_fun fun n i h => pfun_wk (lose23_ok n i h) (lose_le n i)))
    Try.call24 (ni_fun fun n i h => pfun_wk (rlose24_ok n i h) (lose_le n i)))
    Try.call25 (ni_fun fun n i h => pfun_wk (repeat25_ok n i h) (repeat_le n i)))
    Try.call26 (ni_fun fun n i h => pfun_wk (rrepeat26_ok n i h) (repeat_le n i)))
    Try.call20 (niib_fun fun n a b on h => pfun_wk (cut20_ok n a b on h) (cut_le n a b on)))
    Try.call21 (niib_fun fun n a b on h => pfun_wk (rcut21_ok n a b on h) (cut_le n a b on))
@[simp] theorem TN_dom16 : TN.dom 16 = true := rfl
@[simp] theorem TN_ev16 (a : List PV) (σ : Heap) : TN.ev 16 a σ = n0 (.agg (netC nt0)) a := rfl
@[simp] theorem TN_dom17 : TN.dom 17 = true := rfl
@[simp] theorem TN_ev17 (a : List PV) (σ : Heap) : TN.ev 17 a σ = n0 (.agg (netC nt0)) a := rfl
@[simp] theorem TN_dom10 : TN.dom 10 = true := rfl
@[simp] theorem TN_ev10 (a : List PV) (σ : Heap) : TN.ev 10 a σ = n1 (fun n => bo (fewS n)) a := rfl
@[simp] theorem TN_dom15 : TN.dom 15 = true := rfl
@[simp] theorem TN_ev15 (a : List PV) (σ : Heap) : TN.ev 15 a σ = n2 (fun n m => bo (sameN n m)) a := rfl
@[simp] theorem TN_dom19 : TN.dom 19 = true := rfl
@[simp] theorem TN_ev19 (a : List PV) (σ : Heap) : TN.ev 19 a σ = p2 (fun p q => bo (sameP p q)) a := rfl
@[simp] theorem TN_dom13 : TN.dom 13 = true := rfl
@[simp] theorem TN_ev13 (a : List PV) (σ : Heap) : TN.ev 13 a σ = n1 chkR a := rfl
@[simp] theorem TN_dom14 : TN.dom 14 = true := rfl
@[simp] theorem TN_ev14 (a : List PV) (σ : Heap) : TN.ev 14 a σ = n1 chkR a := rfl
@[simp] theorem TN_dom11 : TN.dom 11 = true := rfl
@[simp] theorem TN_ev11 (a : List PV) (σ : Heap) : TN.ev 11 a σ = np sendV a := rfl
@[simp] theorem TN_dom12 : TN.dom 12 = true := rfl
@[simp] theorem TN_ev12 (a : List PV) (σ : Heap) : TN.ev 12 a σ = np sendV a := rfl
@[simp] theorem TN_dom18 : TN.dom 18 = true := rfl
@[simp] theorem TN_ev18 (a : List PV) (σ : Heap) : TN.ev 18 a σ = ni deliverV a := rfl
@[simp] theorem TN_dom22 : TN.dom 22 = true := rfl
@[simp] theorem TN_ev22 (a : List PV) (σ : Heap) : TN.ev 22 a σ = ni deliverV a := rfl
@[simp] theorem TN_dom23 : TN.dom 23 = true := rfl
@[simp] theorem TN_ev23 (a : List PV) (σ : Heap) : TN.ev 23 a σ = ni loseV a := rfl
@[simp] theorem TN_dom24 : TN.dom 24 = true := rfl
@[simp] theorem TN_ev24 (a : List PV) (σ : Heap) : TN.ev 24 a σ = ni loseV a := rfl
@[simp] theorem TN_dom25 : TN.dom 25 = true := rfl
@[simp] theorem TN_ev25 (a : List PV) (σ : Heap) : TN.ev 25 a σ = ni repeatV a := rfl
@[simp] theorem TN_dom26 : TN.dom 26 = true := rfl
@[simp] theorem TN_ev26 (a : List PV) (σ : Heap) : TN.ev 26 a σ = ni repeatV a := rfl
@[simp] theorem TN_dom20 : TN.dom 20 = true := rfl
@[simp] theorem TN_ev20 (a : List PV) (σ : Heap) : TN.ev 20 a σ = niib cutV a := rfl
@[simp] theorem TN_dom21 : TN.dom 21 = true := rfl
@[simp] theorem TN_ev21 (a : List PV) (σ : Heap) : TN.ev 21 a σ = niib cutV a := rfl
end Go.Proofs.Ytgcoikbgpkfcnaa
