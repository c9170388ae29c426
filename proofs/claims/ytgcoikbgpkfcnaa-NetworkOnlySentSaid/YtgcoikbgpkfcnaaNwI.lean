/-
  Network: what the functions compute, part I: Deliver, Lose, Repeat.
-/
import Derived.Test.YtgcoikbgpkfcnaaNwH
set_option linter.unusedSimpArgs false
set_option linter.unusedVariables false
namespace Go.Proofs.Ytgcoikbgpkfcnaa
open Go.Lo

def wo (r : Nt → Nat → PV) (args : List PV) : EV := match args with
  | [.agg c, .lit (.int .i64 i)] => ⟨isN c ∧ 0 ≤ i ∧ i < (decN c).q.length ∧ (decN c).q.length ≤ 5000, r (decN c) i.toNat⟩
  | _ => .no
@[simp] theorem wo_mk (r : Nt → Nat → PV) (c : List PV) (i : Int) : wo r [.agg c, num i] = ⟨isN c ∧ 0 ≤ i ∧ i < (decN c).q.length ∧ (decN c).q.length ≤ 5000, r (decN c) i.toNat⟩ := rfl
theorem wo_fun {f : FuncId} {r : Nt → Nat → PV} (k : ∀ n i, okN n → i < n.q.length → n.q.length ≤ 5000 → PFun P0 f [.agg (netC n), num (i : Int)] (r n i)) (args : List PV) (hd : (wo r args).D) : PFun P0 f args (wo r args).V := by
  unfold wo at hd ⊢
  split at hd
  · rename_i c i
    obtain ⟨h0, h1, h2, h3⟩ := hd
    obtain ⟨k1, k2⟩ := isN_le h0
    have := k (decN c) i.toNat k2 (by omega) h3
    rw [show ((i.toNat : Nat) : Int) = i by omega] at this
    exact pcalls.args this (.cons (.agg k1) (.cons (.refl _) .nil))
  · exact hd.elim
def nii (r : Nt → Int → Int → PV) (args : List PV) : EV := match args with
  | [.agg c, .lit (.int .i64 a), .lit (.int .i64 b)] => ⟨isN c, r (decN c) a b⟩
  | _ => .no
@[simp] theorem nii_mk (r : Nt → Int → Int → PV) (c : List PV) (a b : Int) : nii r [.agg c, num a, num b] = ⟨isN c, r (decN c) a b⟩ := rfl
theorem nii_fun {f : FuncId} {r : Nt → Int → Int → PV} (k : ∀ n a b, okN n → PFun P0 f [.agg (netC n), num a, num b] (r n a b)) (args : List PV) (hd : (nii r args).D) : PFun P0 f args (nii r args).V := by
  unfold nii at hd ⊢
  split at hd
  · obtain ⟨h1, h2⟩ := isN_le hd
    exact pcalls.args (k _ _ _ h2) (.cons (.agg h1) (.cons (.refl _) (.cons (.refl _) .nil)))
  · exact hd.elim
def woR (n : Nt) (i : Nat) : PV := .agg (netC ⟨without n.q i, n.a⟩)
def TI : Tab := (((((((TG.add 35 fun a _ => ni atR a).add 41 fun a _ => ni (fun n i => num (askN n i)) a).add 38 fun a _ => wo woR a).add 42 fun a _ => wo woR a).add 36 fun a _ => al (fun l x y => bo (l.contains (x, y))) a).add 40 fun a _ => nii (fun n a b => bo (n.a.contains (btw a b))) a).add 11 fun a _ => np sendR a).add 12 fun a _ => np sendR a
theorem TI_ok : TI.ok P0 := Tab.add_fun (Tab.add_fun (Tab.add_fun (Tab.add_fun (Tab.add_fun (Tab.add_fun (Tab.add_fun (Tab.add_fun TG_ok Try.call35 (ni_fun at35_ok)) Try.call41 (ni_fun asked41_ok)) Try.call38 (wo_fun without38_ok)) Try.call42 (wo_fun rwithout42_ok)) Try.call36 (al_fun contains36_ok)) Try.call40 (nii_fun isCut40_ok)) Try.call11 (np_fun send11_ok)) Try.call12 (np_fun rsend12_ok)
@[simp] theorem TI_dom35 : TI.dom 35 = true := rfl
@[simp] theorem TI_ev35 (a : List PV) (σ : Heap) : TI.ev 35 a σ = ni atR a := rfl
@[simp] theorem TI_dom41 : TI.dom 41 = true := rfl
@[simp] theorem TI_ev41 (a : List PV) (σ : Heap) : TI.ev 41 a σ = ni (fun n i => num (askN n i)) a := rfl
@[simp] theorem TI_dom38 : TI.dom 38 = true := rfl
@[simp] theorem TI_ev38 (a : List PV) (σ : Heap) : TI.ev 38 a σ = wo woR a := rfl
@[simp] theorem TI_dom42 : TI.dom 42 = true := rfl
@[simp] theorem TI_ev42 (a : List PV) (σ : Heap) : TI.ev 42 a σ = wo woR a := rfl
@[simp] theorem TI_dom36 : TI.dom 36 = true := rfl
@[simp] theorem TI_ev36 (a : List PV) (σ : Heap) : TI.ev 36 a σ = al (fun l x y => bo (l.contains (x, y))) a := rfl
@[simp] theorem TI_dom40 : TI.dom 40 = true := rfl
@[simp] theorem TI_ev40 (a : List PV) (σ : Heap) : TI.ev 40 a σ = nii (fun n a b => bo (n.a.contains (btw a b))) a := rfl
@[simp] theorem TI_dom11 : TI.dom 11 = true := rfl
@[simp] theorem TI_ev11 (a : List PV) (σ : Heap) : TI.ev 11 a σ = np sendR a := rfl
@[simp] theorem TI_dom12 : TI.dom 12 = true := rfl
@[simp] theorem TI_ev12 (a : List PV) (σ : Heap) : TI.ev 12 a σ = np sendR a := rfl
@[simp] theorem TI_dom37 : TI.dom 37 = true := rfl
@[simp] theorem TI_ev37 (a : List PV) (σ : Heap) : TI.ev 37 a σ = i2 (fun x y => .agg (rowL (btw x y))) a := rfl
@[simp] theorem TI_dom32 : TI.dom 32 = true := rfl
@[simp] theorem TI_ev32 (a : List PV) (σ : Heap) : TI.ev 32 a σ = g1 (fun x y => bo (vL (x, y))) a := rfl
@[simp] theorem TI_dom13 : TI.dom 13 = true := rfl
@[simp] theorem TI_ev13 (a : List PV) (σ : Heap) : TI.ev 13 a σ = n1 chkR a := rfl
@[simp] theorem TI_dom14 : TI.dom 14 = true := rfl
@[simp] theorem TI_ev14 (a : List PV) (σ : Heap) : TI.ev 14 a σ = n1 chkR a := rfl
@[simp] theorem TI_dom34 : TI.dom 34 = true := rfl
@[simp] theorem TI_ev34 (a : List PV) (σ : Heap) : TI.ev 34 a σ = i1 (fun x => bo (decide (0 ≤ x) && decide (x < 16))) a := rfl

def deliverR (n : Nt) (i : Int) : PV := if askN n i = 0 then .tup [if n.a.contains (btw (atN n i).f (atN n i).t) then pkZ else .agg (rowK (atN n i)), woR n i.toNat, num 0] else .tup [pkZ, netZ, num (askN n i)]
def loseR (n : Nt) (i : Int) : PV := if askN n i = 0 then .tup [woR n i.toNat, num 0] else .tup [netZ, num (askN n i)]
def repeatR (n : Nt) (i : Int) : PV := if askN n i = 0 then sendR n (atN n i) else .tup [netZ, num (askN n i)]
theorem ask_facts {n : Nt} {i : Int} (hn : okN n) (ha : askN n i = 0) : 0 ≤ i ∧ i < n.q.length ∧ n.q.length ≤ 5000 ∧ okP (atN n i) := by
  obtain ⟨hv, h1, h2⟩ := askN_ok.1 ha
  have := (vN_parts.1 hv).1.1
  obtain ⟨k, _, hk, e⟩ := atN_get ⟨h1, h2⟩
  exact ⟨h1, h2, by omega, by rw [e]; exact hn.1.1 _ (List.getElem_mem hk)⟩
theorem lose23_ok (n : Nt) (i : Int) (hn : okN n) : PFun P0 23 [.agg (netC n), num i] (loseR n i) := by
  refine pcalls_body Try.func23 rfl rfl rfl (by show 2 ≤ _; decide) (pwp_go TI_ok ?_)
  unfold loseR
  have hq := hn.1
  have hal := hn.2
  by_cases ha : askN n i = 0
  · obtain ⟨f1, f2, f3, f4⟩ := ask_facts hn ha
    have hat : atR n i = .tup [.agg (rowK (atN n i)), num 0] := by unfold atR; rw [if_pos ha]
    simp (config := { contextual := true }) [netC, hq, hal, hat, ha, f1, f2, f3, woR]
  · have hat : atR n i = .tup [pkZ, num (askN n i)] := by unfold atR; rw [if_neg ha]
    simp (config := { contextual := true }) [netC, hq, hal, hat, ha, pkZ, netZ]
theorem rlose24_ok (n : Nt) (i : Int) (hn : okN n) : PFun P0 24 [.agg (netC n), num i] (loseR n i) := by
  refine pcalls_body Try.func24 rfl rfl rfl (by show 2 ≤ _; decide) (pwp_go TI_ok ?_)
  unfold loseR
  have hq := hn.1
  have hal := hn.2
  by_cases ha : askN n i = 0
  · obtain ⟨f1, f2, f3, f4⟩ := ask_facts hn ha
    simp (config := { contextual := true }) [netC, hq, hal, ha, f1, f2, f3, woR]
  · simp (config := { contextual := true }) [netC, hq, hal, ha, netZ]
theorem sendR_some (n : Nt) (p : Pk) : ∃ x y e, sendR n p = .tup [.agg [x, y], num e] ∧ (sv x = x ∧ avt x = True ∧ isCell1 x = true ∧ isCell x = true ∧ cellsP x = [x]) ∧ sv y = y ∧ avt y = True ∧ isCell1 y = true ∧ isCell y = true ∧ cellsP y = [y] := by
  unfold sendR netZ
  split
  · split
    · exact ⟨_, _, _, rfl, ⟨rfl, rfl, rfl, rfl, rfl⟩, rfl, rfl, rfl, rfl, rfl⟩
    · exact ⟨_, _, _, rfl, ⟨rfl, rfl, rfl, rfl, rfl⟩, rfl, rfl, rfl, rfl, rfl⟩
  · exact ⟨_, _, _, rfl, ⟨rfl, rfl, rfl, rfl, rfl⟩, rfl, rfl, rfl, rfl, rfl⟩
theorem repeat25_ok (n : Nt) (i : Int) (hn : okN n) : PFun P0 25 [.agg (netC n), num i] (repeatR n i) := by
  refine pcalls_body Try.func25 rfl rfl rfl (by show 2 ≤ _; decide) (pwp_go TI_ok ?_)
  unfold repeatR
  have hq := hn.1
  have hal := hn.2
  by_cases ha : askN n i = 0
  · obtain ⟨f1, f2, f3, f4⟩ := ask_facts hn ha
    have hat : atR n i = .tup [.agg (rowK (atN n i)), num 0] := by unfold atR; rw [if_pos ha]
    have hd := f4
    unfold okP at hd
    obtain ⟨x, y, e, hs, ⟨x1, x2, x3, x4, x5⟩, y1, y2, y3, y4, y5⟩ := sendR_some n (atN n i)
    have hs' : sendR n ⟨(atN n i).f, (atN n i).t, (atN n i).d⟩ = .tup [.agg [x, y], num e] := hs
    simp (config := { contextual := true }) [netC, rowK, hq, hal, hat, ha, hd, hs', hs, x1, x2, x3, x4, x5, y1, y2, y3, y4, y5]
  · have hat : atR n i = .tup [pkZ, num (askN n i)] := by unfold atR; rw [if_neg ha]
    simp (config := { contextual := true }) [netC, hq, hal, hat, ha, pkZ, netZ]
theorem rrepeat26_ok (n : Nt) (i : Int) (hn : okN n) : PFun P0 26 [.agg (netC n), num i] (repeatR n i) := by
  refine pcalls_body Try.func26 rfl rfl rfl (by show 2 ≤ _; decide) (pwp_go TI_ok ?_)
  unfold repeatR
  have hq := hn.1
  have hal := hn.2
  by_cases ha : askN n i = 0
  · obtain ⟨f1, f2, f3, f4⟩ := ask_facts hn ha
    obtain ⟨k, rfl, hk, e0⟩ := atN_get (n := n) (i := i) ⟨f1, f2⟩
    have hd := f4
    unfold okP at hd
    obtain ⟨x, y, e, hs, ⟨x1, x2, x3, x4, x5⟩, y1, y2, y3, y4, y5⟩ := sendR_some n (atN n k)
    rw [e0] at hs hd
    have hs' : sendR n ⟨n.q[k].f, n.q[k].t, n.q[k].d⟩ = .tup [.agg [x, y], num e] := hs
    simp (config := { contextual := true }) [netC, hq, hal, ha]
    intro id2 id4 a1
    refine pwp_drawT TI_ok 9 mixed (by kernel_rfl) ?_
    simp (config := { contextual := true }) [rowK, hq, hal, ha, e0, hd, hk, hs', hs, x1, x2, x3, x4, x5, y1, y2, y3, y4, y5, IAx_encQ, a1]
  · simp (config := { contextual := true }) [netC, hq, hal, ha, netZ]
end Go.Proofs.Ytgcoikbgpkfcnaa
