/-
  Network: what the functions compute, part E: New, Few, equality, indices, whether a link is cut.
-/
import Derived.Test.YtgcoikbgpkfcnaaNwD
set_option linter.unusedSimpArgs false
set_option linter.unusedVariables false
namespace Go.Proofs.Ytgcoikbgpkfcnaa
open Go.Lo

theorem evEq2 {t : TypeId} (h : eqS P0 t = some [(0, .int .i64), (1, .int .i64)]) (a b c d : Int) : evEq P0 t [num a, num b] [num c, num d] = ⟨True, bo (a == c && b == d)⟩ := by
  unfold evEq
  rw [h]
  simp [litFit, litEq]
@[simp] theorem eq55' (a b c d : Int) : evBin P0 .eql 55 (.agg [num a, num b]) (.agg [num c, num d]) = ⟨True, bo (a == c && b == d)⟩ := by
  show evEq P0 55 _ _ = _; exact evEq2 eq55 a b c d
@[simp] theorem ne55' (a b c d : Int) : evBin P0 .neq 55 (.agg [num a, num b]) (.agg [num c, num d]) = ⟨True, bo (!(a == c && b == d))⟩ := by
  show (⟨(evEq P0 55 _ _).D, notV (evEq P0 55 _ _).V⟩ : EV) = _; rw [evEq2 eq55]; rfl
@[simp] theorem eq58' (a b c d : Int) : evBin P0 .eql 58 (.agg [num a, num b]) (.agg [num c, num d]) = ⟨True, bo (a == c && b == d)⟩ := by
  show evEq P0 58 _ _ = _; exact evEq2 eq58 a b c d
@[simp] theorem ne58' (a b c d : Int) : evBin P0 .neq 58 (.agg [num a, num b]) (.agg [num c, num d]) = ⟨True, bo (!(a == c && b == d))⟩ := by
  show (⟨(evEq P0 58 _ _).D, notV (evEq P0 58 _ _).V⟩ : EV) = _; rw [evEq2 eq58]; rfl

/-! ### New, Few -/
def netZ : PV := .agg [.lit (.slice none 0 0), .lit (.slice none 0 0)]
theorem new16_ok : PFun P0 16 [] netZ := by
  refine pcalls_body Try.func16 rfl rfl rfl (by show 0 ≤ _; decide) (pwp_go n_ok ?_)
  simp [netZ]
theorem new17_ok : PFun P0 17 [] netZ := by
  refine pcalls_body Try.func17 rfl rfl rfl (by show 0 ≤ _; decide) (pwp_go n_ok ?_)
  simp [netZ]
def fewS (n : Nt) : Bool := decide ((n.q.length : Int) ≤ 40) && decide ((n.a.length : Int) ≤ 40)
theorem few10_ok (n : Nt) (hn : okN n) : PFun P0 10 [.agg (netC n)] (bo (fewS n)) := by
  refine pcalls_body Try.func10 rfl rfl rfl (by show 1 ≤ _; decide) (pwp_go n_ok ?_)
  unfold fewS netC
  by_cases h1 : (n.q.length : Int) ≤ 40
  · simp [h1]
  · simp [h1]

/-! ### Equality -/
def strI (l : List Int) : ByteArray := strB (l.map fun x => [u8 x])
theorem conv_bytes (b : Bool) (l : List Int) : evConv P0 26 9 (encB b l) = ⟨True, .lit (.string (strI l))⟩ := by
  have e1 : P0.underlying 26 = some (.slice 5) := by kernel_rfl
  have e2 : P0.underlying 9 = some .string := by kernel_rfl
  have e3 : P0.underlying 5 = some (.int .u8) := by kernel_rfl
  unfold evConv encB
  rw [e1, e2]
  simp [e3, strI, isB]
def sameP (a b : Pk) : Bool := (a.f == b.f && a.t == b.t) && ((strI a.d).toList == (strI b.d).toList)
theorem sameP_refl (a : Pk) : sameP a a = true := by simp [sameP]
theorem sameP_ft {a b : Pk} (h : sameP a b = true) : a.f = b.f ∧ a.t = b.t := by
  simp only [sameP, Bool.and_eq_true, beq_iff_eq] at h; exact h.1
theorem same19_ok (a b : Pk) (ha : okP a) (hb : okP b) : PFun P0 19 [.agg (rowK a), .agg (rowK b)] (bo (sameP a b)) := by
  refine pcalls_body Try.func19 rfl rfl rfl (by show 2 ≤ _; decide) (pwp_go n_ok ?_)
  unfold sameP rowK
  by_cases h1 : a.f = b.f
  · by_cases h2 : a.t = b.t
    · simp (config := { contextual := true }) [h1, h2, conv_bytes]
    · have h2' : (a.t == b.t) = false := by simp [h2]
      simp (config := { contextual := true }) [h1, h2']
  · have h1' : (a.f == b.f) = false := by simp [h1]
    simp (config := { contextual := true }) [h1']
def p2 (r : Pk → Pk → PV) (args : List PV) : EV := match args with
  | [.agg c, .agg d] => ⟨isK c ∧ isK d, r (decK c) (decK d)⟩
  | _ => .no
@[simp] theorem p2_mk (r : Pk → Pk → PV) (c d : List PV) : p2 r [.agg c, .agg d] = ⟨isK c ∧ isK d, r (decK c) (decK d)⟩ := rfl
theorem p2_fun {f : FuncId} {r : Pk → Pk → PV} (k : ∀ p q, okP p → okP q → PFun P0 f [.agg (rowK p), .agg (rowK q)] (r p q)) (args : List PV) (hd : (p2 r args).D) : PFun P0 f args (p2 r args).V := by
  unfold p2 at hd ⊢
  split at hd
  · obtain ⟨h1, h2⟩ := isK_le hd.1
    obtain ⟨h3, h4⟩ := isK_le hd.2
    exact pcalls.args (k _ _ h2 h4) (.cons (.agg h1) (.cons (.agg h3) .nil))
  · exact hd.elim
def n1 (r : Nt → PV) (args : List PV) : EV := match args with
  | [.agg c] => ⟨isN c, r (decN c)⟩
  | _ => .no
@[simp] theorem n1_mk (r : Nt → PV) (c : List PV) : n1 r [.agg c] = ⟨isN c, r (decN c)⟩ := rfl
theorem n1_fun {f : FuncId} {r : Nt → PV} (k : ∀ n, okN n → PFun P0 f [.agg (netC n)] (r n)) (args : List PV) (hd : (n1 r args).D) : PFun P0 f args (n1 r args).V := by
  unfold n1 at hd ⊢
  split at hd
  · obtain ⟨h1, h2⟩ := isN_le hd
    exact pcalls.args (k _ h2) (.cons (.agg h1) .nil)
  · exact hd.elim
def n2 (r : Nt → Nt → PV) (args : List PV) : EV := match args with
  | [.agg c, .agg d] => ⟨isN c ∧ isN d, r (decN c) (decN d)⟩
  | _ => .no
@[simp] theorem n2_mk (r : Nt → Nt → PV) (c d : List PV) : n2 r [.agg c, .agg d] = ⟨isN c ∧ isN d, r (decN c) (decN d)⟩ := rfl
theorem n2_fun {f : FuncId} {r : Nt → Nt → PV} (k : ∀ n m, okN n → okN m → PFun P0 f [.agg (netC n), .agg (netC m)] (r n m)) (args : List PV) (hd : (n2 r args).D) : PFun P0 f args (n2 r args).V := by
  unfold n2 at hd ⊢
  split at hd
  · obtain ⟨h1, h2⟩ := isN_le hd.1
    obtain ⟨h3, h4⟩ := isN_le hd.2
    exact pcalls.args (k _ _ h2 h4) (.cons (.agg h1) (.cons (.agg h3) .nil))
  · exact hd.elim
def ni (r : Nt → Int → PV) (args : List PV) : EV := match args with
  | [.agg c, .lit (.int .i64 i)] => ⟨isN c, r (decN c) i⟩
  | _ => .no
@[simp] theorem ni_mk (r : Nt → Int → PV) (c : List PV) (i : Int) : ni r [.agg c, num i] = ⟨isN c, r (decN c) i⟩ := rfl
theorem ni_fun {f : FuncId} {r : Nt → Int → PV} (k : ∀ n i, okN n → PFun P0 f [.agg (netC n), num i] (r n i)) (args : List PV) (hd : (ni r args).D) : PFun P0 f args (ni r args).V := by
  unfold ni at hd ⊢
  split at hd
  · obtain ⟨h1, h2⟩ := isN_le hd
    exact pcalls.args (k _ _ h2) (.cons (.agg h1) (.cons (.refl _) .nil))
  · exact hd.elim
def np (r : Nt → Pk → PV) (args : List PV) : EV := match args with
  | [.agg c, .agg d] => ⟨isN c ∧ isK d, r (decN c) (decK d)⟩
  | _ => .no
@[simp] theorem np_mk (r : Nt → Pk → PV) (c d : List PV) : np r [.agg c, .agg d] = ⟨isN c ∧ isK d, r (decN c) (decK d)⟩ := rfl
theorem np_fun {f : FuncId} {r : Nt → Pk → PV} (k : ∀ n p, okN n → okP p → PFun P0 f [.agg (netC n), .agg (rowK p)] (r n p)) (args : List PV) (hd : (np r args).D) : PFun P0 f args (np r args).V := by
  unfold np at hd ⊢
  split at hd
  · obtain ⟨h1, h2⟩ := isN_le hd.1
    obtain ⟨h3, h4⟩ := isK_le hd.2
    exact pcalls.args (k _ _ h2 h4) (.cons (.agg h1) (.cons (.agg h3) .nil))
  · exact hd.elim
def TG : Tab := ((TF.add 19 fun a _ => p2 (fun p q => bo (sameP p q)) a).add 13 fun a _ => n1 chkR a).add 14 fun a _ => n1 chkR a
theorem TG_ok : TG.ok P0 := Tab.add_fun (Tab.add_fun (Tab.add_fun TF_ok Try.call19 (p2_fun same19_ok)) Try.call13 (n1_fun check13_ok)) Try.call14 (n1_fun rcheck14_ok)
@[simp] theorem TG_dom19 : TG.dom 19 = true := rfl
@[simp] theorem TG_dom13 : TG.dom 13 = true := rfl
@[simp] theorem TG_dom14 : TG.dom 14 = true := rfl
@[simp] theorem TG_ev19 (a : List PV) (σ : Heap) : TG.ev 19 a σ = p2 (fun p q => bo (sameP p q)) a := rfl
@[simp] theorem TG_ev13 (a : List PV) (σ : Heap) : TG.ev 13 a σ = n1 chkR a := rfl
@[simp] theorem TG_ev14 (a : List PV) (σ : Heap) : TG.ev 14 a σ = n1 chkR a := rfl

/-- Equal so far. -/
def eqTo {α : Type} (p : α → α → Bool) (d : α) (l m : List α) (k : Nat) : Bool := (List.range k).all fun i => p (l.getD i d) (m.getD i d)
theorem eqTo_succ {α : Type} (p : α → α → Bool) (d : α) (l m : List α) (k : Nat) : eqTo p d l m (k + 1) = (eqTo p d l m k && p (l.getD k d) (m.getD k d)) := by simp [eqTo, List.range_succ]
theorem eqTo_bad {α : Type} {p : α → α → Bool} {d : α} {l m : List α} {k n : Nat} (hk : k < n) (h : p (l.getD k d) (m.getD k d) = false) : eqTo p d l m n = false := by
  unfold eqTo
  rw [List.all_eq_false]
  exact ⟨k, List.mem_range.2 hk, by rw [h]; simp⟩
theorem getD_at {α : Type} {l : List α} {k : Nat} (d : α) (h : k < l.length) : l.getD k d = l[k] := by rw [List.getD_eq_getElem?_getD, List.getElem?_eq_getElem h]; rfl
def eqL (x y : Lk) : Bool := x.1 == y.1 && x.2 == y.2
def sameN (n m : Nt) : Bool := (decide (n.q.length = m.q.length) && decide (n.a.length = m.a.length)) && (eqTo sameP pk0 n.q m.q n.q.length && eqTo eqL (0, 0) n.a m.a n.a.length)
theorem sameN_refl (n : Nt) : sameN n n = true := by
  simp [sameN, eqTo, sameP_refl, eqL]
theorem same15_ok (n m : Nt) (hn : okN n) (hm : okN m) : PFun P0 15 [.agg (netC n), .agg (netC m)] (bo (sameN n m)) := by
  refine pcalls_body Try.func15 rfl rfl rfl (by show 2 ≤ _; decide) (pwp_go TG_ok ?_)
  have hal := hn.2
  have hql := hn.1.2
  unfold maxLen at hal hql
  by_cases h1 : n.q.length = m.q.length
  · by_cases h2 : n.a.length = m.a.length
    · have hs : sameN n m = (eqTo sameP pk0 n.q m.q n.q.length && eqTo eqL (0, 0) n.a m.a n.a.length) := by unfold sameN; rw [decide_eq_true h1, decide_eq_true h2]; rfl
      rw [hs]
      have h1' : ((n.q.length : Int) != m.q.length) = false := by simp [h1]
      have h2' : ((n.a.length : Int) != m.a.length) = false := by simp [h2]
      simp [-NEW_def, netC]
      refine fun id2 hi2 => ?_
      simp [-NEW_def]
      refine fun id3 hi3 => ?_
      have hne : Apart id3 id2 := frs.ne hi3 (x := .cells [encQ false n.q, encA false n.a]) (by simp)
      simp [hne, h1', h2']
      refine pwpT_go (pwp_frz 2 ((Heap.empty.set id2 (.cells [encQ false n.q, encA false n.a])).set id3 (.cells [encQ false m.q, encA false m.a])) (Frz.set (Frz.set Frz.none (by simp [hne])) (by simp)) ?_)
      refine pwp_loop (fun N fr σ => ∃ k : Nat, N = n.q.length - k ∧ k ≤ n.q.length ∧ fr 2 = .ref [encQ false n.q, encA false n.a] ∧ fr 3 = .ref [encQ false m.q, encA false m.a] ∧ fr 5 = num k ∧ eqTo sameP pk0 n.q m.q k = true)
        (N := n.q.length) ⟨0, by simp [hne, eqTo]⟩ ?_
      rintro N fr σ ⟨k, rfl, hk, e2, e3, e5, hi⟩
      refine pwp_go TG_ok ?_
      by_cases hlt : k < n.q.length
      · have hlt' : k < m.q.length := by omega
        have wk := wrap_succ (k := k) (by omega)
        have hok := hn.1.1 _ (List.getElem_mem hlt)
        have hok' := hm.1.1 _ (List.getElem_mem hlt')
        have hrl : (rowK n.q[k]).length = 3 := rfl
        have hrl' : (rowK m.q[k]).length = 3 := rfl
        have g1 := getD_at pk0 hlt
        have g2 := getD_at pk0 hlt'
        simp [e2, e3, e5, hlt]
        refine pwp_drawT TG_ok 10 mixed (by kernel_rfl) ?_
        by_cases hv : sameP n.q[k] m.q[k] = true
        · simp [e2, e3, e5, hlt, hlt', IAx_encQ, hrl, hrl', List.take_of_length_le, hok, hok', hv, wk]
          exact ⟨n.q.length - (k + 1), by omega, k + 1, rfl, by omega, by omega, by rw [eqTo_succ, hi, g1, g2, hv]; rfl⟩
        · have hv' := Bool.eq_false_iff.2 hv
          have hb : eqTo sameP pk0 n.q m.q n.q.length = false := eqTo_bad hlt (by rw [g1, g2]; exact hv')
          simp [e2, e3, e5, hlt, hlt', IAx_encQ, hrl, hrl', List.take_of_length_le, hok, hok', hv', hb]
      · have hkn : k = n.q.length := by omega
        subst hkn
        rw [hi, Bool.true_and]
        simp [e2, e3, e5]
        refine pwp_loop (fun N fr σ => ∃ k : Nat, N = n.a.length - k ∧ k ≤ n.a.length ∧ fr 2 = .ref [encQ false n.q, encA false n.a] ∧ fr 3 = .ref [encQ false m.q, encA false m.a] ∧ fr 6 = num k ∧ eqTo eqL (0, 0) n.a m.a k = true)
          (N := n.a.length) ⟨0, by simp [eqTo, e2, e3]⟩ ?_
        clear e2 e3 e5 hi
        rintro N fr σ ⟨k, rfl, hk, e2, e3, e6, hi⟩
        refine pwp_go TG_ok ?_
        by_cases hlt : k < n.a.length
        · have hlt' : k < m.a.length := by omega
          have wk := wrap_succ (k := k) (by omega)
          have g1 := getD_at ((0, 0) : Lk) hlt
          have g2 := getD_at ((0, 0) : Lk) hlt'
          obtain ⟨⟨x, y⟩, hxy⟩ : ∃ l : Lk, n.a[k] = l := ⟨_, rfl⟩
          obtain ⟨⟨u, v⟩, huv⟩ : ∃ l : Lk, m.a[k] = l := ⟨_, rfl⟩
          rw [hxy] at g1
          rw [huv] at g2
          simp [e2, e3, e6, hlt]
          refine pwp_drawT TG_ok 10 mixed (by kernel_rfl) ?_
          by_cases hv : x = u ∧ y = v
          · obtain ⟨rfl, rfl⟩ := hv
            have hE : eqL (x, y) (x, y) = true := by simp [eqL]
            simp [e2, e3, e6, hlt, hlt', IAx_encA, hxy, huv, rowL, wk]
            exact ⟨n.a.length - (k + 1), by omega, k + 1, rfl, by omega, by omega, by rw [eqTo_succ, hi, g1, g2, hE]; rfl⟩
          · have hE : eqL (x, y) (u, v) = false := by simp [eqL]; omega
            have hne : (!(x == u && y == v)) = true := by have : (x == u && y == v) = false := hE; rw [this]; rfl
            have hB : evBin P0 .neq 55 (.agg [num x, num y]) (.agg [num u, num v]) = ⟨True, bo true⟩ := by rw [ne55', hne]
            have hb : eqTo eqL (0, 0) n.a m.a n.a.length = false := eqTo_bad hlt (by rw [g1, g2]; exact hE)
            simp [-ne55', e2, e3, e6, hlt, hlt', IAx_encA, hxy, huv, rowL, hB, hb]
        · have hkn : k = n.a.length := by omega
          subst hkn
          simp [e2, e3, e6, hi]
    · have hs : sameN n m = false := by unfold sameN; rw [decide_eq_false h2]; simp
      have h1' : ((n.q.length : Int) != m.q.length) = false := by simp [h1]
      have h2' : ((n.a.length : Int) != m.a.length) = true := by simp; omega
      simp (config := { contextual := true }) [netC, h1', h2', hs]
  · have hs : sameN n m = false := by unfold sameN; rw [decide_eq_false h1]; simp
    have h1' : ((n.q.length : Int) != m.q.length) = true := by simp; omega
    simp (config := { contextual := true }) [netC, h1', hs]
end Go.Proofs.Ytgcoikbgpkfcnaa
