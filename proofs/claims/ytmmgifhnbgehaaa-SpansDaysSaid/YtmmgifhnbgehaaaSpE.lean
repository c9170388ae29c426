/-
  Spans: what the functions compute, part E: collecting the spans of a set.
-/
import Derived.Test.YtmmgifhnbgehaaaSpD
set_option linter.unusedSimpArgs false
set_option linter.unusedVariables false
namespace Go.Proofs.Ytmmgifhnbgehaaa
open Go.Lo

@[simp] theorem inf22 : inf P0 22 = some (1, false) := by kernel_rfl

theorem encS_len {l : List Sp} : ∀ r ∈ l.map encS, r.length = 2 := fun r hr => by
  obtain ⟨s, _, rfl⟩ := List.mem_map.1 hr; rfl

set_option maxHeartbeats 400000 in
theorem appendSeq_ok (f : Nat → Bool) : PFun P0 41 [.lit (.slice none 0 0), .fn (.func 42) [] [.ref [.ref (bitsP f)]]] (encL false (runsF f)) := by
  refine pcalls_own (k := 2) ?_
  refine pcalls_body Try.func41 rfl rfl rfl (by show 2 ≤ _; decide) (pwp_run n_ok ?_)
  simp [ev, Fr.init]
  intro id
  refine pwp_range (J := fun k σ => ∃ v, σ id = some (.cells [v]) ∧ Own 2 σ v (((runsF f).take k).map encS)) (iterC f) rfl trivial Try.call42 (fun v hv => by
    obtain ⟨s, _, rfl⟩ := List.mem_map.1 hv; rfl) (by decide) ⟨.lit (.slice none 0 0), by simp [Heap.set_apply], by simpa using Own.nil 2 _⟩ ?_ ?_
  · rintro k σ hk ⟨v, hv, ho⟩
    have hk : k < (runsF f).length := by simpa using hk
    obtain ⟨o1, o2⟩ := ho.sv
    have hl := runsF_length f
    refine pwp_run n_ok ?_
    simp [ev, Fr.init, setPs, encS]
    intro id2 hid2
    have hne : id ≠ id2 := by rintro rfl; rw [hv] at hid2; cases hid2
    refine pwp_run n_ok ?_
    simp [ev, Fr.init, setPs, encS, hv, Heap.set_apply, hne, o1, o2]
    refine own_append (rows := ((runsF f).take k).map encS) (new := [encS (runsF f)[k]]) (k := 2) (ho.new hid2) elem22 (by decide) rfl (by decide) isl22 (yv_row (by simp [encS])) (by simp [encS, isCell1, isCell]) (by simp; omega) ?_
    intro V σ' hV hK _
    have hid : σ' id = some (.cells [v]) := by
      rw [hK id (by simp [Heap.set_apply, hne, hv]) (ho.ne hv (one_ne encS_len (by decide)))]
      simp [Heap.set_apply, hne, hv]
    obtain ⟨c1, c2, c3⟩ := hV.cell
    obtain ⟨v1, v2⟩ := hV.sv
    simp [v1, v2, hid, c1, c2, c3, rndK]
    have e : List.take (k + 1) (List.map encS (runsF f)) = List.map encS (List.take k (runsF f)) ++ [encS (runsF f)[k]] := by
      rw [← List.map_take, List.take_succ_eq_append_getElem hk, List.map_append]; rfl
    rw [e]
    exact hV.set fun cs e => by rw [hid] at e; cases e; exact one_ne hV.1 (by decide)
  · rintro σ ⟨v, hv, ho⟩
    obtain ⟨o1, o2⟩ := ho.sv
    simp [ev, Fr.init, hv, o1, o2]
    simpa using ho

/-! ### The rest of the way: Collect, combine, the three sets, Normal -/
def T41 (f : Nat → Bool) : Tab := Tab.nil.add 41 fun args _ => ⟨args = [.lit (.slice none 0 0), .fn (.func 42) [] [.ref [.ref (bitsP f)]]], encL false (runsF f)⟩
theorem T41_ok (f : Nat → Bool) : (T41 f).ok P0 := Tab.add_fun n_ok Try.call41 fun args h => by
  subst h; exact appendSeq_ok f
theorem collect_ok (f : Nat → Bool) : PFun P0 39 [.fn (.func 42) [] [.ref [.ref (bitsP f)]]] (encL false (runsF f)) := by
  refine pcalls_body Try.func39 rfl rfl rfl (by show 1 ≤ _; decide) (pwp_run (T41_ok f) ?_)
  simp [ev, Fr.init, T41, Tab.add, Tab.nil]

def opS : Nat → Bool → Bool → Bool
  | 0, a, b => a || b
  | 1, a, b => a && b
  | _, a, b => a && !b
theorem or_ok (a b : Bool) : PFun P0 33 [bo a, bo b] (bo (opS 0 a b)) := by
  refine pcalls_body Try.func33 rfl rfl rfl (by show 2 ≤ _; decide) (pwp_run n_ok ?_)
  cases a <;> simp [ev, Fr.init, opS]
theorem and_ok (a b : Bool) : PFun P0 34 [bo a, bo b] (bo (opS 1 a b)) := by
  refine pcalls_body Try.func34 rfl rfl rfl (by show 2 ≤ _; decide) (pwp_run n_ok ?_)
  cases a <;> simp [ev, Fr.init, opS]
theorem minus_ok (a b : Bool) : PFun P0 35 [bo a, bo b] (bo (opS 2 a b)) := by
  refine pcalls_body Try.func35 rfl rfl rfl (by show 2 ≤ _; decide) (pwp_run n_ok ?_)
  cases a <;> simp [ev, Fr.init, opS]
theorem op_ok (t : Nat) (ht : t < 3) (a b : Bool) : PFun P0 (33 + t) [bo a, bo b] (bo (opS t a b)) := by
  match t, ht with
  | 0, _ => exact or_ok a b
  | 1, _ => exact and_ok a b
  | 2, _ => exact minus_ok a b
theorem op_ent (t : Nat) (ht : t < 3) : Enters P0 (33 + t) := by
  match t, ht with
  | 0, _ => exact Try.call33
  | 1, _ => exact Try.call34
  | 2, _ => exact Try.call35

/-- The sets' operations. -/
def combS (t : Nat) (a b : List Sp) : List Sp := runsF fun i => opS t (daysF a i) (daysF b i)

def TG (G : Nat → Bool) : Tab := (Tab.nil.add 39 fun args _ => ⟨args = [.fn (.func 42) [] [.ref [.ref (bitsP G)]]], encL false (runsF G)⟩).add 40 fun args _ => ⟨args = [.ref (bitsP G)], .fn (.func 42) [] [.ref [.ref (bitsP G)]]⟩
theorem TG_ok (G : Nat → Bool) : (TG G).ok P0 :=
  Tab.add_fun (Tab.add_fun n_ok Try.call39 fun args h => by subst h; exact collect_ok G) Try.call40 fun args h => by subst h; exact setSpans_ok G

set_option maxHeartbeats 1000000 in
theorem combine_ok (t : Nat) (ht : t < 3) (x y : Bool) (a b : List Sp) (ha : a.length ≤ maxLen) (hb : b.length ≤ maxLen) : PFun P0 32 [encL x a, encL y b, .fn (.func (33 + t)) [] []] (encL false (combS t a b)) := by
  obtain ⟨G, hG⟩ : ∃ G : Nat → Bool, G = fun i => opS t (daysF a i) (daysF b i) := ⟨_, rfl⟩
  have hG' : ∀ i, G i = opS t (daysF a i) (daysF b i) := fun i => by rw [hG]
  have hres : combS t a b = runsF G := by rw [hG]; rfl
  rw [hres]
  refine pcalls_body Try.func32 rfl rfl rfl (by show 3 ≤ _; decide) (pwp_run (TG_ok G) ?_)
  simp [TG]
  refine pops_call (TG G) (TG_ok G) rfl rfl rfl rfl Try.call38 (by simp) (args := [encL x a]) (by simp) (of_ok x a ha) ?_
  rintro o' σ1 ⟨id1, rfl, hs1⟩
  simp [TG]
  refine pops_call (TG G) (TG_ok G) rfl rfl rfl rfl Try.call38 (by simp) (args := [encL y b]) (by simp) (pcalls_new (of_ok y b hb)) ?_
  rintro o' σ2 ⟨σ', ⟨id2, rfl, hs2⟩, hk1, hk2, hk3⟩
  have hne : id1 ≠ id2 := by
    rintro rfl
    have := hk3 id1 (by rw [hs1]; simp)
    rw [this] at hs2; cases hs2
  simp
  refine pwp_loop (fun N fr σ => ∃ (d : Nat) (g : Nat → Bool), N = 1024 - d ∧ d ≤ 1024 ∧ fr 2 = .fn (.func (33 + t)) [] [] ∧ fr 7 = .ptr id1 0 ∧ fr 8 = .ptr id2 0 ∧ fr 14 = num d ∧ σ id1 = some (.cells (bitsP g)) ∧ σ id2 = some (.cells (bitsP (daysF b))) ∧ ∀ i, i < 1024 → g i = if i < d then G i else daysF a i)
    (N := 1024) ⟨0, daysF a, rfl, by omega, by simp, by simp, by simp, by simp, hk1 _ _ hs1, hk2 _ _ hs2, by simp⟩ ?_
  rintro N fr σ ⟨d, g, rfl, hd, e2, e7, e8, e14, q1, q2, hg⟩
  by_cases hlt : d < 1024
  · have hlt' : (d : Int) < 1024 := by omega
    refine pwp_run n_ok ?_
    simp [e2, e7, e8, e14, hlt, hlt', q1, q2, hne]
    refine pwp_draw (k := 16) (T := Tab.nil.add (33 + t) fun args _ => ⟨args = [bo (daysF a d), bo (daysF b d)], bo (G d)⟩) (Tab.add_fun n_ok (op_ent t ht) fun args h => by
      subst h; rw [hG']; exact op_ok t ht _ _) mixed (by kernel_rfl) ?_
    have hgd : g d = daysF a d := by rw [hg d hlt, if_neg (by omega)]
    simp [e2, e7, e8, e14, hlt, hlt', q1, q2, hne, Ne.symm hne, hgd]
    refine ⟨by omega, 1024 - (d + 1), by omega, d + 1, rfl, by omega, by rw [wrap_i64 (by omega) (by omega)]; omega, _, bitsP_set g (G d) hlt, fun i hi => ?_⟩
    by_cases e : i = d
    · subst e; rw [if_pos rfl, if_pos (by omega)]
    · rw [if_neg e, hg i hi]
      by_cases h : i < d
      · rw [if_pos h, if_pos (by omega)]
      · rw [if_neg h, if_neg (by omega)]
  · have hlt' : ¬ (d : Int) < 1024 := by omega
    refine pwp_frz 1 (Heap.one id1 (.cells (bitsP g))) (.one q1) ?_
    have hgG : bitsP g = bitsP G := bitsP_congr fun i hi => by rw [hg i hi, if_pos (by omega)]
    refine pwp_run n_ok ?_
    simp [e2, e7, e8, e14, hlt, hlt', frzN, Heap.one_apply, hgG]

theorem union_ok (x y : Bool) (a b : List Sp) (ha : a.length ≤ maxLen) (hb : b.length ≤ maxLen) : PFun P0 17 [encL x a, encL y b] (encL false (combS 0 a b)) := by
  refine pcalls_body Try.func17 rfl rfl rfl (by show 2 ≤ _; decide) (pwp_run (T := Tab.nil.add 32 fun args _ => ⟨args = [encL x a, encL y b, .fn (.func 33) [] []], encL false (combS 0 a b)⟩) (Tab.add_fun n_ok Try.call32 fun args h => by
    subst h; exact combine_ok 0 (by omega) x y a b ha hb) ?_)
  simp
theorem meet_ok (x y : Bool) (a b : List Sp) (ha : a.length ≤ maxLen) (hb : b.length ≤ maxLen) : PFun P0 19 [encL x a, encL y b] (encL false (combS 1 a b)) := by
  refine pcalls_body Try.func19 rfl rfl rfl (by show 2 ≤ _; decide) (pwp_run (T := Tab.nil.add 32 fun args _ => ⟨args = [encL x a, encL y b, .fn (.func 34) [] []], encL false (combS 1 a b)⟩) (Tab.add_fun n_ok Try.call32 fun args h => by
    subst h; exact combine_ok 1 (by omega) x y a b ha hb) ?_)
  simp
theorem minusS_ok (x y : Bool) (a b : List Sp) (ha : a.length ≤ maxLen) (hb : b.length ≤ maxLen) : PFun P0 21 [encL x a, encL y b] (encL false (combS 2 a b)) := by
  refine pcalls_body Try.func21 rfl rfl rfl (by show 2 ≤ _; decide) (pwp_run (T := Tab.nil.add 32 fun args _ => ⟨args = [encL x a, encL y b, .fn (.func 35) [] []], encL false (combS 2 a b)⟩) (Tab.add_fun n_ok Try.call32 fun args h => by
    subst h; exact combine_ok 2 (by omega) x y a b ha hb) ?_)
  simp
end Go.Proofs.Ytmmgifhnbgehaaa
