/-
  The program logic 'Lo', part F: code, regions in the text's order, calls, functions. Nothing of the program.
-/
import Derived.Test.YtgcoikbgpkfcnaaLoE
set_option linter.unusedSimpArgs false
set_option linter.unusedVariables false
namespace Go.Lo
open Go

inductive Out where
  | val (v : PV)
  | pan (v : PV)
inductive PX where
  | normal
  | exit (id : Nat)
  | goto (l : Nat)
  | ret
  | pan (v : PV)

def XRel (G : Gh) (W : World) : PX → Exit → Prop
  | .normal, .normal => True
  | .exit i, .exit j => i = j
  | .goto i, .goto j => i = j
  | .ret, .ret => True
  | .pan v, .panic ch => ∃ x, ch = [{ v := x, recovered := false }] ∧ VRel G W v x
  | _, _ => False
def OutRel (G : Gh) (W : World) : Out → Ending → Prop
  | .val v, .returned x => VRel G W v x
  | .pan v, .panicked ch => ∃ x, ch = [{ v := x, recovered := false }] ∧ VRel G W v x
  | _, _ => False

def Post (G0 : Gh) (W0 : World) (σ0 : Heap) (n base : Nat) (Q : PX → Fr → Heap → Prop) : Exit → Act → World → Prop := fun e A W =>
  ∃ pe fr σ G, Q pe fr σ ∧ XRel G W pe e ∧ Evol G0 W0 σ0 G W σ ∧ HRel G W σ ∧ TRel G W n fr A.tmps ∧ DRel base W A.defers

theorem Post.trans {G0 G1 : Gh} {W0 W1 : World} {σ0 σ1 : Heap} {n base : Nat} {Q : PX → Fr → Heap → Prop} (h : Evol G0 W0 σ0 G1 W1 σ1) {e : Exit} {A : Act} {W : World}
    (k : Post G1 W1 σ1 n base Q e A W) : Post G0 W0 σ0 n base Q e A W :=
  let ⟨pe, fr, σ, G, h1, h2, h3, h4, h5, h6⟩ := k
  ⟨pe, fr, σ, G, h1, h2, h.trans h3, h4, h5, h6⟩
theorem Post.mono {G0 : Gh} {W0 : World} {σ0 : Heap} {n base : Nat} {Q Q' : PX → Fr → Heap → Prop} (h : ∀ pe fr σ, Q pe fr σ → Q' pe fr σ) {e : Exit} {A : Act} {W : World}
    (k : Post G0 W0 σ0 n base Q e A W) : Post G0 W0 σ0 n base Q' e A W :=
  let ⟨pe, fr, σ, G, h1, h2⟩ := k
  ⟨pe, fr, σ, G, h _ _ _ h1, h2⟩

/-- **Code, from an abstract state on.** 'rd': in a round of a range over a function. -/
def pwp (P : Program) (rd : Bool) (n : Nat) (c : Code) (Q : PX → Fr → Heap → Prop) (fr : Fr) (σ : Heap) : Prop :=
  ∀ (G : Gh) (W : World) (A : Act) (r : Option Nat) (m base : Nat), r.isSome = rd → HRel G W σ → TRel G W n fr A.tmps → DRel base W A.defers → base ≤ W.heap.size →
    c.wpIn (FW r) m P (Post G W σ n base Q) A W

section
variable {P : Program} {rd : Bool} {n : Nat} {Q Q' : PX → Fr → Heap → Prop} {fr : Fr} {σ : Heap}

theorem pwp_mono {c : Code} (h : pwp P rd n c Q fr σ) (hq : ∀ pe fr σ, Q pe fr σ → Q' pe fr σ) : pwp P rd n c Q' fr σ :=
  fun G W A r m base h1 h2 h3 h4 h5 => wpIn_mono (h G W A r m base h1 h2 h3 h4 h5) fun _ _ _ k => k.mono hq

/-- Less may be known of the state. -/
theorem pwp_state {c : Code} {fr' : Fr} {σ' : Heap} (h : pwp P rd n c Q fr' σ')
    (hf : ∀ G W tmps, HRel G W σ → TRel G W n fr tmps → ∃ G', HRel G' W σ' ∧ TRel G' W n fr' tmps ∧ Evol G W σ G' W σ') : pwp P rd n c Q fr σ := by
  intro G W A r m base h1 h2 h3 h4 h5
  obtain ⟨G', k1, k2, k3⟩ := hf G W A.tmps h2 h3
  exact wpIn_mono (h G' W A r m base h1 k1 k2 h4 h5) fun _ _ _ k => k.trans k3

def PX.thn (K : Fr → Heap → Prop) (Q : PX → Fr → Heap → Prop) : PX → Fr → Heap → Prop
  | .normal, fr, σ => K fr σ
  | e, fr, σ => Q e fr σ
def PX.blk (id : Nat) (Q : PX → Fr → Heap → Prop) : PX → Fr → Heap → Prop
  | .exit i, fr, σ => if i = id then Q .normal fr σ else Q (.exit i) fr σ
  | e, fr, σ => Q e fr σ

theorem post_start (G : Gh) (W : World) (A : Act) (base : Nat) {pe : PX} {e : Exit} (hq : Q pe fr σ) (hx : XRel G W pe e) (h2 : HRel G W σ) (h3 : TRel G W n fr A.tmps) (h4 : DRel base W A.defers) :
    Post G W σ n base Q e A W := ⟨pe, fr, σ, G, hq, hx, .refl _ _ _, h2, h3, h4⟩

theorem pwp_skip (h : Q .normal fr σ) : pwp P rd n .skip Q fr σ := fun G W A _ _ base _ h2 h3 h4 _ => wpIn_skip (post_start G W A base (e := .normal) h trivial h2 h3 h4)
theorem pwp_ret (h : Q .ret fr σ) : pwp P rd n .ret Q fr σ := fun G W A _ _ base _ h2 h3 h4 _ => wpIn_ret (post_start G W A base (e := .ret) h trivial h2 h3 h4)
theorem pwp_exit {id : Nat} (h : Q (.exit id) fr σ) : pwp P rd n (.exit id) Q fr σ := fun G W A _ _ base _ h2 h3 h4 _ => wpIn_exit (post_start G W A base (e := .exit id) h rfl h2 h3 h4)
theorem pwp_goto {l : Nat} (h : Q (.goto l) fr σ) : pwp P rd n (.goto l) Q fr σ := fun G W A _ _ base _ h2 h3 h4 _ => wpIn_goto (post_start G W A base (e := .goto l) h rfl h2 h3 h4)

theorem pwp_seq {a b : Code} (h : pwp P rd n a (PX.thn (fun fr σ => pwp P rd n b Q fr σ) Q) fr σ) : pwp P rd n (.seq a b) Q fr σ := by
  intro G W A r m base h1 h2 h3 h4 h5
  refine wpIn_seq (wpIn_mono (h G W A r m base h1 h2 h3 h4 h5) fun e A' W' k => ?_)
  obtain ⟨pe, fr', σ', G', k1, k2, k3, k4, k5, k6⟩ := k
  cases e with
  | normal =>
    cases pe <;> simp only [XRel] at k2
    exact wpIn_mono (k1 G' W' A' r m base h1 k4 k5 k6 (Nat.le_trans h5 k3.size)) fun _ _ _ k => k.trans k3
  | exit i => cases pe <;> simp only [XRel] at k2; exact ⟨_, fr', σ', G', k1, k2, k3, k4, k5, k6⟩
  | goto i => cases pe <;> simp only [XRel] at k2; exact ⟨_, fr', σ', G', k1, k2, k3, k4, k5, k6⟩
  | ret => cases pe <;> simp only [XRel] at k2; exact ⟨.ret, fr', σ', G', k1, k2, k3, k4, k5, k6⟩
  | panic ch => cases pe <;> simp only [XRel] at k2; exact ⟨_, fr', σ', G', k1, k2, k3, k4, k5, k6⟩
  | outgrown => cases pe <;> simp only [XRel] at k2

/-- .. with what follows behind a variable. -/
theorem pwp_seq_k {a b : Code} (h : ∀ K : Fr → Heap → Prop, (∀ fr σ, pwp P rd n b Q fr σ → K fr σ) → pwp P rd n a (PX.thn K Q) fr σ) : pwp P rd n (.seq a b) Q fr σ :=
  pwp_seq (h _ fun _ _ h => h)

theorem pwp_cond {c : Operand} {x y : Code} {b : Bool} (hc : opv fr c = .lit (.bool b)) (ht : b = true → pwp P rd n x Q fr σ) (hf : b = false → pwp P rd n y Q fr σ) : pwp P rd n (.cond c x y) Q fr σ := by
  intro G W A r m base h1 h2 h3 h4 h5
  have := opv_rel h3 c
  rw [hc] at this
  have := lit_inv this
  exact wpIn_cond_split this (fun e => ht e G W A r m base h1 h2 h3 h4 h5) (fun e => hf e G W A r m base h1 h2 h3 h4 h5)

theorem pwp_block {id : Nat} {c : Code} (h : pwp P rd n c (PX.blk id Q) fr σ) : pwp P rd n (.block id c) Q fr σ := by
  intro G W A r m base h1 h2 h3 h4 h5
  refine wpIn_block (wpIn_mono (h G W A r m base h1 h2 h3 h4 h5) fun e A' W' k => ?_)
  obtain ⟨pe, fr', σ', G', k1, k2, k3, k4, k5, k6⟩ := k
  cases e with
  | normal => cases pe <;> simp only [XRel] at k2; exact ⟨.normal, fr', σ', G', k1, k2, k3, k4, k5, k6⟩
  | exit i =>
    cases pe <;> simp only [XRel] at k2
    subst k2
    simp only [PX.blk] at k1
    simp only [Exit.inBlock]
    split
    · rename_i e; rw [if_pos e] at k1; exact ⟨.normal, fr', σ', G', k1, trivial, k3, k4, k5, k6⟩
    · rename_i e; rw [if_neg e] at k1; exact ⟨_, fr', σ', G', k1, rfl, k3, k4, k5, k6⟩
  | goto i => cases pe <;> simp only [XRel] at k2; exact ⟨_, fr', σ', G', k1, k2, k3, k4, k5, k6⟩
  | ret => cases pe <;> simp only [XRel] at k2; exact ⟨.ret, fr', σ', G', k1, k2, k3, k4, k5, k6⟩
  | panic ch => cases pe <;> simp only [XRel] at k2; exact ⟨_, fr', σ', G', k1, k2, k3, k4, k5, k6⟩
  | outgrown => cases pe <;> simp only [XRel] at k2

theorem least {p : Nat → Prop} (h : ∃ N, p N) : ∃ N, p N ∧ ∀ M, p M → N ≤ M := by
  obtain ⟨N, hN⟩ := h
  induction N using Nat.strongRecOn with
  | _ N ih =>
    by_cases hx : ∃ M, M < N ∧ p M
    · obtain ⟨M, h1, h2⟩ := hx; exact ih M h1 h2
    · refine ⟨N, hN, fun M hM => ?_⟩
      rcases Nat.lt_or_ge M N with h1 | h1
      · exact absurd ⟨M, h1, hM⟩ hx
      · exact h1
noncomputable def leastOf (p : Nat → Prop) : Nat := @dite Nat (∃ N, p N) (Classical.propDecidable _) (fun h => Classical.choose (least h)) (fun _ => 0)
theorem leastOf_spec {p : Nat → Prop} (h : ∃ N, p N) : p (leastOf p) ∧ ∀ M, p M → leastOf p ≤ M := by
  unfold leastOf
  rw [dif_pos h]
  exact Classical.choose_spec (least h)

/-- A loop: 'I N fr σ': the invariant with N rounds' worth left. -/
theorem pwp_loop {c : Code} (I : Nat → Fr → Heap → Prop) {N : Nat} (h0 : I N fr σ)
    (round : ∀ N fr σ, I N fr σ → pwp P rd n c (PX.thn (fun fr' σ' => ∃ N', N' < N ∧ I N' fr' σ') Q) fr σ) : pwp P rd n (.loop c) Q fr σ := by
  intro G W A r m base h1 h2 h3 h4 h5
  let J : Nat → Act → World → Prop := fun N A' W' => ∃ fr' σ' G', I N fr' σ' ∧ Evol G W σ G' W' σ' ∧ HRel G' W' σ' ∧ TRel G' W' n fr' A'.tmps ∧ DRel base W' A'.defers
  refine wpIn_loop (fun A' W' => ∃ N, J N A' W') (fun A' W' => leastOf fun N => J N A' W') ⟨N, fr, σ, G, h0, .refl _ _ _, h2, h3, h4⟩ ?_
  intro A' W' hJ
  obtain ⟨fr', σ', G', k1, k2, k3, k4, k5⟩ := (leastOf_spec hJ).1
  refine wpIn_mono (round _ fr' σ' k1 G' W' A' r m base h1 k3 k4 k5 (Nat.le_trans h5 k2.size)) fun e A2 W2 k => ?_
  obtain ⟨pe, fr2, σ2, G2, q1, q2, q3, q4, q5, q6⟩ := k
  cases e with
  | normal =>
    cases pe <;> simp only [XRel] at q2
    obtain ⟨N', hN, hI⟩ := q1
    have hJ2 : ∃ N, J N A2 W2 := ⟨N', fr2, σ2, G2, hI, k2.trans q3, q4, q5, q6⟩
    exact ⟨hJ2, Nat.lt_of_le_of_lt ((leastOf_spec hJ2).2 N' ⟨fr2, σ2, G2, hI, k2.trans q3, q4, q5, q6⟩) hN⟩
  | exit i => cases pe <;> simp only [XRel] at q2; exact ⟨_, fr2, σ2, G2, q1, q2, k2.trans q3, q4, q5, q6⟩
  | goto i => cases pe <;> simp only [XRel] at q2; exact ⟨_, fr2, σ2, G2, q1, q2, k2.trans q3, q4, q5, q6⟩
  | ret => cases pe <;> simp only [XRel] at q2; exact ⟨.ret, fr2, σ2, G2, q1, q2, k2.trans q3, q4, q5, q6⟩
  | panic ch => cases pe <;> simp only [XRel] at q2; exact ⟨_, fr2, σ2, G2, q1, q2, k2.trans q3, q4, q5, q6⟩
  | outgrown => cases pe <;> simp only [XRel] at q2

/-! ### Operations -/
def frSet (fr : Fr) (dst : Option Tmp) (v : PV) : Fr :=
  match dst with
  | some d => fr.set d v
  | none => fr
def dstOk (n : Nat) (o : Oper) : Bool :=
  match o.dst with
  | some d => decide (d < n)
  | none => true

theorem TRel.put {G : Gh} {W : World} {A : Act} (h : TRel G W n fr A.tmps) {V : PV} {v : Value} (hv : VRel G W V v) {dst : Option Tmp} (hd : ∀ d, dst = some d → d < n) : TRel G W n (frSet fr dst V) (A.put dst v).tmps := by
  cases dst with
  | none => exact h
  | some d =>
    refine ⟨by simp [Act.put, h.1], fun t => ?_⟩
    have hlt : d < A.tmps.size := by rw [h.1]; exact hd d rfl
    simp only [frSet, Fr.set, Act.put]
    by_cases e : t = d
    · subst e
      rw [if_pos rfl]
      simpa [hlt] using hv
    · rw [if_neg e]
      have := h.2 t
      rw [Array.getD_eq_getD_getElem?] at this ⊢
      rwa [Array.getElem?_setIfInBounds_ne (Ne.symm e)]

/-- An operation that leaves the memory as it is and yields V. -/
def qop (P : Program) (n : Nat) (o : Oper) (fr : Fr) (σ : Heap) (V : PV) : Prop :=
  ∀ (G : Gh) (W : World) (A : Act) (r : Option Nat) (m : Nat), HRel G W σ → TRel G W n fr A.tmps → ∀ (next : Act → World → Prop) (Q : Exit → Act → World → Prop),
    (∀ G' W' v, Evol G W σ G' W' σ → HRel G' W' σ → VRel G' W' V v → next (A.put o.dst v) W') → o.wpIn (FW r) m P A W next Q

/-- An operation at large. -/
def gop (P : Program) (rd : Bool) (n : Nat) (o : Oper) (fr : Fr) (σ : Heap) (K : Out → Heap → Prop) : Prop :=
  ∀ (G : Gh) (W : World) (A : Act) (r : Option Nat) (m : Nat), r.isSome = rd → HRel G W σ → TRel G W n fr A.tmps → ∀ (next : Act → World → Prop) (Q : Exit → Act → World → Prop),
    (∀ V σ' G' W' v, K (.val V) σ' → Evol G W σ G' W' σ' → HRel G' W' σ' → VRel G' W' V v → next (A.put o.dst v) W') →
    (∀ V σ' G' W' v, K (.pan V) σ' → Evol G W σ G' W' σ' → HRel G' W' σ' → VRel G' W' V v → Q (.panic [{ v := v, recovered := false }]) A W') → o.wpIn (FW r) m P A W next Q

theorem gop_of_qop {o : Oper} {V : PV} {K : Out → Heap → Prop} (h : qop P n o fr σ V) (hK : K (.val V) σ) : gop P rd n o fr σ K :=
  fun G W A r m _ h2 h3 next Q hn _ => h G W A r m h2 h3 next Q fun G' W' v q q' hv => hn V σ G' W' v hK q q' hv

theorem semAt_exec {o : Oper} (hd : ∀ c, o.op ≠ .defer c) (r : Option Nat) (ρ : Operand → Value) : o.semAt r ρ = execOp ρ o := by
  cases r with
  | none => rfl
  | some l => exact Oper.semAt_some l ρ o hd

theorem wpIn_value {o : Oper} {A : Act} {W W' : World} {r : Option Nat} {m : Nat} {next : Act → World → Prop} {Q : Exit → Act → World → Prop} {v : Value} (hd : ∀ c, o.op ≠ .defer c)
    (hr : (execOp A.eval o).run P W = .ok (.value v) W') (h : next (A.put o.dst v) W') : o.wpIn (FW r) m P A W next Q :=
  ⟨fun _ _ => trivial, by rw [show (FW r).round = r from rfl, semAt_exec hd, hr]; exact h⟩
theorem wpIn_skipped {o : Oper} {A : Act} {W W' : World} {r : Option Nat} {m : Nat} {next : Act → World → Prop} {Q : Exit → Act → World → Prop} (hd : ∀ c, o.op ≠ .defer c)
    (hr : (execOp A.eval o).run P W = .ok .skip W') (h : next (A.put o.dst undef) W') : o.wpIn (FW r) m P A W next Q :=
  ⟨fun _ _ => trivial, by rw [show (FW r).round = r from rfl, semAt_exec hd, hr]; exact h⟩

theorem qop_of_ev {o : Oper} (h : (ev P σ fr o).D) : qop P n o fr σ (ev P σ fr o).V := by
  intro G W A r m h2 h3 next Q hn
  obtain ⟨v, G', W', e, q, hv⟩ := ev_run h2 h3 o h
  exact wpIn_value (fun c hc => by simp [ev, hc, EV.no] at h) e (hn G' W' v (q.evol h2) (q.hrel h2) hv)

/-! ### Regions -/
def gval (ops : Array Oper) (fr : Fr) (o : Oper) : Option Bool :=
  match o.guard with
  | none => some true
  | some (j, want) => match (ops[j]?).bind (·.dst) with
    | some d => match fr d with
      | .lit (.bool b) => some (b == want)
      | .gd true (.lit (.bool b)) => some (b == want)
      | .gd false _ => some false
      | _ => none
    | none => none

theorem gval_spec {ops : Array Oper} {o : Oper} {g : Bool} {G : Gh} {W : World} {A : Act} (h : gval ops fr o = some g) (hT : TRel G W n fr A.tmps) : Region.wanted o (yielded ops A.tmps) = g := by
  unfold gval at h
  unfold Region.wanted
  split at h
  · rename_i hg; rw [hg]; simpa using h
  · rename_i j want hg
    rw [hg]
    simp only
    split at h
    · rename_i d hd
      have hT := hT.2 d
      have key : ∀ b : Bool, A.tmps.getD d undef = .bool b → yielded ops A.tmps j = some b := fun b hb => by
        unfold yielded
        rw [hd]
        rw [Array.getD_eq_getD_getElem?] at hb
        cases hx : A.tmps[d]? with
        | none => rw [hx] at hb; simp [undef] at hb
        | some x => rw [hx] at hb; simp at hb; subst hb; simp [hx]
      split at h
      · rename_i b hfr
        rw [hfr] at hT
        rw [key b (lit_inv hT)]
        simp at h; subst h
        cases b <;> cases want <;> rfl
      · rename_i b hfr
        rw [hfr] at hT
        simp at h; subst h
        cases hT with
        | gd _ _ _ h1 h2 =>
        rw [key b (lit_inv (h1 rfl))]
        cases b <;> cases want <;> rfl
      · rename_i q hfr
        rw [hfr] at hT
        simp at h; subst h
        cases hT with
        | gd _ _ _ h1 h2 =>
        have hu := h2 rfl
        have : yielded ops A.tmps j = none := by
          unfold yielded
          rw [hd]
          rw [Array.getD_eq_getD_getElem?] at hu
          cases hx : A.tmps[d]? with
          | none => simp [hx]
          | some x => rw [hx] at hu; simp at hu; subst hu; simp [hx, undef]
        rw [this]; simp
      · cases h
    · cases h

def wpL (F : Fence) (m : Nat) (P : Program) (ops : Array Oper) (Q : Exit → Act → World → Prop) : List Oper → Act → World → Prop
  | [], a, w => Q .normal a w
  | o :: rest, a, w => if Region.wanted o (yielded ops a.tmps) then o.wpIn F m P a w (wpL F m P ops Q rest) Q else wpL F m P ops Q rest (a.put o.dst undef) w

theorem Oper.wpIn_mono {F : Fence} {m : Nat} {o : Oper} {a : Act} {w : World} {K K' : Act → World → Prop} {Q : Exit → Act → World → Prop} (h : ∀ a w, K a w → K' a w)
    (hh : o.wpIn F m P a w K Q) : o.wpIn F m P a w K' Q := by
  refine ⟨hh.1, ?_⟩
  have h2 := hh.2
  generalize (o.semAt F.round a.eval).run P w = r at *
  unfold Oper.uponIn at *
  split <;> rename_i hr <;> simp only at h2
  · exact h _ _ h2
  · exact h _ _ h2
  · exact h _ _ h2
  · exact ⟨h2.1, h2.2.mono fun e w' k => by cases e <;> first | exact h _ _ k | exact k⟩
  · exact ⟨h2.1, h2.2.mono fun e w' k => h _ _ k⟩
  · exact ⟨h2.1, h2.2.mono fun e w' k => by cases e <;> first | exact h _ _ k | exact k⟩
  · exact h2

theorem wpOpsIn_of_wpL {r : Option Nat} {m : Nat} {ops : Array Oper} {Q : Exit → Act → World → Prop} : ∀ (rest pre : List Oper) (a : Act) (w : World), ops.toList = pre ++ rest → wpL (FW r) m P ops Q rest a w →
    wpOpsIn (FW r) m P ops Q (List.range' pre.length rest.length) a w := by
  intro rest
  induction rest with
  | nil => intro pre a w _ h; exact h
  | cons o rest ih =>
    intro pre a w he h
    simp only [List.length_cons, List.range'_succ, wpOpsIn]
    have ho : ops[pre.length]? = some o := by rw [← Array.getElem?_toList, he]; simp
    have ih' := fun a w => ih (pre ++ [o]) a w (by rw [he]; simp)
    simp only [List.length_append, List.length_cons, List.length_nil] at ih'
    simp only [ho]
    simp only [wpL] at h
    split
    · rename_i hw; rw [if_pos hw] at h; exact Oper.wpIn_mono ih' h
    · rename_i hw; rw [if_neg hw] at h; exact ⟨fun _ _ => trivial, ih' _ _ h⟩

def pops (P : Program) (rd : Bool) (n : Nat) (ops : Array Oper) (l : List Oper) (Q : PX → Fr → Heap → Prop) (fr : Fr) (σ : Heap) : Prop :=
  ∀ (G : Gh) (W : World) (A : Act) (r : Option Nat) (m base : Nat), r.isSome = rd → HRel G W σ → TRel G W n fr A.tmps → DRel base W A.defers → base ≤ W.heap.size →
    wpL (FW r) m P ops (Post G W σ n base Q) l A W

theorem pwp_region {id : Nat} {ops : Array Oper} (h : pops P rd n ops ops.toList Q fr σ) : pwp P rd n (.region id ops false) Q fr σ := by
  intro G W A r m base h1 h2 h3 h4 h5
  refine wpIn_region ?_
  have := wpOpsIn_of_wpL ops.toList [] A W rfl (h G W A r m base h1 h2 h3 h4 h5)
  rw [List.range_eq_range']
  simpa using this

theorem pops_nil {ops : Array Oper} (h : Q .normal fr σ) : pops P rd n ops [] Q fr σ :=
  fun G W A _ _ base _ h2 h3 h4 _ => post_start G W A base (e := .normal) h trivial h2 h3 h4

theorem wpL_post {F : Fence} {m : Nat} {ops : Array Oper} {Q Q' : Exit → Act → World → Prop} (hq : ∀ e a w, Q e a w → Q' e a w) : ∀ (l : List Oper) (a : Act) (w : World), wpL F m P ops Q l a w → wpL F m P ops Q' l a w := by
  intro l
  induction l with
  | nil => exact fun a w h => hq _ _ _ h
  | cons o l ih =>
    intro a w h
    simp only [wpL] at *
    split
    · rename_i hw
      rw [if_pos hw] at h
      have h' := Oper.wpIn_mono ih h
      refine ⟨h'.1, ?_⟩
      have h2 := h'.2
      generalize (o.semAt F.round a.eval).run P w = r at *
      unfold Oper.uponIn at *
      split <;> rename_i hr <;> simp only at h2
      · exact h2
      · exact h2
      · exact h2
      · exact ⟨h2.1, h2.2.mono fun e w' k => by
          cases e with
          | returned v => exact k
          | panicked ch => exact hq _ _ _ k
          | outgrown => obtain ⟨a0, w0, k⟩ := k; exact ⟨a0, w0, hq _ _ _ k⟩⟩
      · exact h2
      · exact ⟨h2.1, h2.2.mono fun e w' k => by
          cases e with
          | returned v => exact k
          | panicked ch => exact hq _ _ _ k
          | outgrown => obtain ⟨a0, w0, k⟩ := k; exact ⟨a0, w0, hq _ _ _ k⟩⟩
      · exact hq _ _ _ h2
    · rename_i hw; rw [if_neg hw] at h; exact ih _ _ h

theorem pops_gop {ops : Array Oper} {o : Oper} {l : List Oper} (hg : gval ops fr o = some true) (hd : dstOk n o = true)
    (h : gop P rd n o fr σ (fun out σ' => match out with
      | .val V => pops P rd n ops l Q (frSet fr o.dst V) σ'
      | .pan V => Q (.pan V) fr σ')) : pops P rd n ops (o :: l) Q fr σ := by
  intro G W A r m base h1 h2 h3 h4 h5
  simp only [wpL, gval_spec hg h3, if_true]
  refine h G W A r m h1 h2 h3 _ _ (fun V σ' G' W' v hK he hr hv => ?_) (fun V σ' G' W' v hK he hr hv => ?_)
  · have hT := (h3.mono (he.ext h2)).put hv (dst := o.dst) (fun d hd' => by simpa [dstOk, hd'] using hd)
    refine wpL_post (fun e a w k => k.trans he) _ _ _ (hK G' W' _ r m base h1 hr hT ?_ (Nat.le_trans h5 he.size))
    have : (A.put o.dst v).defers = A.defers := by cases o.dst <;> rfl
    rw [this]; exact h4.evol h2 he
  · exact ⟨_, fr, σ', G', hK, ⟨v, rfl, hv⟩, he, hr, h3.mono (he.ext h2), h4.evol h2 he⟩

theorem pops_guard {ops : Array Oper} {o : Oper} {l : List Oper} {g : Bool} {V : PV} (hg : gval ops fr o = some g) (hd : dstOk n o = true) (hq : g = true → qop P n o fr σ V)
    (h : pops P rd n ops l Q (frSet fr o.dst (.gd g V)) σ) : pops P rd n ops (o :: l) Q fr σ := by
  intro G W A r m base h1 h2 h3 h4 h5
  simp only [wpL, gval_spec hg h3]
  have hdf : ∀ v, (A.put o.dst v).defers = A.defers := fun v => by cases o.dst <;> rfl
  cases g with
  | true =>
    simp only [if_true]
    refine hq rfl G W A r m h2 h3 _ _ (fun G' W' v he hr' hv => ?_)
    have hT := (h3.mono (he.ext h2)).put (.gd true V v (fun _ => hv) (fun e => by cases e)) (dst := o.dst) (fun d hd' => by simpa [dstOk, hd'] using hd)
    refine wpL_post (fun e a w k => k.trans he) _ _ _ (h G' W' _ r m base h1 hr' hT ?_ (Nat.le_trans h5 he.size))
    rw [hdf]; exact h4.evol h2 he
  | false =>
    simp only [Bool.false_eq_true, if_false]
    have hT := h3.put (.gd false V undef (fun e => by cases e) (fun _ => rfl)) (dst := o.dst) (fun d hd' => by simpa [dstOk, hd'] using hd)
    exact h G W _ r m base h1 h2 hT (by rw [hdf]; exact h4) h5

theorem pops_quiet {ops : Array Oper} {o : Oper} {l : List Oper} {V : PV} (hg : o.guard = none) (hd : dstOk n o = true) (hq : qop P n o fr σ V)
    (h : pops P rd n ops l Q (frSet fr o.dst V) σ) : pops P rd n ops (o :: l) Q fr σ :=
  pops_gop (by simp [gval, hg]) hd (gop_of_qop hq h)

/-- Skipped, the guard being false. -/
theorem pops_skip {ops : Array Oper} {o : Oper} {l : List Oper} (hg : gval ops fr o = some false) (hd : dstOk n o = true) (h : pops P rd n ops l Q (frSet fr o.dst (.lit undef)) σ) : pops P rd n ops (o :: l) Q fr σ := by
  intro G W A r m base h1 h2 h3 h4 h5
  simp only [wpL, gval_spec hg h3, Bool.false_eq_true, if_false]
  have hdf : ∀ v, (A.put o.dst v).defers = A.defers := fun v => by cases o.dst <;> rfl
  exact h G W _ r m base h1 h2 (h3.put (.lit undef) (fun d hd' => by simpa [dstOk, hd'] using hd)) (by rw [hdf]; exact h4) h5

/-- Which operations 'ev' knows. -/
def quietK : Op → Bool
  | .move _ | .assign _ | .pick _ _ _ | .build _ _ | .buildSlice _ _ _ | .load _ _ | .nilCheck _ | .binOp _ _ _ _ _ | .unOp _ _ _ | .convert _ _ _ | .makeInterface _ _ | .makeFunc _ _ _ | .slice _ _ _ _ _
  | .fieldAddr _ _ _ | .field _ _ _ | .indexAddr _ _ _ | .index _ _ _ | .extract _ _ => true
  | .call { callee := .builtin .len, .. } | .call { callee := .builtin .max, .. } | .call { callee := .builtin .min, .. } => true
  | _ => false

end
end Go.Lo
