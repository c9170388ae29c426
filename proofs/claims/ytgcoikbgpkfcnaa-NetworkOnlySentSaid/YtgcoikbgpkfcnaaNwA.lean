/-
  Network: the plain law: links, packets, cuts. No program in sight.
-/
import Derived.Test.YtgcoikbgpkfcnaaLoY
set_option linter.unusedSimpArgs false
set_option linter.unusedVariables false
namespace Go.Proofs.Ytgcoikbgpkfcnaa

/-- A packet: from, to, data. -/
structure Pk where
  f : Int
  t : Int
  d : List Int
  deriving DecidableEq
abbrev Lk := Int × Int
structure Nt where
  q : List Pk
  a : List Lk
  deriving DecidableEq
def pk0 : Pk := ⟨0, 0, []⟩
def nt0 : Nt := ⟨[], []⟩

def btw (a b : Int) : Lk := (min a b, max a b)
def vL (l : Lk) : Bool := decide (0 ≤ l.1) && decide (l.1 < l.2) && decide (l.2 < 16)
def vP (p : Pk) : Bool := vL (btw p.f p.t) && decide ((p.d.length : Int) ≤ 1048576)
def ltL (x y : Lk) : Bool := decide (x.1 < y.1) || decide (x.1 = y.1) && decide (x.2 < y.2)
def sorted : List Lk → Bool
  | [] => true
  | [x] => vL x
  | x :: y :: l => vL x && ltL x y && sorted (y :: l)
def vN (n : Nt) : Bool := decide ((n.q.length : Int) ≤ 4096) && n.q.all vP && sorted n.a

theorem vL_iff {l : Lk} : vL l = true ↔ 0 ≤ l.1 ∧ l.1 < l.2 ∧ l.2 < 16 := by simp [vL, and_assoc]
theorem vP_ne {p : Pk} (h : vP p = true) : p.f ≠ p.t := fun e => by
  simp only [vP, Bool.and_eq_true, vL_iff, btw] at h
  omega
theorem vP_sides {p : Pk} (h : vP p = true) : 0 ≤ p.f ∧ p.f < 16 ∧ 0 ≤ p.t ∧ p.t < 16 := by
  simp only [vP, Bool.and_eq_true, vL_iff, btw] at h
  omega

/-! ### All links, in order -/
def allL : List Lk := (List.range 16).flatMap fun x => (List.range (15 - x)).map fun j => ((x : Int), ((x + 1 + j : Nat) : Int))
theorem allL_sorted : sorted allL = true := by decide +kernel
theorem allL_mem : ∀ x y : Fin 16, x.val < y.val → ((x.val : Int), (y.val : Int)) ∈ allL := by decide +kernel
theorem mem_allL {l : Lk} : l ∈ allL ↔ vL l = true := by
  constructor
  · intro h
    have : ∀ l ∈ allL, vL l = true := by decide +kernel
    exact this l h
  · intro h
    obtain ⟨h1, h2, h3⟩ := vL_iff.1 h
    have := allL_mem ⟨l.1.toNat, by omega⟩ ⟨l.2.toNat, by omega⟩ (by show l.1.toNat < l.2.toNat; omega)
    simp only at this
    rw [show ((l.1.toNat : Nat) : Int) = l.1 by omega, show ((l.2.toNat : Nat) : Int) = l.2 by omega] at this
    exact this
theorem ltL_trans {x y z : Lk} (h : ltL x y = true) (k : ltL y z = true) : ltL x z = true := by
  simp only [ltL, Bool.or_eq_true, Bool.and_eq_true, decide_eq_true_eq] at *
  omega
theorem ltL_irrefl (x : Lk) : ltL x x = false := by simp [ltL]
theorem sorted_cons {x : Lk} {l : List Lk} (h : sorted (x :: l) = true) : vL x = true ∧ sorted l = true ∧ ∀ y ∈ l, ltL x y = true := by
  induction l generalizing x with
  | nil => exact ⟨h, rfl, fun y hy => by cases hy⟩
  | cons y l ih =>
    simp only [sorted, Bool.and_eq_true] at h
    obtain ⟨⟨h1, h2⟩, h3⟩ := h
    obtain ⟨_, _, k3⟩ := ih h3
    refine ⟨h1, h3, fun z hz => ?_⟩
    rcases List.mem_cons.1 hz with rfl | hz
    · exact h2
    · exact ltL_trans h2 (k3 z hz)
theorem sorted_mk {x : Lk} {l : List Lk} (h1 : vL x = true) (h2 : sorted l = true) (h3 : ∀ y ∈ l, ltL x y = true) : sorted (x :: l) = true := by
  cases l with
  | nil => exact h1
  | cons y l => simp only [sorted, Bool.and_eq_true]; exact ⟨⟨h1, h3 y (by simp)⟩, h2⟩
theorem sorted_filter (p : Lk → Bool) : ∀ l : List Lk, sorted l = true → sorted (l.filter p) = true := by
  intro l
  induction l with
  | nil => intro _; rfl
  | cons x l ih =>
    intro h
    obtain ⟨h1, h2, h3⟩ := sorted_cons h
    rw [List.filter_cons]
    split
    · exact sorted_mk h1 (ih h2) fun y hy => h3 y (List.mem_filter.1 hy).1
    · exact ih h2

/-! ### Cutting and mending -/
def cutP (A : List Lk) (l : Lk) (on : Bool) (c : Lk) : Bool := if c = l then on else A.contains c
def cutS (A : List Lk) (l : Lk) (on : Bool) : List Lk := allL.filter (cutP A l on)
theorem cutS_sorted (A : List Lk) (l : Lk) (on : Bool) : sorted (cutS A l on) = true := sorted_filter _ _ allL_sorted
theorem cutS_mem {A : List Lk} {l : Lk} {on : Bool} {c : Lk} (hc : vL c = true) : (cutS A l on).contains c = cutP A l on c := by
  rw [Bool.eq_iff_iff, List.contains_iff_mem]
  unfold cutS
  rw [List.mem_filter]
  exact ⟨fun h => h.2, fun h => ⟨mem_allL.2 hc, h⟩⟩
theorem cutS_again (A : List Lk) (l : Lk) (on on' : Bool) : cutS (cutS A l on) l on' = cutS A l on' := by
  unfold cutS
  refine List.filter_congr fun c hc => ?_
  have hv := mem_allL.1 hc
  have := cutS_mem (A := A) (l := l) (on := on) hv
  unfold cutS at this
  simp only [cutP, this]
  split <;> rfl
theorem filter_more {p q : Lk → Bool} {l : Lk} (hp : p l = true) (hq : q l = false) (he : ∀ c, c ≠ l → p c = q c) : ∀ L : List Lk, sorted L = true → l ∈ L → (L.filter p).length = (L.filter q).length + 1 := by
  intro L
  induction L with
  | nil => intro _ h; cases h
  | cons x L ih =>
    intro hs hm
    obtain ⟨h1, h2, h3⟩ := sorted_cons hs
    rw [List.filter_cons, List.filter_cons]
    rcases List.mem_cons.1 hm with rfl | hm
    · rw [hp, hq]
      have : L.filter p = L.filter q := List.filter_congr fun c hc => he c fun e => by
        have := h3 c hc; rw [e, ltL_irrefl] at this; cases this
      simp [this]
    · have hne : x ≠ l := fun e => by
        have := h3 l hm; rw [e, ltL_irrefl] at this; cases this
      rw [he x hne]
      split <;> simp [ih h2 hm]
theorem cutS_length {A : List Lk} {l : Lk} (hl : vL l = true) : (cutS A l true).length = (cutS A l false).length + 1 := by
  unfold cutS
  exact filter_more (by simp [cutP]) (by simp [cutP]) (fun c hc => by simp [cutP, hc]) allL allL_sorted (mem_allL.2 hl)
theorem cutS_empty (l : Lk) : cutS [] l false = [] := by
  unfold cutS
  rw [List.filter_eq_nil_iff]
  intro c _
  unfold cutP; split <;> simp
theorem btw_comm (a b : Int) : btw a b = btw b a := by unfold btw; rw [Int.min_comm, Int.max_comm]

theorem sorted_take : ∀ (l : List Lk) (k : Nat), sorted l = true → sorted (l.take k) = true := by
  intro l
  induction l with
  | nil => intro k _; simp [sorted]
  | cons x l ih =>
    intro k h
    obtain ⟨h1, h2, h3⟩ := sorted_cons h
    cases k with
    | zero => rfl
    | succ k => rw [List.take_succ_cons]; exact sorted_mk h1 (ih k h2) fun y hy => h3 y (List.mem_of_mem_take hy)
theorem sorted_snoc : ∀ (l : List Lk) (x : Lk), sorted (l ++ [x]) = (sorted l && vL x && (l.getLast?.all fun y => ltL y x)) := by
  intro l
  induction l with
  | nil => intro x; simp [sorted]
  | cons y l ih =>
    intro x
    cases l with
    | nil => simp [sorted]; cases vL x <;> cases vL y <;> simp
    | cons z l =>
      have := ih x
      simp only [List.cons_append, sorted] at this ⊢
      rw [this, List.getLast?_cons_cons]
      simp only [Bool.and_assoc]
/-- One more link. -/
theorem sorted_step {a : List Lk} {k : Nat} (hk : k < a.length) : sorted (a.take (k + 1)) = (sorted (a.take k) && vL a[k] && (decide (k = 0) || ltL (a.getD (k - 1) (0, 0)) a[k])) := by
  rw [List.take_succ_eq_append_getElem hk, sorted_snoc]
  congr 1
  cases k with
  | zero => simp
  | succ k =>
    rw [List.getLast?_take, if_neg (by omega)]
    simp [List.getD_eq_getElem?_getD, show k < a.length by omega]
theorem sorted_bad {a : List Lk} {k : Nat} (hk : k < a.length) (h : sorted (a.take (k + 1)) = false) : sorted a = false := by
  cases e : sorted a with
  | false => rfl
  | true => rw [sorted_take a (k + 1) e] at h; cases h

/-! ### What the functions say -/
def sendN (n : Nt) (p : Pk) : Nt × Int := if vN n && vP p then (if n.q.length = 4096 then (nt0, 2) else (⟨n.q ++ [p], n.a⟩, 0)) else (nt0, 460)
def without (q : List Pk) (i : Nat) : List Pk := q.take i ++ q.drop (i + 1)
/-- The error of an index. -/
def askN (n : Nt) (i : Int) : Int := if vN n then (if 0 ≤ i ∧ i < n.q.length then 0 else 1) else 460
def atN (n : Nt) (i : Int) : Pk := n.q.getD i.toNat pk0
def deliverN (n : Nt) (i : Int) : Pk × Nt × Int := if askN n i = 0 then (if n.a.contains (btw (atN n i).f (atN n i).t) then pk0 else atN n i, ⟨without n.q i.toNat, n.a⟩, 0) else (pk0, nt0, askN n i)
def loseN (n : Nt) (i : Int) : Nt × Int := if askN n i = 0 then (⟨without n.q i.toNat, n.a⟩, 0) else (nt0, askN n i)
def repeatN (n : Nt) (i : Int) : Nt × Int := if askN n i = 0 then sendN n (atN n i) else (nt0, askN n i)
def cutN (n : Nt) (a b : Int) (on : Bool) : Nt × Int := if vN n then (if vL (btw a b) then (⟨n.q, cutS n.a (btw a b) on⟩, 0) else (nt0, 1)) else (nt0, 460)

theorem vN_parts {n : Nt} : vN n = true ↔ ((n.q.length : Int) ≤ 4096 ∧ n.q.all vP = true) ∧ sorted n.a = true := by simp [vN]
theorem askN_ok {n : Nt} {i : Int} : askN n i = 0 ↔ vN n = true ∧ 0 ≤ i ∧ i < n.q.length := by
  unfold askN
  split
  · split <;> simp_all
  · simp_all
theorem atN_get {n : Nt} {i : Int} (h : 0 ≤ i ∧ i < n.q.length) : ∃ k : Nat, i = (k : Int) ∧ ∃ hk : k < n.q.length, atN n i = n.q[k] := by
  refine ⟨i.toNat, by omega, by omega, ?_⟩
  unfold atN
  rw [List.getD_eq_getElem?_getD, List.getElem?_eq_getElem (by omega)]; rfl
theorem atN_vP {n : Nt} {i : Int} (h : askN n i = 0) : vP (atN n i) = true := by
  obtain ⟨hv, h1⟩ := askN_ok.1 h
  obtain ⟨k, _, hk, e⟩ := atN_get h1
  rw [e]
  exact List.all_eq_true.1 (vN_parts.1 hv).1.2 _ (List.getElem_mem hk)
theorem without_length {q : List Pk} {i : Nat} (h : i < q.length) : (without q i).length + 1 = q.length := by
  unfold without; simp; omega
theorem without_mem {q : List Pk} {i : Nat} {p : Pk} (h : p ∈ without q i) : p ∈ q := by
  unfold without at h
  rcases List.mem_append.1 h with h | h
  · exact List.mem_of_mem_take h
  · exact List.mem_of_mem_drop h
theorem vN_send {n : Nt} {p : Pk} (hv : vN n = true) (hp : vP p = true) (hl : n.q.length < 4096) : vN ⟨n.q ++ [p], n.a⟩ = true := by
  obtain ⟨⟨h1, h2⟩, h3⟩ := vN_parts.1 hv
  refine vN_parts.2 ⟨⟨by simp; omega, ?_⟩, h3⟩
  simp [List.all_append, h2, hp]
theorem vN_without {n : Nt} {i : Nat} (hv : vN n = true) (hi : i < n.q.length) : vN ⟨without n.q i, n.a⟩ = true := by
  obtain ⟨⟨h1, h2⟩, h3⟩ := vN_parts.1 hv
  have := without_length hi
  refine vN_parts.2 ⟨⟨by show ((without n.q i).length : Int) ≤ 4096; omega, ?_⟩, h3⟩
  rw [List.all_eq_true] at h2 ⊢
  exact fun p hp => h2 p (without_mem hp)
theorem vN_cut {n : Nt} {l : Lk} {on : Bool} (hv : vN n = true) : vN ⟨n.q, cutS n.a l on⟩ = true := by
  obtain ⟨h1, _⟩ := vN_parts.1 hv
  exact vN_parts.2 ⟨h1, cutS_sorted _ _ _⟩
theorem vN_zero : vN nt0 = true := by decide
theorem without_append {q : List Pk} {p : Pk} {i : Nat} (h : i < q.length) : without (q ++ [p]) i = without q i ++ [p] := by
  unfold without
  rw [List.take_append_of_le_length (by omega), List.drop_append_of_le_length (by omega), List.append_assoc]
end Go.Proofs.Ytgcoikbgpkfcnaa
