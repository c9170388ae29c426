/-
  Network: the law NetworkOnlySent.
-/
import Derived.Test.YtgcoikbgpkfcnaaNwU
set_option linter.unusedSimpArgs false
set_option linter.unusedVariables false
namespace Go.Proofs.Ytgcoikbgpkfcnaa
open Go.Lo

/-! ### What a move does -/
theorem send_bad {n : Nt} {p : Pk} (h : (sendN n p).2 ≠ 0) : (sendN n p).1 = nt0 := by
  unfold sendN at h ⊢
  split
  · rename_i h1
    rw [if_pos h1] at h
    split
    · rfl
    · rename_i h2; rw [if_neg h2] at h; exact absurd rfl h
  · rfl
theorem happ_bad {n : Nt} {m : Mv} (h : (happN n m).2.2 ≠ 0) : (happN n m).1 = nt0 := by
  unfold happN at h ⊢
  by_cases h0 : m.k % 6 = 0
  · rw [if_pos h0] at h ⊢; exact send_bad h
  · rw [if_neg h0] at h ⊢
    by_cases h1 : m.k % 6 = 1
    · rw [if_pos h1] at h ⊢
      unfold deliverN at h ⊢
      by_cases ha : askN n (mvI n m) = 0
      · rw [if_pos ha] at h; exact absurd rfl h
      · rw [if_neg ha]
    · rw [if_neg h1] at h ⊢
      by_cases h2 : m.k % 6 = 2
      · rw [if_pos h2] at h ⊢
        unfold loseN at h ⊢
        by_cases ha : askN n (mvI n m) = 0
        · rw [if_pos ha] at h; exact absurd rfl h
        · rw [if_neg ha]
      · rw [if_neg h2] at h ⊢
        by_cases h3 : m.k % 6 = 3
        · rw [if_pos h3] at h ⊢
          unfold repeatN at h ⊢
          by_cases ha : askN n (mvI n m) = 0
          · rw [if_pos ha] at h ⊢; exact send_bad h
          · rw [if_neg ha]
        · rw [if_neg h3] at h ⊢
          unfold cutN at h ⊢
          split
          · rename_i hv
            rw [if_pos hv] at h
            split
            · rename_i hl; rw [if_pos hl] at h; exact absurd rfl h
            · rfl
          · rfl
def InvS (n : Nt) (s : List Pk) (c : Int) : Prop := vN n = true ∧ okN n ∧ (∀ p ∈ n.q, p ∈ s) ∧ (n.a ≠ [] → 0 < c) ∧ 0 ≤ c
theorem send_good {n : Nt} {p : Pk} (h : (sendN n p).2 = 0) : (sendN n p).1 = ⟨n.q ++ [p], n.a⟩ ∧ vN ⟨n.q ++ [p], n.a⟩ = true := by
  unfold sendN at h ⊢
  by_cases h1 : (vN n && vP p) = true
  · rw [if_pos h1] at h ⊢
    by_cases h2 : n.q.length = 4096
    · rw [if_pos h2] at h; cases h
    · rw [if_neg h2]
      obtain ⟨hv, hp⟩ := Bool.and_eq_true_iff.1 h1
      have := (vN_parts.1 hv).1.1
      exact ⟨rfl, vN_send hv hp (by omega)⟩
  · rw [if_neg h1] at h; cases h
theorem at_mem {n : Nt} {i : Int} (h : askN n i = 0) : atN n i ∈ n.q := by
  obtain ⟨k, _, hk, e⟩ := atN_get (askN_ok.1 h).2
  rw [e]; exact List.getElem_mem hk
theorem step0 {n : Nt} {m : Mv} {s : List Pk} {c : Int} (hk : m.k % 6 = 0) (h : (happN n m).2.2 = 0) (hi : InvS n s c) : ∃ P, okP P ∧ (happN n m).1.q = n.q ++ [P] ∧ InvS (happN n m).1 (s ++ [P]) c := by
  have hok := (happ_ok (m := m) hi.2.1).1
  unfold happN at h hok ⊢
  rw [if_pos hk] at h hok ⊢
  obtain ⟨h1, h2⟩ := send_good h
  simp only at hok ⊢
  rw [h1] at hok ⊢
  refine ⟨_, by simp [okP, maxLen], rfl, h2, hok, fun p hp => ?_, hi.2.2.2.1, hi.2.2.2.2⟩
  rcases List.mem_append.1 hp with hp | hp
  · exact List.mem_append_left _ (hi.2.2.1 p hp)
  · exact List.mem_append_right _ hp
theorem step1 {n : Nt} {m : Mv} {s : List Pk} {c : Int} (hk : m.k % 6 = 1) (h : (happN n m).2.2 = 0) (hi : InvS n s c) : InvS (happN n m).1 s c ∧ ((happN n m).2.1 = pk0 ∧ 0 < c ∨ (happN n m).2.1 ∈ s) := by
  have hok := (happ_ok (m := m) hi.2.1).1
  unfold happN at h hok ⊢
  rw [if_neg (by omega), if_pos hk] at h hok ⊢
  by_cases ha : askN n (mvI n m) = 0
  · obtain ⟨hv, g1, g2⟩ := askN_ok.1 ha
    have hm := at_mem ha
    unfold deliverN at h hok ⊢
    rw [if_pos ha] at h hok ⊢
    refine ⟨⟨vN_without hv (by omega), hok, fun p hp => hi.2.2.1 p (without_mem hp), hi.2.2.2.1, hi.2.2.2.2⟩, ?_⟩
    simp only
    cases hc : n.a.contains (btw (atN n (mvI n m)).f (atN n (mvI n m)).t) with
    | true => exact .inl ⟨rfl, hi.2.2.2.1 fun e => by rw [e] at hc; cases hc⟩
    | false => exact .inr (hi.2.2.1 _ hm)
  · unfold deliverN at h
    rw [if_neg ha] at h
    exact absurd h ha
theorem step2 {n : Nt} {m : Mv} {s : List Pk} {c : Int} (hk : m.k % 6 = 2 ∨ m.k % 6 = 3 ∨ m.k % 6 = 5) (h : (happN n m).2.2 = 0) (hi : InvS n s c) : InvS (happN n m).1 s c := by
  have hok := (happ_ok (m := m) hi.2.1).1
  unfold happN at h hok ⊢
  rw [if_neg (by omega), if_neg (by omega)] at h hok ⊢
  rcases hk with hk | hk | hk
  · rw [if_pos hk] at h hok ⊢
    by_cases ha : askN n (mvI n m) = 0
    · obtain ⟨hv, g1, g2⟩ := askN_ok.1 ha
      unfold loseN at h hok ⊢
      rw [if_pos ha] at h hok ⊢
      exact ⟨vN_without hv (by omega), hok, fun p hp => hi.2.2.1 p (without_mem hp), hi.2.2.2.1, hi.2.2.2.2⟩
    · unfold loseN at h
      rw [if_neg ha] at h
      exact absurd h ha
  · rw [if_neg (by omega), if_pos hk] at h hok ⊢
    by_cases ha : askN n (mvI n m) = 0
    · have hm := at_mem ha
      unfold repeatN at h hok ⊢
      rw [if_pos ha] at h hok ⊢
      obtain ⟨h1, h2⟩ := send_good h
      simp only at hok ⊢
      rw [h1] at hok ⊢
      refine ⟨h2, hok, fun p hp => ?_, hi.2.2.2.1, hi.2.2.2.2⟩
      rcases List.mem_append.1 hp with hp | hp
      · exact hi.2.2.1 p hp
      · rw [List.mem_singleton.1 hp]; exact hi.2.2.1 _ hm
    · unfold repeatN at h
      rw [if_neg ha] at h
      exact absurd h ha
  · rw [if_neg (by omega), if_neg (by omega)] at h hok ⊢
    have hd : decide (m.k % 6 = 4) = false := decide_eq_false (by omega)
    rw [hd] at h hok ⊢
    unfold cutN at h hok ⊢
    by_cases hl : vL (btw (m.a % 16) (m.b % 16)) = true
    · rw [if_pos hi.1, if_pos hl] at h hok ⊢
      refine ⟨vN_cut hi.1, hok, hi.2.2.1, fun e => hi.2.2.2.1 fun e2 => e ?_, hi.2.2.2.2⟩
      simp only [e2]
      exact cutS_empty _
    · rw [if_pos hi.1, if_neg hl] at h; cases h
theorem step4 {n : Nt} {m : Mv} {s : List Pk} {c : Int} (hk : m.k % 6 = 4) (h : (happN n m).2.2 = 0) (hi : InvS n s c) : InvS (happN n m).1 s (c + 1) := by
  have hok := (happ_ok (m := m) hi.2.1).1
  unfold happN at h hok ⊢
  rw [if_neg (by omega), if_neg (by omega), if_neg (by omega), if_neg (by omega)] at h hok ⊢
  unfold cutN at h hok ⊢
  have hc := hi.2.2.2.2
  by_cases hl : vL (btw (m.a % 16) (m.b % 16)) = true
  · rw [if_pos hi.1, if_pos hl] at h hok ⊢
    exact ⟨vN_cut hi.1, hok, hi.2.2.1, fun _ => by omega, by omega⟩
  · rw [if_pos hi.1, if_neg hl] at h; cases h

/-! ### Tools -/
theorem Own.setNe {k : Nat} {σ : Heap} {v : PV} {rows : List (List PV)} {id : Nat} {x : PObj} (h : Own k σ v rows) (hid : ∀ k off len full, v ≠ .msl id k off len full) : Own k (σ.set id x) v rows := by
  refine ⟨h.1, ?_⟩
  rcases h.2 with h1 | ⟨j, full, rfl, hj⟩ | h1
  · exact .inl h1
  · refine .inr (.inl ⟨j, full, rfl, ?_⟩)
    rw [Heap.set_apply, if_neg (by rintro rfl; exact hid _ _ _ _ rfl)]; exact hj
  · exact .inr (.inr h1)
theorem Own.fresh {k : Nat} {σ : Heap} {v : PV} {rows : List (List PV)} {id : Nat} (h : Own k σ v rows) (hid : σ id = none) : ∀ k off len full, v ≠ .msl id k off len full := fun k' off len full e => by
  rcases h.2 with ⟨h1, _⟩ | ⟨j, full', h1, hj⟩ | h1 <;> rw [h1] at e <;> cases e
  rw [hj] at hid; cases hid
theorem apart_len {σ : Heap} {a b : Nat} {x y : List PV} (ha : σ a = some (.cells x)) (hb : σ b = some (.cells y)) (h : x.length ≠ y.length) : Apart a b := fun e => by
  subst e; rw [ha] at hb; cases hb; exact h rfl
def encM (b : Bool) (l : List Mv) : PV := .slice b (l.map rowM)
@[simp] theorem sv_encM (b : Bool) (l : List Mv) : sv (encM b l) = encM b l := rfl
@[simp] theorem avt_encM (b : Bool) (l : List Mv) : avt (encM b l) = True := rfl
@[simp] theorem Lenx_encM (σ : Heap) (b : Bool) (l : List Mv) : Lenx .slice σ (encM b l) = ⟨True, num l.length⟩ := by simp [encM]
theorem IAx_encM {b : Bool} {l : List Mv} {k : Nat} (kk : IntKind) (h : k < l.length) : IAx (some (none, 5, true)) (encM b l) (.lit (.int kk (k : Int))) = ⟨True, .ref (rowM l[k])⟩ := by simp [encM, h, rowM]
def nm (r : Nt → Mv → PV) (args : List PV) : EV := match args with
  | [.agg c, .agg [.lit (.int .u8 k), .lit (.int .u8 i), .lit (.int .u8 a), .lit (.int .u8 b), .lit (.int .u8 d)]] => ⟨isN c ∧ okM ⟨k, i, a, b, d⟩ ∧ (decN c).q.length ≤ 4096, r (decN c) ⟨k, i, a, b, d⟩⟩
  | _ => .no
@[simp] theorem nm_mk (r : Nt → Mv → PV) (c : List PV) (k i a b d : Int) : nm r [.agg c, .agg [u8 k, u8 i, u8 a, u8 b, u8 d]] = ⟨isN c ∧ okM ⟨k, i, a, b, d⟩ ∧ (decN c).q.length ≤ 4096, r (decN c) ⟨k, i, a, b, d⟩⟩ := rfl
theorem nm_fun {f : FuncId} {r : Nt → Mv → PV} (k : ∀ n m, okN n → okM m → n.q.length ≤ 4096 → PFun P0 f [.agg (netC n), .agg (rowM m)] (r n m)) (args : List PV) (hd : (nm r args).D) : PFun P0 f args (nm r args).V := by
  unfold nm at hd ⊢
  split at hd
  · obtain ⟨h0, h1, h2⟩ := hd
    obtain ⟨k1, k2⟩ := isN_le h0
    exact pcalls.args (k _ _ k2 h1 h2) (.cons (.agg k1) (.cons (.refl _) .nil))
  · exact hd.elim
@[simp] theorem mv_eta (m : Mv) : Mv.mk m.k m.i m.a m.b m.d = m := rfl
def TQ : Tab := TP.add 27 fun a _ => nm happV a
theorem TQ_ok : TQ.ok P0 := Tab.add_fun TP_ok Try.call27 (nm_fun happens27_ok)
@[simp] theorem TQ_dom27 : TQ.dom 27 = true := rfl
@[simp] theorem TQ_ev27 (a : List PV) (σ : Heap) : TQ.ev 27 a σ = nm happV a := rfl
@[simp] theorem TQ_dom9 : TQ.dom 9 = true := rfl
@[simp] theorem TQ_ev9 (a : List PV) (σ : Heap) : TQ.ev 9 a σ = n0 (bo true) a := rfl
@[simp] theorem TQ_dom16 : TQ.dom 16 = true := rfl
@[simp] theorem TQ_ev16 (a : List PV) (σ : Heap) : TQ.ev 16 a σ = n0 (.agg (netC nt0)) a := rfl
@[simp] theorem TQ_dom15 : TQ.dom 15 = true := rfl
@[simp] theorem TQ_ev15 (a : List PV) (σ : Heap) : TQ.ev 15 a σ = n2 (fun n m => bo (sameN n m)) a := rfl
@[simp] theorem TQ_dom19 : TQ.dom 19 = true := rfl
@[simp] theorem TQ_ev19 (a : List PV) (σ : Heap) : TQ.ev 19 a σ = p2 (fun p q => bo (sameP p q)) a := rfl
@[simp] theorem TQ_dom13 : TQ.dom 13 = true := rfl
@[simp] theorem TQ_ev13 (a : List PV) (σ : Heap) : TQ.ev 13 a σ = n1 chkR a := rfl
def I11 (ms : List Mv) (n : Nt) (s : List Pk) (v : PV) (c : Int) (x : Nt) (p : Pk) (e : Int) (m : Mv) (i : Nat) (id3 : Nat) (L : Nat → Bool) (fr : Fr) (σ : Heap) : Prop :=
  (fr 0 = encM false ms) ∧ (fr 3 = .ptr id3 0) ∧ (fr 4 = v) ∧ (fr 5 = num c) ∧ (fr 6 = num (i : Int)) ∧ (Own 3 σ v (s.map rowK)) ∧ σ id3 = some (.cells (netC n)) ∧ (L 0 = true → fr 25 = .agg (netC n)) ∧ (L 1 = true → fr 26 = encM false ms) ∧ (L 2 = true → fr 27 = num (i : Int)) ∧ (L 3 = true → fr 28 = .ref (rowM m)) ∧ (L 4 = true → fr 29 = .agg (rowM m)) ∧ (L 5 = true → fr 30 = .tup [.agg (netC x), .agg (rowK p), num e]) ∧ (L 6 = true → fr 24 = .tup [.agg (netC x), .agg (rowK p), num e]) ∧ (L 7 = true → fr 31 = .agg (netC x)) ∧ (L 8 = true → fr 32 = .agg (rowK p)) ∧ (L 9 = true → fr 33 = num e) ∧ (L 10 = true → ∃ z, Apart z id3 ∧ fr 7 = .ptr z 0 ∧ σ z = some (.cells (if L 12 = true then netC x else [.lit (.slice none 0 0), .lit (.slice none 0 0)]))) ∧ (L 11 = true → ∃ w, Apart w id3 ∧ (∀ k off len full, v ≠ .msl w k off len full) ∧ fr 8 = .ptr w 0 ∧ σ w = some (.cells (if L 13 = true then rowK p else [num 0, num 0, .lit (.slice none 0 0)]))) ∧ (L 12 = true → L 10 = true) ∧ (L 13 = true → L 11 = true)

end Go.Proofs.Ytgcoikbgpkfcnaa
