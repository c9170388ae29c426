/-
  Network: what the functions compute, part U: one move.
-/
import Derived.Test.YtgcoikbgpkfcnaaNwO
set_option linter.unusedSimpArgs false
set_option linter.unusedVariables false
namespace Go.Proofs.Ytgcoikbgpkfcnaa
open Go.Lo

structure Mv where
  k : Int
  i : Int
  a : Int
  b : Int
  d : Int
def rowM (m : Mv) : List PV := [u8 m.k, u8 m.i, u8 m.a, u8 m.b, u8 m.d]
def okM (m : Mv) : Prop := (0 ≤ m.k ∧ m.k < 256) ∧ (0 ≤ m.i ∧ m.i < 256) ∧ (0 ≤ m.a ∧ m.a < 256) ∧ 0 ≤ m.b ∧ m.b < 256
@[simp] theorem inf52 : inf P0 52 = some (5, true) := by kernel_rfl
@[simp] theorem inf48 : inf P0 48 = some (1, false) := by kernel_rfl
@[simp] theorem ixi48 : ixi P0 48 = some (none, 5, true) := by kernel_rfl
@[simp] theorem len48 : lenK P0 48 = .slice := by kernel_rfl
@[simp] theorem fld520 : fldT P0 52 0 = some (0, 1, false) := by kernel_rfl
@[simp] theorem fld521 : fldT P0 52 1 = some (1, 1, false) := by kernel_rfl
@[simp] theorem fld522 : fldT P0 52 2 = some (2, 1, false) := by kernel_rfl
@[simp] theorem fld523 : fldT P0 52 3 = some (3, 1, false) := by kernel_rfl
@[simp] theorem fld524 : fldT P0 52 4 = some (4, 1, false) := by kernel_rfl
@[simp] theorem conv53 (k : IntKind) (n : Int) : evConv P0 5 3 (.lit (.int k n)) = ⟨True, .lit (.int .i64 (IntKind.i64.wrap n))⟩ := evConv_int 5 3 k .i64 n (by kernel_rfl) (by kernel_rfl)
/-- The place that a move names. -/
def mvI (n : Nt) (m : Mv) : Int := if n.q.length = 0 then 0 else m.i.tmod n.q.length
def happN (n : Nt) (m : Mv) : Nt × Pk × Int :=
  if m.k % 6 = 0 then ((sendN n ⟨m.a % 16, m.b % 16, [m.d]⟩).1, pk0, (sendN n ⟨m.a % 16, m.b % 16, [m.d]⟩).2)
  else if m.k % 6 = 1 then ((deliverN n (mvI n m)).2.1, (deliverN n (mvI n m)).1, (deliverN n (mvI n m)).2.2)
  else if m.k % 6 = 2 then ((loseN n (mvI n m)).1, pk0, (loseN n (mvI n m)).2)
  else if m.k % 6 = 3 then ((repeatN n (mvI n m)).1, pk0, (repeatN n (mvI n m)).2)
  else ((cutN n (m.a % 16) (m.b % 16) (decide (m.k % 6 = 4))).1, pk0, (cutN n (m.a % 16) (m.b % 16) (decide (m.k % 6 = 4))).2)
def happV (n : Nt) (m : Mv) : PV := .tup [.agg (netC (happN n m).1), .agg (rowK (happN n m).2.1), num (happN n m).2.2]
theorem happ_ok {n : Nt} {m : Mv} (hn : okN n) : okN (happN n m).1 ∧ okP (happN n m).2.1 := by
  unfold happN
  split
  · exact ⟨okN_send hn (by simp [okP, maxLen]), okP_zero⟩
  · split
    · exact ⟨okN_deliver hn, okP_deliver hn⟩
    · split
      · exact ⟨okN_lose hn, okP_zero⟩
      · split
        · exact ⟨okN_repeat hn, okP_zero⟩
        · exact ⟨okN_cut hn, okP_zero⟩

theorem two {P : Program} {n : Nat} {I : Fr → Heap → Prop} {G : Prop} {c : Code} {Q : PX → Fr → Heap → Prop} (main : (∀ fr σ, I fr σ → pwp P false n c Q fr σ) → G) (key : ∀ fr σ, I fr σ → pwp P false n c Q fr σ) : G := main key
def I27 (x : Nt) (f t : Int) (d : PV) (e : Int) (id4 id5 : Nat) (L : Nat → Bool) (fr : Fr) (σ : Heap) : Prop :=
  (fr 4 = .ptr id4 0) ∧ (fr 5 = .ptr id5 0) ∧ (fr 6 = num e) ∧ σ id4 = some (.cells (netC x)) ∧ σ id5 = some (.cells [num f, num t, d]) ∧ (L 0 = true → fr 88 = .agg (netC x)) ∧ (L 1 = true → fr 89 = .agg [num f, num t, d]) ∧ (L 2 = true → fr 90 = num e)
def happR (n : Nt) (m : Mv) : PV := .tup [.agg (netC (happN n m).1), if m.k % 6 = 1 then .agg (rowK (happN n m).2.1) else pkZ, num (happN n m).2.2]
theorem happ_le (n : Nt) (m : Mv) : PLe (happR n m) (happV n m) := by
  unfold happR happV
  by_cases h1 : m.k % 6 = 1
  · rw [if_pos h1]; exact .refl _
  · rw [if_neg h1]
    have : (happN n m).2.1 = pk0 := by
      unfold happN
      rw [if_neg h1]
      by_cases h0 : m.k % 6 = 0
      · rw [if_pos h0]
      · rw [if_neg h0]
        by_cases h2 : m.k % 6 = 2
        · rw [if_pos h2]
        · rw [if_neg h2]
          by_cases h3 : m.k % 6 = 3
          · rw [if_pos h3]
          · rw [if_neg h3]
    rw [this]
    exact .tup (.cons (.refl _) (.cons pkZ_le (.cons (.refl _) .nil)))
set_option maxHeartbeats 4000000 in
set_option maxRecDepth 8000 in
theorem happens27_raw (n : Nt) (m : Mv) (hn : okN n) (hm : okM m) (hq4 : n.q.length ≤ 4096) : PFun P0 27 [.agg (netC n), .agg (rowM m)] (happR n m) := by
  obtain ⟨⟨hk0, hk1⟩, ⟨hi0, hi1⟩, ⟨ha0, ha1⟩, hb0, hb1⟩ := hm
  refine pcalls_body Try.func27 rfl rfl rfl (by show 2 ≤ _; decide) ?_
  have hq := hn.1
  have hal := hn.2
  have wi : IntKind.i64.wrap m.i = m.i := wrap_i64 (by omega) (by omega)
  have wa : IntKind.i64.wrap m.a = m.a := wrap_i64 (by omega) (by omega)
  have wb : IntKind.i64.wrap m.b = m.b := wrap_i64 (by omega) (by omega)
  have ta : m.a.tmod 16 = m.a % 16 := Int.tmod_eq_emod_of_nonneg ha0
  have tb : m.b.tmod 16 = m.b % 16 := Int.tmod_eq_emod_of_nonneg hb0
  have tk : m.k.tmod 6 = m.k % 6 := Int.tmod_eq_emod_of_nonneg hk0
  obtain ⟨K, hK⟩ : ∃ K, mvI n m = K := ⟨_, rfl⟩
  apply two (P := P0) (n := 91) (I := fun fr σ => ∃ id2 id3 id4 id5, (Apart id3 id2 ∧ Apart id4 id2 ∧ Apart id4 id3 ∧ Apart id5 id2 ∧ Apart id5 id3 ∧ Apart id5 id4) ∧ fr 2 = .ptr id2 0 ∧ fr 3 = .ptr id3 0 ∧ fr 4 = .ptr id4 0 ∧ fr 5 = .ptr id5 0 ∧ fr 6 = num 0 ∧ fr 7 = num K ∧ σ id2 = some (.cells (netC n)) ∧ σ id3 = some (.cells (rowM m)) ∧ σ id4 = some (.cells [.lit (.slice none 0 0), .lit (.slice none 0 0)]) ∧ σ id5 = some (.cells [num 0, num 0, .lit (.slice none 0 0)]))
  case main =>
    intro cont
    refine pwp_goK TP_ok [4, 18] ?_
    by_cases hz : n.q.length = 0
    · have hz' : (n.q.length : Int) = 0 := by omega
      have hK0 : K = 0 := by rw [← hK]; unfold mvI; rw [if_pos hz]
      subst hK0
      simp (config := { contextual := true }) [netC, rowM, hz', hz]
      intro id2 id3 h1 id4 h2 h3 id5 h4 h5 h6
      refine pwpT_go (cont _ _ ⟨id2, id3, id4, id5, ⟨h1, h3, h2, h6, h5, h4⟩, ?_⟩)
      simp [netC, rowM, *]
    · have hz' : (0 : Int) < (n.q.length : Int) := by omega
      have hK0 : m.i.tmod n.q.length = K := by rw [← hK]; unfold mvI; rw [if_neg hz]
      have hz2 : (n.q.length : Int) ≠ 0 := by omega
      have hz3 : 0 < n.q.length := by omega
      have hnil : ¬ n.q = [] := fun e => hz (by rw [e]; rfl)
      simp (config := { contextual := true }) [netC, rowM, hz', wi, hK0, hz2, hz3, hnil]
      intro id2 id3 h1 id4 h2 h3 id5 h4 h5 h6
      refine pwpT_go (cont _ _ ⟨id2, id3, id4, id5, ⟨h1, h3, h2, h6, h5, h4⟩, ?_⟩)
      simp [netC, rowM, *]
  case key =>
    rintro fr σ ⟨id2, id3, id4, id5, ⟨h32, h42, h43, h52, h53, h54⟩, e2, e3, e4, e5, e6, e7, s2, s3, s4, s5⟩
    apply two (P := P0) (n := 91) (I := fun fr σ => ∃ id4 id5 x f t d e, Apart id5 id4 ∧ happR n m = .tup [.agg (netC x), .agg [num f, num t, d], num e] ∧ (sv d = d ∧ avt d = True ∧ isCell d = true ∧ isCell1 d = true ∧ cellsP d = [d]) ∧ fr 4 = .ptr id4 0 ∧ fr 5 = .ptr id5 0 ∧ fr 6 = num e ∧ σ id4 = some (.cells (netC x)) ∧ σ id5 = some (.cells [num f, num t, d]))
    case main =>
      intro cont
      obtain hc | hc | hc | hc | hc | hc : m.k % 6 = 0 ∨ m.k % 6 = 1 ∨ m.k % 6 = 2 ∨ m.k % 6 = 3 ∨ m.k % 6 = 4 ∨ m.k % 6 = 5 := by omega
      all_goals rw [hc] at tk
      all_goals refine pwp_drawT TP_ok 10 mixed (by kernel_rfl) ?_
      · obtain ⟨x, e, hX⟩ : ∃ x e, sendN n ⟨m.a % 16, m.b % 16, [m.d]⟩ = (x, e) := ⟨_, _, rfl⟩
        have hR : happR n m = .tup [.agg (netC x), .agg [num 0, num 0, .lit (.slice none 0 0)], num e] := by simp [happR, happN, hc, hK, hX, pkZ]
        simp [e2, e3, e4, e5, e6, e7, s2, s3, s4, s5, rowM, netC, wa, wb, ta, tb, tk, hq, hal, h32, h32.symm, h42, h42.symm, h43, h43.symm, h52, h52.symm, h53, h53.symm, h54, h54.symm, sendV, neV, hX]
        refine pwpT_go (cont _ _ ⟨id4, id5, x, 0, 0, .lit (.slice none 0 0), e, h54, hR, ⟨rfl, rfl, rfl, rfl, rfl⟩, ?_⟩)
        simp [e2, e3, e4, e5, e6, e7, s2, s3, s4, s5, rowM, netC, wa, wb, ta, tb, tk, hq, hal, h32, h32.symm, h42, h42.symm, h43, h43.symm, h52, h52.symm, h53, h53.symm, h54, h54.symm, hX]
      · obtain ⟨p, x, e, hX⟩ : ∃ p x e, deliverN n K = (p, x, e) := ⟨_, _, _, rfl⟩
        have hR : happR n m = .tup [.agg (netC x), .agg [num p.f, num p.t, encB false p.d], num e] := by simp [happR, happN, hc, hK, hX, rowK]
        simp [e2, e3, e4, e5, e6, e7, s2, s3, s4, s5, rowM, netC, wa, wb, ta, tb, tk, hq, hal, h32, h32.symm, h42, h42.symm, h43, h43.symm, h52, h52.symm, h53, h53.symm, h54, h54.symm, deliverV, hX, rowK]
        refine pwpT_go (cont _ _ ⟨id4, id5, x, p.f, p.t, encB false p.d, e, h54, hR, ⟨rfl, rfl, rfl, rfl, rfl⟩, ?_⟩)
        simp [e2, e3, e4, e5, e6, e7, s2, s3, s4, s5, rowM, netC, wa, wb, ta, tb, tk, hq, hal, h32, h32.symm, h42, h42.symm, h43, h43.symm, h52, h52.symm, h53, h53.symm, h54, h54.symm, hX]
      · obtain ⟨x, e, hX⟩ : ∃ x e, loseN n K = (x, e) := ⟨_, _, rfl⟩
        have hR : happR n m = .tup [.agg (netC x), .agg [num 0, num 0, .lit (.slice none 0 0)], num e] := by simp [happR, happN, hc, hK, hX, pkZ]
        simp [e2, e3, e4, e5, e6, e7, s2, s3, s4, s5, rowM, netC, wa, wb, ta, tb, tk, hq, hal, h32, h32.symm, h42, h42.symm, h43, h43.symm, h52, h52.symm, h53, h53.symm, h54, h54.symm, loseV, neV, hX]
        refine pwpT_go (cont _ _ ⟨id4, id5, x, 0, 0, .lit (.slice none 0 0), e, h54, hR, ⟨rfl, rfl, rfl, rfl, rfl⟩, ?_⟩)
        simp [e2, e3, e4, e5, e6, e7, s2, s3, s4, s5, rowM, netC, wa, wb, ta, tb, tk, hq, hal, h32, h32.symm, h42, h42.symm, h43, h43.symm, h52, h52.symm, h53, h53.symm, h54, h54.symm, hX]
      · obtain ⟨x, e, hX⟩ : ∃ x e, repeatN n K = (x, e) := ⟨_, _, rfl⟩
        have hR : happR n m = .tup [.agg (netC x), .agg [num 0, num 0, .lit (.slice none 0 0)], num e] := by simp [happR, happN, hc, hK, hX, pkZ]
        simp [e2, e3, e4, e5, e6, e7, s2, s3, s4, s5, rowM, netC, wa, wb, ta, tb, tk, hq, hal, h32, h32.symm, h42, h42.symm, h43, h43.symm, h52, h52.symm, h53, h53.symm, h54, h54.symm, repeatV, neV, hX]
        refine pwpT_go (cont _ _ ⟨id4, id5, x, 0, 0, .lit (.slice none 0 0), e, h54, hR, ⟨rfl, rfl, rfl, rfl, rfl⟩, ?_⟩)
        simp [e2, e3, e4, e5, e6, e7, s2, s3, s4, s5, rowM, netC, wa, wb, ta, tb, tk, hq, hal, h32, h32.symm, h42, h42.symm, h43, h43.symm, h52, h52.symm, h53, h53.symm, h54, h54.symm, hX]
      · obtain ⟨x, e, hX⟩ : ∃ x e, cutN n (m.a % 16) (m.b % 16) true = (x, e) := ⟨_, _, rfl⟩
        have hR : happR n m = .tup [.agg (netC x), .agg [num 0, num 0, .lit (.slice none 0 0)], num e] := by simp [happR, happN, hc, hK, hX, pkZ]
        simp [e2, e3, e4, e5, e6, e7, s2, s3, s4, s5, rowM, netC, wa, wb, ta, tb, tk, hq, hal, h32, h32.symm, h42, h42.symm, h43, h43.symm, h52, h52.symm, h53, h53.symm, h54, h54.symm, cutV, neV, hX]
        refine pwpT_go (cont _ _ ⟨id4, id5, x, 0, 0, .lit (.slice none 0 0), e, h54, hR, ⟨rfl, rfl, rfl, rfl, rfl⟩, ?_⟩)
        simp [e2, e3, e4, e5, e6, e7, s2, s3, s4, s5, rowM, netC, wa, wb, ta, tb, tk, hq, hal, h32, h32.symm, h42, h42.symm, h43, h43.symm, h52, h52.symm, h53, h53.symm, h54, h54.symm, hX]
      · obtain ⟨x, e, hX⟩ : ∃ x e, cutN n (m.a % 16) (m.b % 16) false = (x, e) := ⟨_, _, rfl⟩
        have hR : happR n m = .tup [.agg (netC x), .agg [num 0, num 0, .lit (.slice none 0 0)], num e] := by simp [happR, happN, hc, hK, hX, pkZ]
        simp [e2, e3, e4, e5, e6, e7, s2, s3, s4, s5, rowM, netC, wa, wb, ta, tb, tk, hq, hal, h32, h32.symm, h42, h42.symm, h43, h43.symm, h52, h52.symm, h53, h53.symm, h54, h54.symm, cutV, neV, hX]
        refine pwpT_go (cont _ _ ⟨id4, id5, x, 0, 0, .lit (.slice none 0 0), e, h54, hR, ⟨rfl, rfl, rfl, rfl, rfl⟩, ?_⟩)
        simp [e2, e3, e4, e5, e6, e7, s2, s3, s4, s5, rowM, netC, wa, wb, ta, tb, tk, hq, hal, h32, h32.symm, h42, h42.symm, h43, h43.symm, h52, h52.symm, h53, h53.symm, h54, h54.symm, hX]
    case key =>
      rintro fr σ ⟨id4, id5, x, f, t, d, e, hne, hR, ⟨d1, d2, d3, d4, d5⟩, e4, e5, e6, s4, s5⟩
      rw [hR]
      refine pwp_drawI (k := 5) (I := I27 x f t d e id4 id5) mixed (by kernel_rfl) (by kernel_rfl) (by decide) ?_ ?_ ?_
      · exact ⟨e4, e5, e6, by simpa using s4, by simpa using s5, nofun, nofun, nofun⟩
      · clear e4 e5 e6 s4 s5
        rintro L fr σ i o hi ho hLi hp ⟨e4, e5, e6, s4, s5, i0, i1, i2⟩
        refine pops_pst TP_ok (show pT P0 TP false 91 _ _ [o] fr σ {} from ?_)
        rcases (show i = 0 ∨ i = 1 ∨ i = 2 ∨ i = 3 ∨ i = 4 by omega) with rfl | rfl | rfl | rfl | rfl
        · simp at ho; subst ho
          simp [e4, e5, e6, s4, s5, hne, hne.symm, netC, d1, d2, d3, d4, d5]
          exact ⟨by simp [e4], by simp [e5], by simp [e6], by simpa [upd, hne, hne.symm] using s4, by simpa [upd, hne, hne.symm] using s5, fun _ => by simp [netC], by simpa [upd] using i1, by simpa [upd] using i2⟩
        · simp at ho; subst ho
          simp [e4, e5, e6, s4, s5, hne, hne.symm, netC, d1, d2, d3, d4, d5]
          exact ⟨by simp [e4], by simp [e5], by simp [e6], by simpa [upd, hne, hne.symm] using s4, by simpa [upd, hne, hne.symm] using s5, by simpa [upd] using i0, fun _ => by simp, by simpa [upd] using i2⟩
        · simp at ho; subst ho
          simp [e4, e5, e6, s4, s5, hne, hne.symm, netC, d1, d2, d3, d4, d5]
          exact ⟨by simp [e4], by simp [e5], by simp [e6], by simpa [upd, hne, hne.symm] using s4, by simpa [upd, hne, hne.symm] using s5, by simpa [upd] using i0, by simpa [upd] using i1, fun _ => by simp⟩
        · simp at ho; subst ho
          have l0 := hp 0 (of_decide_eq_true (by kernel_rfl))
          have q0 := i0 l0
          simp [e4, e5, e6, s4, s5, q0, hne, hne.symm, netC, d1, d2, d3, d4, d5]
          exact ⟨by simp [e4], by simp [e5], by simp [e6], by simp [netC], by simpa [upd, hne, hne.symm] using s5, by simpa [upd] using i0, by simpa [upd] using i1, by simpa [upd] using i2⟩
        · simp at ho; subst ho
          have l1 := hp 1 (of_decide_eq_true (by kernel_rfl))
          have q1 := i1 l1
          simp [e4, e5, e6, s4, s5, q1, hne, hne.symm, netC, d1, d2, d3, d4, d5]
          exact ⟨by simp [e4], by simp [e5], by simp [e6], by simpa [upd, hne, hne.symm] using s4, by simp, by simpa [upd] using i0, by simpa [upd] using i1, by simpa [upd] using i2⟩
      · clear e4 e5 e6 s4 s5
        rintro L fr σ hall ⟨e4, e5, e6, s4, s5, i0, i1, i2⟩
        have q0 := i0 (hall 0 (by omega))
        have q1 := i1 (hall 1 (by omega))
        have q2 := i2 (hall 2 (by omega))
        refine pops_pst TP_ok (show pT P0 TP false 91 _ _ [_] fr σ {} from ?_)
        simp [e4, e5, e6, s4, s5, q2, netC, d1, d2, d3, d4, d5]
theorem happens27_ok (n : Nt) (m : Mv) (hn : okN n) (hm : okM m) (hq4 : n.q.length ≤ 4096) : PFun P0 27 [.agg (netC n), .agg (rowM m)] (happV n m) := pfun_wk (happens27_raw n m hn hm hq4) (happ_le n m)
end Go.Proofs.Ytgcoikbgpkfcnaa
