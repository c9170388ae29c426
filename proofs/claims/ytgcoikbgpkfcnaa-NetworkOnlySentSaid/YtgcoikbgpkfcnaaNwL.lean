/-
  Network: what the functions compute, part L: Cut.
-/
import Derived.Test.YtgcoikbgpkfcnaaNwJ
import Derived.Test.YtgcoikbgpkfcnaaNwK
set_option linter.unusedSimpArgs false
set_option linter.unusedVariables false
namespace Go.Proofs.Ytgcoikbgpkfcnaa
open Go.Lo

theorem rowsL_two (l : List Lk) : ∀ r ∈ l.map rowL, r.length = 2 := fun r hr => by
  obtain ⟨p, _, rfl⟩ := List.mem_map.1 hr; rfl
theorem rowsL_new (l : List Lk) : ∀ r ∈ l.map rowL, r.length = 2 ∧ ∀ c ∈ r, isCell1 c = true := fun r hr => by
  obtain ⟨p, _, rfl⟩ := List.mem_map.1 hr
  exact ⟨rfl, fun c hc => by simp [rowL] at hc; rcases hc with rfl | rfl <;> rfl⟩
theorem rowsL_frz (m : Nat) (σ : Heap) (l : List Lk) : (l.map rowL).flatten.map (frzN m σ) = (l.map rowL).flatten := by
  induction l with
  | nil => rfl
  | cons p l ih => simp only [List.map_cons, List.flatten_cons, List.map_append, ih, rowL, List.map_nil, frzN_num]
theorem chunkL {σf : Heap} (m : Nat) (full : Bool) (l : List Lk) : PV.slice full (chunks 2 l.length ((l.map rowL).flatten.map (frzN m σf))) = encA full l := by
  rw [rowsL_frz, show l.length = (l.map rowL).length by simp, Go.Lo.chunks_flatten (l.map rowL) (rowsL_two l)]; rfl
/-- Cells with one that is no number are no row's. -/
theorem neL {c : PV} {cs : List PV} {l : List Lk} (hc : c ∈ cs) (hn : ∀ z, c ≠ num z) : cs ≠ (l.map rowL).flatten := fun e => by
  rw [e] at hc
  obtain ⟨r, h1, h2⟩ := List.mem_flatten.1 hc
  obtain ⟨p, _, rfl⟩ := List.mem_map.1 h1
  simp [rowL] at h2
  rcases h2 with h | h <;> exact hn _ h
theorem encQ_ne (l : List Pk) : ∀ z, encQ false l ≠ num z := fun z e => by cases e
/-- A result whose list of cuts has grown. -/
theorem pcalls_ownC {f : FuncId} {args : List PV} {σ : Heap} {m : Nt} {e : Int} (h : pcalls P0 f args σ fun o σ' => ∃ V, o = .val (.tup [.agg [encQ false m.q, V], num e]) ∧ Own 2 σ' V (m.a.map rowL)) : pcalls P0 f args σ fun o _ => o = .val (.tup [.agg (netC m), num e]) := by
  refine pcalls.wk (pcalls_frz (h.mono ?_))
  rintro o σ' ⟨v, rfl, ho⟩
  have fin : ∀ {u}, PLe u (encA false m.a) → PLe (.tup [.agg [encQ false m.q, u], num e]) (.tup [.agg (netC m), num e]) := fun hu => PLe.tup (.cons (.agg (.cons (.refl _) (.cons hu .nil))) (.cons (.refl _) .nil))
  obtain ⟨hk, ⟨rfl, hz⟩ | ⟨id, full, rfl, hid⟩ | rfl⟩ := ho
  · have : m.a = [] := by simpa using hz
    refine ⟨0, Heap.empty, .none, _, rfl, fin ?_⟩
    rw [this]; exact PLe.nil false
  · refine ⟨3, Heap.empty.set id (.cells (m.a.map rowL).flatten), Frz.set Frz.none hid, .tup [.agg [encQ false m.q, encA full m.a], num e], ?_, fin (PLe.unfull _ _)⟩
    have hch := chunkL (σf := Heap.empty.set id (.cells (m.a.map rowL).flatten)) 0 full m.a
    have hl := (flatten_getD hk).1
    simp only [frzO, frzN_tup, frzN_agg, List.map_cons, List.map_nil, frzN_msl, frzN_num, frzN_encQ]
    rw [Heap.set_at, if_pos (show SameId id id from rfl)]
    simp only [cellsO_some, FZM_some, List.drop_zero]
    rw [if_pos (by rw [hl]; omega), show (m.a.map rowL).length = m.a.length by simp, hch]
  · exact ⟨0, Heap.empty, .none, .tup [.agg [encQ false m.q, encA true m.a], num e], rfl, fin (PLe.unfull _ _)⟩

def alo (r : List Lk → Int → Int → Bool → PV) (args : List PV) : EV := match args with
  | [a, .agg [.lit (.int .i64 x), .lit (.int .i64 y)], .lit (.bool on)] => ⟨isAp a, r (decA a) x y on⟩
  | _ => .no
@[simp] theorem alo_mk (r : List Lk → Int → Int → Bool → PV) (a : PV) (x y : Int) (on : Bool) : alo r [a, .agg [num x, num y], bo on] = ⟨isAp a, r (decA a) x y on⟩ := rfl
theorem alo_fun {f : FuncId} {r : List Lk → Int → Int → Bool → PV} (k : ∀ l x y on, PFun P0 f [encA false l, .agg [num x, num y], bo on] (r l x y on)) (args : List PV) (hd : (alo r args).D) : PFun P0 f args (alo r args).V := by
  unfold alo at hd ⊢
  split at hd
  · obtain ⟨h1, h2⟩ := isAp_le hd
    exact pcalls.args (k _ _ _ _) (.cons h1 (.cons (.refl _) (.cons (.refl _) .nil)))
  · exact hd.elim
def TJ : Tab := TI.add 39 fun a _ => alo cIt a
theorem TJ_ok : TJ.ok P0 := Tab.add_fun TI_ok Try.call39 (alo_fun cuts39_ok)
@[simp] theorem TJ_dom39 : TJ.dom 39 = true := rfl
@[simp] theorem TJ_ev39 (a : List PV) (σ : Heap) : TJ.ev 39 a σ = alo cIt a := rfl
@[simp] theorem TJ_dom13 : TJ.dom 13 = true := rfl
@[simp] theorem TJ_ev13 (a : List PV) (σ : Heap) : TJ.ev 13 a σ = n1 chkR a := rfl
@[simp] theorem TJ_dom14 : TJ.dom 14 = true := rfl
@[simp] theorem TJ_ev14 (a : List PV) (σ : Heap) : TJ.ev 14 a σ = n1 chkR a := rfl
@[simp] theorem TJ_dom37 : TJ.dom 37 = true := rfl
@[simp] theorem TJ_ev37 (a : List PV) (σ : Heap) : TJ.ev 37 a σ = i2 (fun x y => .agg (rowL (btw x y))) a := rfl
@[simp] theorem TJ_dom32 : TJ.dom 32 = true := rfl
@[simp] theorem TJ_ev32 (a : List PV) (σ : Heap) : TJ.ev 32 a σ = g1 (fun x y => bo (vL (x, y))) a := rfl
@[simp] theorem TJ_dom34 : TJ.dom 34 = true := rfl
@[simp] theorem TJ_ev34 (a : List PV) (σ : Heap) : TJ.ev 34 a σ = i1 (fun x => bo (decide (0 ≤ x) && decide (x < 16))) a := rfl
@[simp] theorem TJ_dom40 : TJ.dom 40 = true := rfl
@[simp] theorem TJ_ev40 (a : List PV) (σ : Heap) : TJ.ev 40 a σ = nii (fun n a b => bo (n.a.contains (btw a b))) a := rfl

theorem cutS_few (A : List Lk) (l : Lk) (on : Bool) : (cutS A l on).length ≤ 120 := by
  unfold cutS
  refine Nat.le_trans (List.length_filter_le _ _) ?_
  decide +kernel

def cutR (n : Nt) (a b : Int) (on : Bool) : PV := if vN n then (if vL (btw a b) then .tup [.agg (netC ⟨n.q, cutS n.a (btw a b) on⟩), num 0] else .tup [netZ, num 1]) else .tup [netZ, num 460]
theorem cut20_ok (n : Nt) (a b : Int) (on : Bool) (hn : okN n) : PFun P0 20 [.agg (netC n), num a, num b, bo on] (cutR n a b on) := by
  have hq := hn.1
  have hal := hn.2
  unfold cutR
  by_cases hv : vN n = true
  · rw [if_pos hv]
    by_cases hl : vL (btw a b) = true
    · rw [if_pos hl]
      refine pcalls_ownC (m := ⟨n.q, cutS n.a (btw a b) on⟩) ?_
      refine pcalls_body Try.func20 rfl rfl rfl (by show 4 ≤ _; decide) (pwp_go TJ_ok ?_)
      have hl' : vL (min a b, max a b) = true := hl
      simp (config := { contextual := true }) [netC, hq, hal, hv, hl, hl', chkR, rowL, btw]
      intro id4 id8 a1 id10 a2 a3
      have hlen := cutS_few n.a (min a b, max a b) on
      refine pwp_rangeT TJ_ok (fun k σ => ∃ v, σ id8 = some (.cells [encQ false n.q, v]) ∧ Own 2 σ v (((cutS n.a (min a b, max a b) on).take k).map rowL)) (cutsIt (x := min a b) (y := max a b) (on := on) hal) (by simp; rfl) Try.call46 (fun v hv => by rw [cVs_one _ _ _ v hv]; rfl) (by decide)
        ?_ ?_ ?_
      · exact ⟨.lit (.slice none 0 0), by simp, Own.nil 2 _⟩
      · rintro k σ hk ⟨v, s8, ho⟩
        have hk' : k < (cutS n.a (min a b, max a b) on).length := by rw [← cVs_length]; exact hk
        have hget : (cVs n.a (min a b, max a b) on)[k] = [.agg [num (cutS n.a (min a b, max a b) on)[k].1, num (cutS n.a (min a b, max a b) on)[k].2]] := by simp [cVs]
        rw [hget, List.take_succ_eq_append_getElem hk']
        generalize (cutS n.a (min a b, max a b) on)[k] = c at *
        obtain ⟨l, hl⟩ : ∃ l, (cutS n.a (min a b, max a b) on).take k = l := ⟨_, rfl⟩
        have hll : l.length ≤ 120 := by rw [← hl]; simp; omega
        rw [hl] at ho ⊢
        simp [-NEW_def, s8]
        refine fun id11 h11 => ?_
        have c1 := frs.ne h11 s8
        have ho' := ho.new (id := id11) (x := .cells [num c.1, num c.2]) h11
        obtain ⟨o1, o2⟩ := ho'.sv
        simp [s8, c1, o1, o2]
        refine own_append (k := 2) (b := 16) (rows := l.map rowL) (new := [rowL c]) (zs := [num 0, num 0]) ho' elem23 (by decide) rfl (by decide) isl23 (yv_row fun r hr => by simp at hr; subst hr; rfl) (by simpa using rowsL_new [c]) (by simp; omega) ?_
        intro V σ2 hV hK _
        obtain ⟨v1, v2⟩ := hV.sv
        obtain ⟨q1, q2, q3⟩ := hV.cell
        have e : (σ.set id11 (PObj.cells [num c.1, num c.2])) id8 = some (.cells [encQ false n.q, v]) := by simp [c1, s8]
        have t8 : σ2 id8 = some (.cells [encQ false n.q, v]) := by
          rw [hK id8 (by rw [e]; simp) (ho'.ne e (neL (c := encQ false n.q) (by simp) (encQ_ne _))), e]
        have hrow : l.map rowL ++ [rowL c] = (l ++ [c]).map rowL := by simp
        rw [hrow] at hV
        simp [v1, v2, t8, q1, q2, q3, -List.map_append]
        exact hV.set fun cs e => by rw [t8] at e; cases e; exact neL (c := encQ false n.q) (by simp) (encQ_ne _)
      · rintro σ ⟨v, s8, ho⟩
        obtain ⟨o1, o2⟩ := ho.sv
        rw [cVs_length, List.take_length] at ho
        obtain ⟨q1, q2, q3⟩ := ho.cell
        simp [s8, o1, o2, q1, q2, q3]
        exact ho.set fun cs e => by rw [s8] at e; cases e; exact neL (c := encQ false n.q) (by simp) (encQ_ne _)
    · rw [if_neg hl]
      have hl : vL (min a b, max a b) = false := by simpa [btw] using hl
      refine pcalls_body Try.func20 rfl rfl rfl (by show 4 ≤ _; decide) (pwp_go TJ_ok ?_)
      simp (config := { contextual := true }) [netC, hq, hal, hv, hl, chkR, rowL, btw, netZ]
  · rw [if_neg hv]
    refine pcalls_body Try.func20 rfl rfl rfl (by show 4 ≤ _; decide) (pwp_go TJ_ok ?_)
    simp (config := { contextual := true }) [netC, hq, hal, hv, chkR, netZ]
end Go.Proofs.Ytgcoikbgpkfcnaa
