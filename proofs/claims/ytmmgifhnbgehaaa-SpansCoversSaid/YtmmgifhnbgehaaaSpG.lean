/-
  Spans: what the functions compute, part G: the reference's lists.
-/
import Derived.Test.YtmmgifhnbgehaaaSpF
set_option linter.unusedSimpArgs false
set_option linter.unusedVariables false
namespace Go.Proofs.Ytmmgifhnbgehaaa
open Go.Lo

theorem flat_len (l : List Sp) : (l.map encS).flatten.length = l.length * 2 := by
  have := (flatten_getD (k := 2) (rows := l.map encS) encS_len).1
  simpa using this
theorem flat_last (l : List Sp) (s : Sp) : ((l ++ [s]).map encS).flatten[l.length * 2 + 1]? = some (num s.2) := by
  rw [List.map_append, List.flatten_append, List.getElem?_append_right (by rw [flat_len]; omega), flat_len]
  simp [encS]
theorem flat_store (l : List Sp) (s : Sp) (z : Int) : setR ((l ++ [s]).map encS).flatten (l.length * 2 + 1) [num z] = ((l ++ [(s.1, z)]).map encS).flatten := by
  simp only [List.map_append, List.flatten_append, setR]
  rw [List.take_append, flat_len]
  rw [List.take_of_length_le (by rw [flat_len]; omega)]
  rw [show l.length * 2 + 1 - l.length * 2 = 1 by omega]
  rw [List.drop_of_length_le (by rw [List.length_append, flat_len]; simp [encS])]
  simp [encS]

/-- The list under way. -/
def OutL (σ : Heap) (v : PV) (l : List Sp) : Prop := (v = .slice true [] ∧ l = []) ∨ ∃ id, v = .msl id 2 0 l.length false ∧ σ id = some (.cells (l.map encS).flatten)
theorem OutL.own {σ : Heap} {v : PV} {l : List Sp} (h : OutL σ v l) : Own 2 σ v (l.map encS) := by
  rcases h with ⟨rfl, rfl⟩ | ⟨id, rfl, hs⟩
  · exact ⟨encS_len, .inr (.inr rfl)⟩
  · exact ⟨encS_len, .inr (.inl ⟨id, false, by simp, hs⟩)⟩

theorem outL_append {σ : Heap} {v : PV} {l : List Sp} {s : Sp} {C : PV → Heap → Prop} (h : OutL σ v l) (hl : l.length ≤ 1024) (hC : ∀ V σ', OutL σ' V (l ++ [s]) → sv V = V → avt V = True → C V σ') : appendP P0 σ 22 22 v (.slice true [encS s]) C :=
  own_append (rows := l.map encS) (new := [encS s]) h.own elem22 (by decide) rfl (by decide) isl22 (yv_row (by simp [encS])) (by simp [encS]) (by simp; omega) fun V σ' hV _ hN => by
    obtain ⟨id, h1, h2⟩ := hN (by simp)
    exact hC V σ' (.inr ⟨id, by rw [h1]; simp, by rw [h2]; simp⟩) hV.sv.1 hV.sv.2

set_option maxHeartbeats 1000000 in
theorem refSpans_ok (x : Bool) (g : Nat → Bool) : PFun P0 30 [.slice x (rowsP g)] (encL false (runsF g)) := by
  refine pcalls_own (k := 2) ?_
  refine pcalls_body Try.func30 rfl rfl rfl (by show 1 ≤ _; decide) (pwp_run n_ok ?_)
  simp
  refine pwp_loop (fun N fr σ => ∃ i v, N = 1024 - i ∧ i ≤ 1024 ∧ fr 0 = .slice x (rowsP g) ∧ fr 3 = v ∧ fr 4 = num (i : Nat) ∧ OutL σ v (runsTo g i)) (N := 1024) ⟨0, .slice true [], by simp, by simp, by simp, by simp, by simp, .inl ⟨rfl, runsTo_zero g⟩⟩ ?_
  rintro N fr σ ⟨i, v, rfl, hi, e0, e3, e4, ho⟩
  refine pwp_run n_ok ?_
  by_cases hlt : i < 1024
  · have hlt' : (i : Int) < 1024 := by omega
    have wi : IntKind.i64.wrap ((i : Int) + 1) = (i : Int) + 1 := wrap_i64 (by omega) (by omega)
    cases hg : g i with
    | false =>
      simp [e0, e3, e4, hlt, hlt', hg, wi]
      exact ⟨1024 - (i + 1), by omega, i + 1, rfl, by omega, by simp, by rw [runsTo_skip hg]; exact ho⟩
    | true =>
      have hn := runsTo_snoc hg hlt
      have hl := runsTo_length g i
      generalize runsTo g i = l at *
      have fin : ∀ V σ', OutL σ' V (runsTo g (i + 1)) → sv V = V → avt V = True → avt V ∧ ∃ N', N' < 1024 - i ∧ ∃ i_1 : Nat, N' = 1024 - i_1 ∧ i_1 ≤ 1024 ∧ (i : Int) + 1 = (i_1 : Int) ∧ OutL σ' (sv V) (runsTo g i_1) := fun V σ' hV h1 h2 =>
        ⟨by rw [h2]; trivial, 1024 - (i + 1), by omega, i + 1, rfl, by omega, by simp, by rw [h1]; exact hV⟩
      rcases List.eq_nil_or_concat l with rfl | ⟨l0, s, hl0⟩
      · have ho' := ho
        have hout : ∀ v, OutL σ v [] → appendP P0 σ 22 22 v (PV.slice true [[PV.lit (Value.int IntKind.i64 ↑i), PV.lit (Value.int IntKind.i64 (↑i + 1))]]) fun V σ' =>
            avt V ∧ ∃ N', N' < 1024 - i ∧ ∃ i_1 : Nat, N' = 1024 - i_1 ∧ i_1 ≤ 1024 ∧ (i : Int) + 1 = (i_1 : Int) ∧ OutL σ' (sv V) (runsTo g i_1) := fun v hv =>
          outL_append (s := ((i : Int), (i : Int) + 1)) hv (by simp) fun V σ' hV => fin V σ' (by rw [hn]; exact hV)
        rcases ho with ⟨rfl, _⟩ | ⟨id, rfl, hs⟩
        · simp [e0, e3, e4, hlt, hlt', hg, wi]
          exact hout _ ho'
        · simp [e0, e3, e4, hlt, hlt', hg, wi, hs]
          exact hout _ ho'
      · rw [List.concat_eq_append] at hl0
        subst hl0
        rw [snoc_concat] at hn
        have ho' := ho
        rcases ho with ⟨_, h⟩ | ⟨id, rfl, hs⟩
        · simp at h
        · have hl2 : l0.length + 1 ≤ 1024 := by simpa using hl
          have wn : IntKind.i64.wrap ((l0.length : Int)) = (l0.length : Int) := wrap_i64 (by omega) (by omega)
          have hlast := flat_last l0 s
          have hlen := flat_len (l0 ++ [s])
          have hst := flat_store l0 s ((i : Int) + 1)
          by_cases hsi : s.2 = (i : Int)
          · rw [if_pos hsi] at hn
            generalize ((l0 ++ [s]).map encS).flatten = cs at *
            rw [List.length_append, List.length_singleton] at hlen
            simp [e0, e3, e4, hlt, hlt', hg, wi, hs, wn, hlast, hlen, hsi]
            exact ⟨by omega, by omega, by omega, by omega, 1024 - (i + 1), by omega, i + 1, rfl, by omega, by simp, .inr ⟨id, by rw [hn]; simp, by rw [hn, hst]; simp [Heap.set_apply]⟩⟩
          · rw [if_neg hsi] at hn
            generalize ((l0 ++ [s]).map encS).flatten = cs at *
            rw [List.length_append, List.length_singleton] at hlen
            have ho2 : OutL σ (PV.msl id 2 0 (l0.length + 1) false) (l0 ++ [s]) := by simpa using ho'
            have app := outL_append (s := ((i : Int), (i : Int) + 1)) ho2 hl fun V σ' hV => fin V σ' (by rw [hn]; exact hV)
            simp [e0, e3, e4, hlt, hlt', hg, wi, hs, wn, hlast, hlen, hsi]
            exact ⟨by omega, by omega, app⟩
  · have hlt' : ¬ (i : Int) < 1024 := by omega
    have : i = 1024 := by omega
    subst this
    rw [runsTo_all] at ho
    have hw := ho.own
    obtain ⟨v1, v2⟩ := hw.sv
    simp [e0, e3, e4, v1, v2, hw]
end Go.Proofs.Ytmmgifhnbgehaaa
