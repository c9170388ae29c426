/-
  Trade: the law TradeOnce.
-/
import Derived.Test.YtnjbcaakdfofcaaMa
import Derived.OpenShut
set_option linter.unusedSimpArgs false
set_option linter.unusedVariables false
namespace Go.Proofs.Ytnjbcaakdfofcaa
open Go.Lo

structure St where
  kd : Int
  at_ : Int
  m : Ms
abbrev u8 (x : Int) : PV := .lit (.int .u8 x)
def rowS (s : St) : List PV := u8 s.kd :: u8 s.at_ :: rowM s.m
def encS (l : List St) : PV := .slice false (l.map rowS)
def okS (s : St) : Prop := okM0 s.m ∧ (0 ≤ s.kd ∧ s.kd < 256) ∧ 0 ≤ s.at_ ∧ s.at_ < 256
@[simp] theorem sv_encS (l : List St) : sv (encS l) = encS l := rfl
@[simp] theorem avt_encS (l : List St) : avt (encS l) = True := rfl
@[simp] theorem Lenx_encS (σ : Heap) (l : List St) : Lenx .slice σ (encS l) = ⟨True, num l.length⟩ := by simp [encS]
theorem rowS_len {s : St} (h : okM0 s.m) : (rowS s).length = 45 := by simp [rowS, rowM_len h.1]
theorem IAx_encS {l : List St} {k : Nat} (kk : IntKind) (h : k < l.length) (hs : okM0 l[k].m) : IAx (some (none, 45, true)) (encS l) (.lit (.int kk (k : Int))) = ⟨True, .ref (rowS l[k])⟩ := by
  simp [encS, h, rowS_len hs]
@[simp] theorem inf52 : inf P0 52 = some (45, true) := by kernel_rfl
@[simp] theorem ixi47 : ixi P0 47 = some (none, 45, true) := by kernel_rfl
@[simp] theorem len47 : lenK P0 47 = .slice := by kernel_rfl
@[simp] theorem fld520 : fldT P0 52 0 = some (0, 1, false) := by kernel_rfl
@[simp] theorem fld521 : fldT P0 52 1 = some (1, 1, false) := by kernel_rfl
@[simp] theorem fld522 : fldT P0 52 2 = some (2, 43, true) := by kernel_rfl
def zSt : List PV := u8 0 :: u8 0 :: zM
@[simp] theorem zero52 : zeroP P0 52 = some zSt := by kernel_rfl
theorem zSt_len : zSt.length = 45 := by simp [zSt, zM_len]
theorem setR_zSt (r : List PV) (h : r.length = 45) : setR zSt 0 r = r := by
  unfold setR
  rw [h, List.take_zero, List.nil_append, Nat.zero_add, List.drop_of_length_le (by rw [zSt_len]; exact Nat.le_refl _), List.append_nil]
@[simp] theorem all1_rowS (s : St) : all1 (rowS s) = True := by simp [rowS]
def pairZ : List PV := [num 0, .lit (.slice none 0 0), .lit (.slice none 0 0), .lit (.slice none 0 0), num 0, .lit (.slice none 0 0), .lit (.slice none 0 0), .lit (.slice none 0 0), .lit (.slice none 0 0), .lit (.slice none 0 0), num 0, num 0]
@[simp] theorem zero50 : zeroP P0 50 = some pairZ := by kernel_rfl
@[simp] theorem places50 : places P0 50 = some [(0, 4), (4, 4), (8, 1), (9, 1), (10, 1), (11, 1)] := by kernel_rfl
@[simp] theorem ixi50 : ixi P0 50 = none := by kernel_rfl
theorem flat43 : ∀ (l : List Ms) (hl : okL l) (i : Nat) (hi : i < l.length), (((l.map rowM).flatten).drop (43 * i)).take 43 = rowM l[i]
  | [], _, i, hi => by simp at hi
  | m :: l, hl, 0, _ => by
    have := rowM_len (hl.1 m (List.mem_cons_self ..)).1
    simp only [List.map_cons, List.flatten_cons, Nat.mul_zero, List.drop_zero, List.getElem_cons_zero]
    rw [List.take_append_of_le_length (by omega), List.take_of_length_le (by omega)]
  | m :: l, hl, i + 1, hi => by
    have hm := rowM_len (hl.1 m (List.mem_cons_self ..)).1
    have := flat43 l ⟨fun x hx => hl.1 x (List.mem_cons_of_mem _ hx), by have := hl.2; simp at this; omega⟩ i (by simpa using hi)
    simp only [List.map_cons, List.flatten_cons, List.getElem_cons_succ]
    rw [← this, show 43 * (i + 1) = (rowM m).length + 43 * i by rw [hm]; omega, ← List.drop_drop, List.drop_left]
theorem own_readM {σ : Heap} {v : PV} {l : List Ms} (hl : okL l) (h : Own 43 σ v (l.map rowM)) {i : Nat} (hi : i < l.length) : ∃ p, IAx (some (none, 43, true)) v (num (i : Int)) = ⟨True, p⟩ ∧ avt p = True ∧ sv p = p ∧ Lx (some (43, true)) σ p = ⟨True, .agg (rowM l[i])⟩ := by
  obtain ⟨_, h | ⟨id, fl, h1, h2⟩ | h⟩ := h
  · have : l = [] := by simpa using h.2
    subst this; simp at hi
  · refine ⟨.ptr id (i * 43), ?_, rfl, rfl, ?_⟩
    · subst h1; simp [hi]
    · have h3 := flat43 l hl i hi
      have h4 := flat_len hl
      simp [h2, -List.length_flatten, h4]
      exact ⟨by omega, by rw [Nat.mul_comm]; exact h3⟩
  · subst h
    have om := hl.1 _ (List.getElem_mem hi)
    exact ⟨.ref (rowM l[i]), IAx_encM (b := true) .i64 hi om.1, rfl, rfl, Lx_rowM σ om.1⟩
theorem own_lenx {σ : Heap} {v : PV} {l : List Ms} (h : Own 43 σ v (l.map rowM)) (σ' : Heap) : Lenx .slice σ' v = ⟨True, num l.length⟩ := by
  obtain ⟨_, ⟨rfl, h⟩ | ⟨id, fl, rfl, h2⟩ | rfl⟩ := h
  · have : l = [] := by simpa using h
    subst this; rfl
  · simp
  · simp
theorem PS.new {idp : Nat} {a b : Td} {s w : List Ms} {n f : Int} {V1 V2 : PV} {σ : Heap} (H : PS idp a b s w n f V1 V2 σ) {id : Nat} (hf : frs σ id) (x : PObj) : PS idp a b s w n f V1 V2 (σ.set id x) :=
  ⟨by rw [Heap.set_apply, if_neg (frs.ne hf H.p).symm]; exact H.p, H.s.new hf, H.w.new hf, H.sep⟩
@[simp] theorem conv53 (k : IntKind) (n : Int) : evConv P0 5 3 (.lit (.int k n)) = ⟨True, .lit (.int .i64 (IntKind.i64.wrap n))⟩ := evConv_int 5 3 k .i64 n (by kernel_rfl) (by kernel_rfl)
theorem own_mono {k : Nat} {σ σ' : Heap} {V : PV} {rows : List (List PV)} (h : Own k σ V rows) (hm : ∀ id x, σ id = some x → σ' id = some x) : Own k σ' V rows := by
  refine ⟨h.1, ?_⟩
  rcases h.2 with h1 | ⟨id, fl, h1, h2⟩ | h1
  · exact .inl h1
  · exact .inr (.inl ⟨id, fl, h1, hm _ _ h2⟩)
  · exact .inr (.inr h1)
theorem PS.mono {idp : Nat} {a b : Td} {s w : List Ms} {n f : Int} {V1 V2 : PV} {σ σ' : Heap} (H : PS idp a b s w n f V1 V2 σ) (hm : ∀ id x, σ id = some x → σ' id = some x) : PS idp a b s w n f V1 V2 σ' :=
  ⟨hm _ _ H.p, own_mono H.s hm, own_mono H.w hm, H.sep⟩
theorem sep_symm {V1 V2 : PV} (h : sepV V1 V2) : sepV V2 V1 := fun id k off len full k' off' len' full' e e' => h _ _ _ _ _ _ _ _ _ e' e
theorem setR_ft (m : Ms) (x y : Int) : setR (setR (rowM m) 1 [num x]) 2 [num y] = rowM { m with fr := x, to := y } := by simp [setR, rowM]
@[simp] theorem TM_dom23 : TM.dom 23 = false := rfl
@[simp] theorem TM_dom24 : TM.dom 24 = false := rfl
theorem u8_mod (x : Int) (h : 0 ≤ x) (y : Int) : x.tmod y = x % y := Int.tmod_eq_emod_of_nonneg h
/-- What is known between two steps. -/
structure Mid (idp : Nat) (i k : Int) (j : Nat) (a b : Td) (w : List Ms) (V1 V2 : PV) (σ : Heap) : Prop where
  ps : PS idp a b a.pl w a.pl.length b.rc.length V1 V2 σ
  inv : Inv a b a.pl w i k
  la : a.pl.length ≤ j
  lw : w.length ≤ j
  oa : okT a
  ob : okT b
  ow : okL w
theorem arrive_mid {idp : Nat} {a b : Td} {w : List Ms} {i k : Int} {V1 V2 : PV} {σ : Heap} (hP : PS idp a b a.pl w a.pl.length b.rc.length V1 V2 σ) (hI : Inv a b a.pl w i k) (oa : okT a) (ob : okT b) (ow : okL w) (hw : w.length < 4096) (hr : b.rc.length < 4096) {m : Ms} (hm : m ∈ a.pl) :
    ∃ b', Inv a b' a.pl (w ++ [ansR m]) i k ∧ m ∈ b'.rc ∧ okT b' ∧ okL (w ++ [ansR m]) ∧ (∀ o ∈ b.rc, o ∈ b'.rc) ∧ pcalls P0 23 [.ptr idp 0, .agg (rowM m)] σ fun o σ' => o = .val (bo true) ∧ ∃ V2', PS idp a b' a.pl (w ++ [ansR m]) a.pl.length b'.rc.length V1 V2' σ' := by
  obtain ⟨b', fr, h1, h2, h3, h4, h5⟩ := inv_arrive hI hm hr
  have om : okM m := oa.1.1 _ hm
  have ht := hI.to m hm
  obtain ⟨ob', oc⟩ := okT_take (id := k) ob om
  rw [h1] at ob' oc
  have ow' : okL (w ++ [ansR m]) := ⟨fun y hy => by
    rcases List.mem_append.1 hy with hy | hy
    · exact ow.1 y hy
    · rw [List.mem_singleton.1 hy]; exact oc.1 _ (List.mem_singleton.2 rfl), by simp; omega⟩
  refine ⟨b', h2, h3, ob', ow', h5, (arrive23_ok hP ob om oa.1 ow (by omega) (by omega) (by omega) (by rw [ht]; exact h1)).mono ?_⟩
  rintro o σ' ⟨rfl, V2', h⟩
  refine ⟨rfl, V2', ?_⟩
  have e : ((b.rc.length : Int) + if fr then 1 else 0) = (b'.rc.length : Int) := by rw [h4]; cases fr <;> simp
  rw [← e]; exact h
theorem answered_mid {idp : Nat} {a b : Td} {w : List Ms} {i k : Int} {V1 V2 : PV} {σ : Heap} (hP : PS idp a b a.pl w a.pl.length b.rc.length V1 V2 σ) (hI : Inv a b a.pl w i k) (oa : okT a) (ow : okL w) (hd : a.dn.length < 4096) {c : Ms} (hc : c ∈ w) :
    ∃ a', Inv a' b a'.pl w i k ∧ a'.pl = a.pl ∧ okT a' ∧ hasN a'.dn c.no = true ∧ (∀ x, hasN a.dn x = true → hasN a'.dn x = true) ∧ pcalls P0 24 [.ptr idp 0, .agg (rowM c)] σ fun o σ' => o = .val (bo true) ∧ PS idp a' b a'.pl w a'.pl.length b.rc.length V1 V2 σ' := by
  obtain ⟨a', fr, h1, ht, h2, h3, h4, h5, h6, h7⟩ := inv_answered hI hc hd
  have om : okM c := ow.1 _ hc
  obtain ⟨oa', _⟩ := okT_take (id := i) oa om
  rw [h1] at oa'
  refine ⟨a', by rw [h3]; exact h2, h3, oa', h4, h6, (answered24_ok hP oa om oa.1 ow (by rw [ht]; exact h1)).mono ?_⟩
  rintro o σ' ⟨rfl, h⟩
  exact ⟨rfl, by rw [h3]; exact h⟩
/-- What is known between two of the last messages. -/
structure Mod (idp : Nat) (i k : Int) (a : Td) (W : List Ms) (q : Nat) (a' b : Td) (w : List Ms) (V1 V2 : PV) (σ : Heap) : Prop where
  ps : PS idp a' b a'.pl w a'.pl.length b.rc.length V1 V2 σ
  inv : Inv a' b a'.pl w i k
  pl : a'.pl = a.pl
  lw : w.length ≤ 16 + q
  oa : okT a'
  ob : okT b
  ow : okL w
  old : ∀ x, hasN a.dn x = true → hasN a'.dn x = true
  new : ∀ n (h : n < W.length), n < q → hasN a'.dn W[n].no = true
theorem mod_end {idp : Nat} {i k : Int} {a : Td} {W : List Ms} {a' b : Td} {w : List Ms} {V1 V2 : PV} {σ : Heap} (h : Mod idp i k a W W.length a' b w V1 V2 σ) (hW : waitN a i = W) : waitN a' i = [] := by
  unfold waitN
  rw [List.filter_eq_nil_iff, h.pl]
  intro m hm hb
  have hd : hasN a'.dn m.no = true := by
    by_cases hmw : m ∈ W
    · obtain ⟨n, hn, rfl⟩ := List.getElem_of_mem hmw
      exact h.new n hn hn
    · refine h.old _ ?_
      cases hh : hasN a.dn m.no with
      | true => rfl
      | false =>
        refine absurd ?_ hmw
        rw [← hW]
        refine List.mem_filter.2 ⟨hm, ?_⟩
        unfold waitB at hb ⊢
        rw [hh]
        simp only [Bool.and_eq_true] at hb ⊢
        exact ⟨hb.1, rfl⟩
  unfold waitB at hb
  rw [hd] at hb
  simp at hb
theorem count_rc {b : Td} {k : Int} (h : chk b k = true) {m : Ms} (hm : m ∈ b.rc) : b.rc.count m = 1 := by
  rw [(rc_nodup h).count, if_pos hm]
theorem count_take {l : List Ms} {m : Ms} {p : Nat} (h : p < l.length) : (l.take (p + 1)).count m = (l.take p).count m + if m = l[p] then 1 else 0 := by
  rw [List.take_succ_eq_append_getElem h, List.count_append, List.count_singleton]
  congr 1
  by_cases e : m = l[p]
  · subst e; simp
  · simp [e, Ne.symm e]
set_option maxRecDepth 8000 in
set_option maxHeartbeats 8000000 in
theorem once6_ok (x y : Int) (l : List St) (hx : 0 ≤ x ∧ x < 256) (hy : 0 ≤ y ∧ y < 256) (hl : ∀ s ∈ l, okS s) (hll : l.length ≤ maxLen) : PFun P0 6 [u8 x, u8 y, encS l] (bo true) := by
  refine pcalls_body Try.func6 rfl rfl rfl (by show 3 ≤ _; decide) (pwp_goK TM_ok [7] ?_)
  obtain ⟨i, hi⟩ : ∃ i, x % 12 = i := ⟨_, rfl⟩
  obtain ⟨k, hk⟩ : ∃ k, y % 12 = k := ⟨_, rfl⟩
  have tx : x.tmod 12 = i := by rw [u8_mod x hx.1, hi]
  have ty : y.tmod 12 = k := by rw [u8_mod y hy.1, hk]
  have wx : IntKind.i64.wrap x = x := wrap_i64 (by omega) (by omega)
  have wy : IntKind.i64.wrap y = y := wrap_i64 (by omega) (by omega)
  by_cases hlen : (16 : Int) < l.length
  · simp (config := { contextual := true }) [tx, ty, wx, wy, hlen]
  by_cases hik : i = k
  · simp (config := { contextual := true }) [tx, ty, wx, wy, hlen, hik]
  simp [tx, ty, wx, wy, hlen, hik, tdC, t0, pairZ, setR]
  intro idp
  have fi : firmR i = true := by simp [firmR, inR]; omega
  have fk : firmR k = true := by simp [firmR, inR]; omega
  refine pwpT_go (pwp_gen (I := fun fr σ => fr 2 = encS l ∧ fr 7 = num i ∧ fr 8 = num k ∧ fr 9 = .ptr idp 0 ∧ Mid idp i k 0 t0 t0 [] (.lit (.slice none 0 0)) (.lit (.slice none 0 0)) σ) ?_ ?_)
  · simp [tx, ty]
    exact ⟨⟨by simp [pairC, t0], Own.nil _ _, Own.nil _ _, fun id k off len full k' off' len' full' e => by cases e⟩, inv_start fi fk, by simp [t0], by simp, okT_t0, okT_t0, okL_nil⟩
  rintro fr σ ⟨e2, e7, e8, e9, hM⟩
  refine pwp_goK TM_ok [35] ?_
  simp [e2, e7, e8, e9]
  refine pwp_loop (fun N fr σ => ∃ (j : Nat) (a b : Td) (w : List Ms) (V1 V2 : PV), N = l.length - j ∧ j ≤ l.length ∧ fr 7 = num i ∧ fr 8 = num k ∧ fr 9 = .ptr idp 0 ∧ fr 46 = encS l ∧ fr 47 = num l.length ∧ fr 48 = num j ∧ Mid idp i k j a b w V1 V2 σ)
    (N := l.length) ?_ ?_
  · refine ⟨0, t0, t0, [], .lit (.slice none 0 0), .lit (.slice none 0 0), ?_⟩
    simp [e2, e7, e8, e9, hM]
  clear e2 e7 e8 e9 hM fr σ
  rintro N fr σ ⟨j, a, b, w, V1, V2, rfl, hj, e7, e8, e9, e46, e47, e48, hM⟩
  refine pwp_goK TM_ok [14, 21, 25, 29, 32] ?_
  have hl16 : l.length ≤ 16 := by omega
  by_cases hlt : j < l.length
  · have os := hl _ (List.getElem_mem hlt)
    have hxx := IAx_encS (l := l) .i64 hlt os.1
    obtain ⟨S, hS⟩ : ∃ S, l[j] = S := ⟨_, rfl⟩
    rw [hS] at os hxx
    obtain ⟨om0, ⟨k1, k2⟩, q1, q2⟩ := os
    have hrs := rowS_len om0
    have hrt : List.take 45 (rowS S) = rowS S := List.take_of_length_le (by omega)
    have hrm := rowM_len om0.1
    have htm := take_rowM0 om0
    have h10 := fun σ => TM_ev10 S.m om0 σ
    have g0 : ∀ h : 0 < (rowS S).length, (rowS S)[0] = u8 S.kd := fun _ => rfl
    have g1 : ∀ h : 1 < (rowS S).length, (rowS S)[1] = u8 S.at_ := fun _ => rfl
    have g2 : (rowS S).drop 2 = rowM S.m := rfl
    have tk : S.kd.tmod 4 = S.kd % 4 := u8_mod _ k1 _
    simp [-NEW_def, e7, e8, e9, e46, e47, e48, hlt, hxx, hrs, hrt]
    refine fun i11 h11 => ?_
    have hM1 := hM.ps.new h11 (.cells (rowS S))
    simp [e7, e8, e9, e46, e47, e48, hrs, hrt, zSt_len, setR_zSt, g0, g1, g2, hrm, htm, h10]
    cases hf : fewM S.m with
    | false => simp [hf]
    | true =>
    have om := fewM_ok om0 hf
    have hjl : j ≤ 16 := by omega
    apply two (P := P0) (n := 342) (I := fun fr σ => fr 7 = num i ∧ fr 8 = num k ∧ fr 9 = .ptr idp 0 ∧ fr 46 = encS l ∧ fr 47 = num l.length ∧ fr 48 = num j ∧ ∃ a b w V1 V2, Mid idp i k (j + 1) a b w V1 V2 σ)
    case main =>
      intro key
      have same : ∀ σ', PS idp a b a.pl w a.pl.length b.rc.length V1 V2 σ' → ∃ a b w V1 V2, Mid idp i k (j + 1) a b w V1 V2 σ' := fun σ' h => ⟨a, b, w, V1, V2, h, hM.inv, by have := hM.la; omega, by have := hM.lw; omega, hM.oa, hM.ob, hM.ow⟩
      obtain ⟨oa1, oa2, oa3⟩ := hM.oa
      obtain ⟨ob1, ob2, ob3⟩ := hM.ob
      have hla := hM.la
      have hlw := hM.lw
      obtain ⟨hr1, hr2⟩ := inv_le hM.inv
      rcases (show S.kd % 4 = 0 ∨ S.kd % 4 = 1 ∨ S.kd % 4 = 2 ∨ S.kd % 4 = 3 by omega) with hc | hc | hc | hc
      · simp [e7, e8, e9, e46, e47, e48, hrs, g0, tk, hf, hc]
        refine pwpT_go (pwp_gen (I := fun fr σ => fr 7 = num i ∧ fr 8 = num k ∧ fr 9 = .ptr idp 0 ∧ fr 46 = encS l ∧ fr 47 = num l.length ∧ fr 48 = num j ∧ fr 11 = .ptr i11 0 ∧ σ i11 = some (.cells (rowS S)) ∧ PS idp a b a.pl w a.pl.length b.rc.length V1 V2 σ) ?_ ?_)
        · simp [e7, e8, e9, e46, e47, e48]
          exact hM1
        rintro fr σ ⟨e7, e8, e9, e46, e47, e48, e11, s11, hP⟩
        refine pwp_goK TM_ok [17, 32] ?_
        obtain ⟨m', hm'⟩ : ∃ m' : Ms, { S.m with fr := i, to := k } = m' := ⟨_, rfl⟩
        have sft := setR_ft S.m i k
        rw [hm'] at sft
        have om' : okM m' := by rw [← hm']; exact om
        have hrm' := rowM_len om'.1
        have htm' := take_rowM om'
        simp [-NEW_def, e7, e8, e9, e46, e47, e48, e11, s11, hrs, g2, hrm, htm]
        refine fun i12 h12 => ?_
        have hP1 := hP.new h12 (.cells (rowM m'))
        have hp := hP1.p
        have b12 := frs.ne h12 hP.p
        have len1 : ∀ v, (setR (rowM S.m) 1 [v]).length = 43 := fun v => by simp [setR, hrm]
        simp [e7, e8, e9, e46, e47, e48, hrm, htm, zM_len, setR_zM, sft, len1]
        obtain ⟨X, Y, e, hpl⟩ : ∃ X Y e, placeN a m' = (X, Y, e) := ⟨_, _, _, rfl⟩
        have oXY := okT_place (t := a) ⟨oa1, oa2, oa3⟩ om'
        rw [hpl] at oXY
        obtain ⟨⟨x1, x2, x3⟩, oY⟩ := oXY
        simp only at x1 x2 x3 oY
        have hrY := rowM_len oY.1
        have htY := take_rowM oY
        refine pwpT_go (pwp_drawY TM_ok TM_still 14 [10, 11] [12, 13] [.r 0, .r 1, .r 2, .r 3, .r 4, .r 5, .r 6, .r 7, .r 8, .r 9, .e 10, .c 0, .c 1, .c 2, .c 3, .c 4, .c 5, .c 6, .c 7, .c 8, .c 9, .e 11, .c 0, .c 1, .c 2, .c 3, .c 4, .c 5, .c 6, .c 7, .c 8, .c 9, .e 12, .c 8, .c 9, .e 13, .c 9] mixed (by kernel_rfl) ?_)
        simp [-NEW_def, e7, e8, e9, e46, e47, e48, hP.p, b12, pairC, hrm', htm', om', oa1, oa2, oa3, placeV, hpl]
        refine fun i13 h13 => ?_
        have b13p := frs.ne (show frs _ i13 from h13) hp
        have hP2 := hP1.new (show frs _ i13 from h13) (.cells (tdC X))
        have h13' : frs (σ.set i12 (.cells (rowM m'))) i13 := h13
        simp at h13'
        simp [-NEW_def, e7, e8, e9, e46, e47, e48, hP.p, b12, b13p, h13'.1, pairC, hrm', htm', om', oa1, oa2, oa3, placeV, hpl]
        refine fun i14 h14 => ?_
        have h14 : frs ((σ.set i12 (.cells (rowM m'))).set i13 (.cells [num 0, .lit (.slice none 0 0), .lit (.slice none 0 0), .lit (.slice none 0 0)])) i14 := h14
        have b14p := frs.ne h14 (hP1.new (show frs _ i13 from h13) (.cells [num 0, .lit (.slice none 0 0), .lit (.slice none 0 0), .lit (.slice none 0 0)])).p
        have hP3 := (hP1.new (show frs _ i13 from h13) (.cells [num 0, .lit (.slice none 0 0), .lit (.slice none 0 0), .lit (.slice none 0 0)])).new h14 (.cells (rowM Y))
        have h14' := h14
        simp at h14'
        obtain ⟨n1413, n1412, f14⟩ := h14'
        simp [-NEW_def, e7, e8, e9, e46, e47, e48, hP.p, b12, b13p, b14p, h13'.1, n1413, n1412, pairC, hrm', htm', om', oa1, oa2, oa3, placeV, hpl, zM_len, setR_zM, hrY, htY, x1, x2, x3, show (tdC X).length = 4 from rfl, show all1 (tdC X) = True by simp [tdC, all1]]
        have mono : ∀ d x, σ d = some x → d ≠ i12 ∧ d ≠ i13 ∧ d ≠ i14 := fun d x hd => by
          have h13s := h13'.2
          refine ⟨?_, ?_, ?_⟩ <;> rintro rfl
          · have := hd.symm.trans h12; cases this
          · have := hd.symm.trans h13s; cases this
          · have := hd.symm.trans f14; cases this
        by_cases he : e = 0
        · subst he
          simp
          refine pwpT_go (pwp_gen (I := fun fr σ => fr 7 = num i ∧ fr 8 = num k ∧ fr 9 = .ptr idp 0 ∧ fr 46 = encS l ∧ fr 47 = num l.length ∧ fr 48 = num j ∧ fr 13 = .ptr i13 0 ∧ fr 14 = .ptr i14 0 ∧ σ i13 = some (.cells (tdC X)) ∧ σ i14 = some (.cells (rowM Y)) ∧ PS idp a b a.pl w a.pl.length b.rc.length V1 V2 σ) ?_ ?_)
          · simp [e7, e8, e9, e46, e47, e48, n1413, n1412]
            refine ⟨rfl, hP.mono fun d x hd => ?_⟩
            obtain ⟨d1, d2, d3⟩ := mono d x hd
            simp [Heap.set_apply, d1, d2, d3, hd]
          rintro fr σ ⟨e7, e8, e9, e46, e47, e48, e13, e14, s13, s14, hP⟩
          refine pwp_drawX TM_ok 13 [9, 12] [.r 0, .r 1, .r 2, .r 3, .r 4, .r 5, .r 6, .r 7, .r 8, .e 9, .c 0, .c 1, .c 2, .r 10, .r 11, .e 12, .c 1] mixed (by kernel_rfl) ?_
          obtain ⟨v1, v2⟩ := hP.s.sv
          obtain ⟨c11, c12, c13⟩ := hP.s.cell
          simp [-NEW_def, e7, e8, e9, e46, e47, e48, e13, e14, s13, s14, hP.p, pairC, hrY, htY, v1, v2, show (tdC X).length = 4 from rfl, show List.take 4 (tdC X) = tdC X from rfl, c11, c12, c13]
          obtain ⟨hI, hXp, hYt⟩ := inv_place hM.inv hpl (by rw [← hm']) (by rw [← hm'])
          have okY : okL (a.pl ++ [Y]) := by rw [← hXp]; exact x1
          refine app_moreB oa1 oY hP.s ?_
          intro id σ' hfr hc hk2
          obtain ⟨r1, r2, r3⟩ := grown okY hP.w (sep_symm hP.sep) hfr hc hk2
          have pσ := keepV hk2 hP.p (Own.ne hP.s hP.p (ne_flat oa1 (by simp [pairC])))
          have wf : IntKind.i64.wrap ((a.pl.length : Int) + 1) = (a.pl.length : Int) + 1 := wrap_i64 (by omega) (by omega)
          have sτ := keepV hk2 s13 (Own.ne hP.s s13 (ne_flat oa1 (by simp [tdC])))
          simp [-NEW_def, e7, e8, e9, e46, e47, e48, e13, e14, s13, s14, pσ, sτ, pairC, tdC, all1, wf, hrY, htY, v1, v2, c11, c12, c13]
          refine pwpT_go (key _ _ ?_)
          simp [e7, e8, e9, e46, e47, e48]
          have hlX : X.pl.length = a.pl.length + 1 := by rw [hXp]; simp
          have hne : ∀ {l : List Ms}, okL l → ∀ (cs : List PV), cs.length = 12 → cs ≠ (l.map rowM).flatten := fun hl cs h => ne_flat hl (by rw [h]; decide)
          refine ⟨X, b, w, _, V2, ⟨by simp [pairC, hlX], ?_, ?_, sep_symm r3⟩, hXp ▸ hI, ?_, ?_, ⟨x1, x2, x3⟩, hM.ob, hM.ow⟩
          · rw [hXp, show a.pl.length + 1 = a.pl.length + 1 from rfl]
            refine r2.set fun cs e => hne okY cs ?_
            rw [pσ] at e; cases e; rfl
          · refine r1.set fun cs e => hne hM.ow cs ?_
            rw [pσ] at e; cases e; rfl
          · omega
          · omega
        simp [he]
        refine pwpT_go (key _ _ ?_)
        simp [e7, e8, e9, e46, e47, e48]
        refine same _ (hP.mono fun d x hd => ?_)
        obtain ⟨d1, d2, d3⟩ := mono d x hd
        simp [Heap.set_apply, d1, d2, d3, hd]
      · simp [e7, e8, e9, e46, e47, e48, hrs, g0, tk, hf, hc]
        refine pwpT_go (pwp_gen (I := fun fr σ => fr 7 = num i ∧ fr 8 = num k ∧ fr 9 = .ptr idp 0 ∧ fr 46 = encS l ∧ fr 47 = num l.length ∧ fr 48 = num j ∧ fr 11 = .ptr i11 0 ∧ σ i11 = some (.cells (rowS S)) ∧ PS idp a b a.pl w a.pl.length b.rc.length V1 V2 σ) ?_ ?_)
        · simp [e7, e8, e9, e46, e47, e48]
          exact hM1
        rintro fr σ ⟨e7, e8, e9, e46, e47, e48, e11, s11, hP⟩
        refine pwp_goK TM_ok [32] ?_
        have okw : okL (waitN a i) := okL_filter _ oa1
        have hwl : (waitN a i).length ≤ a.pl.length := List.length_filter_le _ _
        obtain ⟨W, hW⟩ : ∃ W, waitN a i = W := ⟨_, rfl⟩
        rw [hW] at okw hwl
        have ws : IntKind.i64.wrap S.at_ = S.at_ := wrap_i64 (by omega) (by omega)
        by_cases hW0 : W = []
        · subst hW0
          simp [-NEW_def, e7, e8, e9, e46, e47, e48, e11, s11, hP.p, pairC, hW, oa1, oa2, oa3, hrs]
          refine popsT_skip TM_ok rfl (by simp) rfl ?_
          simp [e7, e8, e9, e46, e47, e48]
          refine pwpT_go (key _ _ ?_)
          simp [e7, e8, e9, e46, e47, e48]
          exact same _ hP
        · have hWn := hW0
          have hW0 : 0 < W.length := List.length_pos_iff.2 hW0
          obtain ⟨n, hn, hn2⟩ : ∃ n : Nat, S.at_.tmod W.length = n ∧ n < W.length := by
            have h1 := Int.emod_nonneg S.at_ (b := (W.length : Int)) (by omega)
            have h2 := Int.emod_lt_of_pos S.at_ (b := (W.length : Int)) (by omega)
            exact ⟨(S.at_ % W.length).toNat, by rw [u8_mod _ q1]; omega, by omega⟩
          have h0 : ¬ (W.length : Int) = 0 := by omega
          have hmW : W[n] ∈ a.pl := (List.mem_filter.1 (show W[n] ∈ List.filter (waitB a i) a.pl by rw [show List.filter (waitB a i) a.pl = W from hW]; exact List.getElem_mem hn2)).1
          have omW := okw.1 _ (List.getElem_mem hn2)
          simp [-NEW_def, e7, e8, e9, e46, e47, e48, e11, s11, hP.p, pairC, hW, oa1, oa2, oa3, hrs, hWn, hW0, ws, hn, h0, g1, IAx_encM (b := false) .i64 hn2 omW.1, rowM_len omW.1, take_rowM omW]
          obtain ⟨b', I1, -, o1, o2, -, hcall⟩ := arrive_mid hP hM.inv ⟨oa1, oa2, oa3⟩ ⟨ob1, ob2, ob3⟩ hM.ow (by omega) (by omega) hmW
          refine popsT_callG TM_ok Try.call23 (by simp) hcall rfl rfl (by simp [e9]) (by simp [e9, rowM_len omW.1]) ?_
          rintro o' σ' ⟨rfl, V2', hP'⟩
          simp [e7, e8, e9, e46, e47, e48]
          refine pwpT_go (key _ _ ?_)
          simp [e7, e8, e9, e46, e47, e48]
          exact ⟨a, b', _, V1, V2', hP', I1, by omega, by simp; omega, ⟨oa1, oa2, oa3⟩, o1, o2⟩
      · simp [e7, e8, e9, e46, e47, e48, hrs, g0, tk, hf, hc]
        refine pwpT_go (pwp_gen (I := fun fr σ => fr 7 = num i ∧ fr 8 = num k ∧ fr 9 = .ptr idp 0 ∧ fr 46 = encS l ∧ fr 47 = num l.length ∧ fr 48 = num j ∧ fr 11 = .ptr i11 0 ∧ σ i11 = some (.cells (rowS S)) ∧ PS idp a b a.pl w a.pl.length b.rc.length V1 V2 σ) ?_ ?_)
        · simp [e7, e8, e9, e46, e47, e48]
          exact hM1
        rintro fr σ ⟨e7, e8, e9, e46, e47, e48, e11, s11, hP⟩
        refine pwp_goK TM_ok [32] ?_
        obtain ⟨v1, v2⟩ := hP.w.sv
        obtain ⟨W, hW⟩ : ∃ W, w = W := ⟨_, rfl⟩
        have hL := own_lenx hP.w
        rw [hW] at hL
        have ws : IntKind.i64.wrap S.at_ = S.at_ := wrap_i64 (by omega) (by omega)
        have lW : W.length ≤ 4000 := by rw [← hW]; omega
        by_cases hW0 : W.length = 0
        · simp [-NEW_def, e7, e8, e9, e46, e47, e48, e11, s11, hP.p, pairC, v1, v2, hL, hW0, hrs]
          refine pwpT_go (pwp_drawT TM_ok 15 mixed (by kernel_rfl) ?_)
          simp [-NEW_def, e7, e8, e9, e46, e47, e48, e11, s11, hP.p, pairC, v1, v2, hL, hW0, hrs]
          refine popsT_skip TM_ok rfl (by simp) rfl ?_
          simp [e7, e8, e9, e46, e47, e48]
          refine pwpT_go (key _ _ ?_)
          simp [e7, e8, e9, e46, e47, e48]
          exact same _ hP
        · have hW0 : 0 < W.length := Nat.pos_of_ne_zero hW0
          obtain ⟨n, hn, hn2⟩ : ∃ n : Nat, S.at_.tmod W.length = n ∧ n < W.length := by
            have h1 := Int.emod_nonneg S.at_ (b := (W.length : Int)) (by omega)
            have h2 := Int.emod_lt_of_pos S.at_ (b := (W.length : Int)) (by omega)
            exact ⟨(S.at_ % W.length).toNat, by rw [u8_mod _ q1]; omega, by omega⟩
          have h0 : ¬ (W.length : Int) = 0 := by omega
          have hWn : ¬ W = [] := List.length_pos_iff.1 hW0
          have omW : okM W[n] := hM.ow.1 _ (by rw [hW]; exact List.getElem_mem hn2)
          obtain ⟨p, hp1, hp2, hp3, hp4⟩ : ∃ p, IAx (some (none, 43, true)) V2 (num (n : Int)) = ⟨True, p⟩ ∧ avt p = True ∧ sv p = p ∧ Lx (some (43, true)) σ p = ⟨True, .agg (rowM W[n])⟩ := by
            subst hW; exact own_readM hM.ow hP.w hn2
          simp [-NEW_def, e7, e8, e9, e46, e47, e48, e11, s11, hP.p, pairC, v1, v2, hL, hW0, ws, hn, h0, g1, hp1, hp2, hp3, hp4, rowM_len omW.1, take_rowM omW]
          refine pwpT_go (pwp_drawT TM_ok 15 mixed (by kernel_rfl) ?_)
          simp [-NEW_def, e7, e8, e9, e46, e47, e48, e11, s11, hP.p, pairC, v1, v2, hL, hW0, ws, hn, h0, hWn, g1, hp1, hp2, hp3, hp4, hrs, rowM_len omW.1, take_rowM omW]
          have hmW : W[n] ∈ w := by rw [hW]; exact List.getElem_mem hn2
          obtain ⟨a', I1, ea, o1, -, -, hcall⟩ := answered_mid hP hM.inv ⟨oa1, oa2, oa3⟩ hM.ow (by omega) hmW
          refine popsT_callG TM_ok Try.call24 (by simp) hcall rfl rfl (by simp [e9]) (by simp [e9, rowM_len omW.1]) ?_
          rintro o' σ' ⟨rfl, hP'⟩
          simp [e7, e8, e9, e46, e47, e48]
          refine pwpT_go (key _ _ ?_)
          simp [e7, e8, e9, e46, e47, e48]
          exact ⟨a', b, _, V1, V2, hP', I1, by rw [ea]; omega, by omega, o1, ⟨ob1, ob2, ob3⟩, hM.ow⟩
      · simp [e7, e8, e9, e46, e47, e48, hrs, g0, tk, hf, hc]
        refine pwpT_go (pwp_gen (I := fun fr σ => fr 7 = num i ∧ fr 8 = num k ∧ fr 9 = .ptr idp 0 ∧ fr 46 = encS l ∧ fr 47 = num l.length ∧ fr 48 = num j ∧ fr 11 = .ptr i11 0 ∧ σ i11 = some (.cells (rowS S)) ∧ PS idp a b a.pl w a.pl.length b.rc.length V1 V2 σ) ?_ ?_)
        · simp [e7, e8, e9, e46, e47, e48]
          exact hM1
        rintro fr σ ⟨e7, e8, e9, e46, e47, e48, e11, s11, hP⟩
        refine pwp_goK TM_ok [32] ?_
        obtain ⟨v1, v2⟩ := hP.s.sv
        obtain ⟨W, hW⟩ : ∃ W, a.pl = W := ⟨_, rfl⟩
        have hL := own_lenx hP.s
        rw [hW] at hL
        have ws : IntKind.i64.wrap S.at_ = S.at_ := wrap_i64 (by omega) (by omega)
        have lW : W.length ≤ 4000 := by rw [← hW]; omega
        by_cases hW0 : W.length = 0
        · simp [-NEW_def, e7, e8, e9, e46, e47, e48, e11, s11, hP.p, pairC, v1, v2, hL, hW0, hrs]
          refine pwpT_go (pwp_drawT TM_ok 15 mixed (by kernel_rfl) ?_)
          simp [-NEW_def, e7, e8, e9, e46, e47, e48, e11, s11, hP.p, pairC, v1, v2, hL, hW0, hrs]
          refine popsT_skip TM_ok rfl (by simp) rfl ?_
          simp [e7, e8, e9, e46, e47, e48]
          refine pwpT_go (key _ _ ?_)
          simp [e7, e8, e9, e46, e47, e48]
          exact same _ hP
        · have hW0 : 0 < W.length := Nat.pos_of_ne_zero hW0
          obtain ⟨n, hn, hn2⟩ : ∃ n : Nat, S.at_.tmod W.length = n ∧ n < W.length := by
            have h1 := Int.emod_nonneg S.at_ (b := (W.length : Int)) (by omega)
            have h2 := Int.emod_lt_of_pos S.at_ (b := (W.length : Int)) (by omega)
            exact ⟨(S.at_ % W.length).toNat, by rw [u8_mod _ q1]; omega, by omega⟩
          have h0 : ¬ (W.length : Int) = 0 := by omega
          have hWn : ¬ W = [] := List.length_pos_iff.1 hW0
          have omW : okM W[n] := oa1.1 _ (by rw [hW]; exact List.getElem_mem hn2)
          obtain ⟨p, hp1, hp2, hp3, hp4⟩ : ∃ p, IAx (some (none, 43, true)) V1 (num (n : Int)) = ⟨True, p⟩ ∧ avt p = True ∧ sv p = p ∧ Lx (some (43, true)) σ p = ⟨True, .agg (rowM W[n])⟩ := by
            subst hW; exact own_readM oa1 hP.s hn2
          simp [-NEW_def, e7, e8, e9, e46, e47, e48, e11, s11, hP.p, pairC, v1, v2, hL, hW0, ws, hn, h0, g1, hp1, hp2, hp3, hp4, rowM_len omW.1, take_rowM omW]
          refine pwpT_go (pwp_drawT TM_ok 15 mixed (by kernel_rfl) ?_)
          simp [-NEW_def, e7, e8, e9, e46, e47, e48, e11, s11, hP.p, pairC, v1, v2, hL, hW0, ws, hn, h0, hWn, g1, hp1, hp2, hp3, hp4, hrs, rowM_len omW.1, take_rowM omW]
          have hmW : W[n] ∈ a.pl := by rw [hW]; exact List.getElem_mem hn2
          obtain ⟨b', I1, -, o1, o2, -, hcall⟩ := arrive_mid hP hM.inv ⟨oa1, oa2, oa3⟩ ⟨ob1, ob2, ob3⟩ hM.ow (by omega) (by omega) hmW
          refine popsT_callG TM_ok Try.call23 (by simp) hcall rfl rfl (by simp [e9]) (by simp [e9, rowM_len omW.1]) ?_
          rintro o' σ' ⟨rfl, V2', hP'⟩
          simp [e7, e8, e9, e46, e47, e48]
          refine pwpT_go (key _ _ ?_)
          simp [e7, e8, e9, e46, e47, e48]
          exact ⟨a, b', _, V1, V2', hP', I1, by omega, by simp; omega, ⟨oa1, oa2, oa3⟩, o1, o2⟩
    case key =>
      clear hM1 h11 e7 e8 e9 e46 e47 e48 hM fr σ
      rintro fr σ ⟨e7, e8, e9, e46, e47, e48, a, b, w, V1, V2, hM⟩
      obtain ⟨oa1, oa2, oa3⟩ := hM.oa
      obtain ⟨ob1, ob2, ob3⟩ := hM.ob
      have hP := hM.ps
      obtain ⟨hr1, hr2⟩ := inv_le hM.inv
      have ca : chkE a i = 0 := by unfold chkE; rw [if_pos hM.inv.ca]
      have cb : chkE b k = 0 := by unfold chkE; rw [if_pos hM.inv.cb]
      refine (pwp_drawT TM_ok 38 mixed (by kernel_rfl) ?_)
      simp [-NEW_def, e7, e8, e9, e46, e47, e48, hP.p, pairC, oa1, oa2, oa3, ob1, ob2, ob3, ca, cb]
      exact ⟨hr1, fun _ => ⟨l.length - (j + 1), by omega, j + 1, rfl, by omega, wrap_succ (by omega), a, b, w, V1, V2, hM⟩⟩
  · have hP := hM.ps
    obtain ⟨oa1, oa2, oa3⟩ := hM.oa
    obtain ⟨hr1, hr2⟩ := inv_le hM.inv
    have hla := hM.la
    have hlw := hM.lw
    obtain ⟨W, hW⟩ : ∃ W, waitN a i = W := ⟨_, rfl⟩
    have okw : okL W := by rw [← hW]; exact okL_filter _ oa1
    have hwl : W.length ≤ a.pl.length := by rw [← hW]; exact List.length_filter_le _ _
    have hWm : ∀ n (h : n < W.length), W[n] ∈ a.pl := fun n h => (List.mem_filter.1 (show W[n] ∈ List.filter (waitB a i) a.pl by rw [show List.filter (waitB a i) a.pl = W from hW]; exact List.getElem_mem h)).1
    simp [e7, e8, e9, e46, e47, e48, hlt, hP.p, pairC, oa1, oa2, oa3, hW]
    refine pwp_loop (fun N fr σ => ∃ (q : Nat) (a' b : Td) (w : List Ms) (V1 V2 : PV), N = W.length - q ∧ q ≤ W.length ∧ fr 7 = num i ∧ fr 8 = num k ∧ fr 9 = .ptr idp 0 ∧ fr 221 = encM false W ∧ fr 222 = num W.length ∧ fr 223 = num q ∧ Mod idp i k a W q a' b w V1 V2 σ) (N := W.length) ?_ ?_
    · refine ⟨0, a, b, w, V1, V2, ?_⟩
      simp [e7, e8, e9]
      exact ⟨hP, hM.inv, rfl, by omega, hM.oa, hM.ob, hM.ow, fun _ h => h, fun n h h' => by omega⟩
    clear e7 e8 e9 e46 e47 e48 hM hP hr1 hr2 hlw oa1 oa2 oa3
    rintro N fr σ ⟨q, a', b, w, V1, V2, rfl, hq, e7, e8, e9, e221, e222, e223, hM⟩
    refine pwp_goK TM_ok [38] ?_
    have hP := hM.ps
    obtain ⟨oa1, oa2, oa3⟩ := hM.oa
    obtain ⟨hr1, hr2⟩ := inv_le hM.inv
    have hlw := hM.lw
    have hpl := hM.pl
    have hpll : a'.pl.length = a.pl.length := by rw [hpl]
    by_cases hqt : q < W.length
    · have omW := okw.1 _ (List.getElem_mem hqt)
      have hmW : W[q] ∈ a'.pl := by rw [hpl]; exact hWm q hqt
      simp [-NEW_def, e7, e8, e9, e221, e222, e223, hqt, IAx_encM (b := false) .i64 hqt omW.1, rowM_len omW.1, take_rowM omW]
      refine fun i20 h20 => ?_
      simp [-NEW_def, e7, e8, e9, e221, e222, e223, rowM_len omW.1, take_rowM omW, zM_len, setR_zM]
      have hP1 := hP.new h20 (.cells (rowM W[q]))
      obtain ⟨b', I1, -, o1, o2, -, hcall⟩ := arrive_mid hP1 hM.inv hM.oa hM.ob hM.ow (by omega) (by omega) hmW
      refine pwpT_go (pwp_drawX TM_ok 26 [2] [.r 0, .r 1, .e 2, .r 3, .r 4, .r 5, .r 6, .r 7, .r 8, .r 9, .r 10, .r 11, .r 12, .r 13, .r 14, .r 15, .r 16, .r 17, .r 18, .r 19, .r 20, .r 21, .r 22, .r 23, .r 24, .r 25] mixed (by kernel_rfl) ?_)
      simp [-NEW_def, e7, e8, e9, e221, e222, e223, rowM_len omW.1, take_rowM omW]
      refine eE_call Try.call23 hcall rfl (by simp [e9]) (by simp [e9, rowM_len omW.1]) ?_
      rintro o' σ' ⟨rfl, V2', hP'⟩
      refine ⟨_, rfl, ?_⟩
      obtain ⟨v1, v2⟩ := hP'.w.sv
      have hL := own_lenx hP'.w
      have omA : okM (ansR W[q]) := o2.1 _ (by simp)
      obtain ⟨p, hp1, hp2, hp3, hp4⟩ : ∃ p, IAx (some (none, 43, true)) V2' (num (w.length : Int)) = ⟨True, p⟩ ∧ avt p = True ∧ sv p = p ∧ Lx (some (43, true)) σ' p = ⟨True, .agg (rowM (ansR W[q]))⟩ := by
        have := own_readM o2 hP'.w (i := w.length) (by simp)
        simpa using this
      have wl : IntKind.i64.wrap (w.length : Int) = w.length := wrap_i64 (by omega) (by omega)
      have n1 : ((w.length : Int) + 1 == 0) = false := by simp; omega
      simp [-NEW_def, e7, e8, e9, e221, e222, e223, hP'.p, pairC, v1, v2, hL, wl, n1, hp1, hp2, hp3, hp4, rowM_len omA.1, take_rowM omA]
      obtain ⟨a2, I2, ea, o3, d1, d2, hcall2⟩ := answered_mid hP' I1 hM.oa o2 (by omega) (c := ansR W[q]) (by simp)
      refine popsT_callG TM_ok Try.call24 (by simp) hcall2 rfl rfl (by simp [e9]) (by simp [e9, rowM_len omA.1]) ?_
      rintro o' σ2 ⟨rfl, hP2⟩
      simp [e7, e8, e9, e221, e222, e223, wrap_succ (k := q) (by omega)]
      refine ⟨W.length - (q + 1), by omega, q + 1, rfl, by omega, by simp, a2, b', _, V1, V2', hP2, I2, by rw [ea, hpl], by simp; omega, o3, o1, o2, fun x hx => d2 x (hM.old x hx), fun n h hn => ?_⟩
      by_cases hnq : n = q
      · subst hnq; exact d1
      · exact d2 _ (hM.new n h (by omega))
    · have hqe : q = W.length := by omega
      subst hqe
      have hend := mod_end hM hW
      obtain ⟨z1, z2, z3⟩ := inv_end hM.inv hend
      simp [e7, e8, e9, e221, e222, e223]
      refine pwpT_go (pwp_drawT TM_ok 45 mixed (by kernel_rfl) ?_)
      simp [-NEW_def, e7, e8, e9, hP.p, pairC, oa1, oa2, oa3, hend, z1, z2, hM.inv.bp]
      obtain ⟨ob1, ob2, ob3⟩ := hM.ob
      refine pwp_loop (fun N fr σ => ∃ (q : Nat), N = a'.pl.length - q ∧ q ≤ a'.pl.length ∧ fr 9 = .ptr idp 0 ∧ fr 317 = encM false a'.pl ∧ fr 318 = num a'.pl.length ∧ fr 319 = num q ∧ σ idp = some (.cells (pairC a' b V1 V2 a'.pl.length b.rc.length))) (N := a'.pl.length) ?_ ?_
      · refine ⟨0, ?_⟩
        simp [e9, hP.p]
      clear e7 e8 e9 e221 e222 e223 hP
      have hcb := hM.inv.cb
      clear hM
      rintro N fr σ ⟨q, rfl, hq, e9, e317, e318, e319, hp⟩
      refine pwp_goK TM_ok [48] ?_
      by_cases hqt : q < a'.pl.length
      · have omQ := oa1.1 _ (List.getElem_mem hqt)
        simp [-NEW_def, e9, e317, e318, e319, hqt, IAx_encM (b := false) .i64 hqt omQ.1, rowM_len omQ.1, take_rowM omQ]
        refine fun i22 h22 => ?_
        have b22 := frs.ne (show frs σ i22 from h22) hp
        simp [e9, e317, e318, e319, rowM_len omQ.1, take_rowM omQ, zM_len, setR_zM, hp, b22, pairC]
        refine pwpT_go (pwp_loop (fun N fr σ => ∃ (p : Nat), N = b.rc.length - p ∧ p ≤ b.rc.length ∧ fr 9 = .ptr idp 0 ∧ fr 317 = encM false a'.pl ∧ fr 318 = num a'.pl.length ∧ fr 319 = num q ∧ fr 22 = .ptr i22 0 ∧ fr 23 = num ((b.rc.take p).count a'.pl[q] : Nat) ∧ fr 327 = encM false b.rc ∧ fr 328 = num b.rc.length ∧ fr 329 = num p ∧ σ i22 = some (.cells (rowM a'.pl[q])) ∧ σ idp = some (.cells (pairC a' b V1 V2 a'.pl.length b.rc.length))) (N := b.rc.length) ?_ ?_)
        · refine ⟨0, ?_⟩
          simp [e9, e317, e318, e319, hp, b22, pairC, z1]
        clear e9 e317 e318 e319 hp b22 h22 fr σ
        rintro N fr σ ⟨p, rfl, hpl', e9, e317, e318, e319, e22, e23, e327, e328, e329, s22, hp⟩
        refine pwp_goK TM_ok [] ?_
        by_cases hpt : p < b.rc.length
        · have omP := ob2.1 _ (List.getElem_mem hpt)
          have hct := count_take (m := a'.pl[q]) hpt
          have hcl : (b.rc.take p).count a'.pl[q] ≤ p := Nat.le_trans (List.count_le_length ..) (by simp; omega)
          have wc : IntKind.i64.wrap (((b.rc.take p).count a'.pl[q] : Nat) + 1 : Int) = ((b.rc.take p).count a'.pl[q] + 1 : Nat) := wrap_succ (by omega)
          have wp : IntKind.i64.wrap ((p : Int) + 1) = (p + 1 : Nat) := wrap_succ (by omega)
          simp [-NEW_def, e9, e317, e318, e319, e22, e23, e327, e328, e329, s22, hp, hpt, IAx_encM (b := false) .i64 hpt omP.1, rowM_len omP.1, take_rowM omP, rowM_len omQ.1, take_rowM omQ]
          refine fun i25 h25 => ?_
          have b25 := frs.ne (show frs σ i25 from h25) hp
          have c25 := frs.ne (show frs σ i25 from h25) s22
          simp [e9, e317, e318, e319, e22, e23, e327, e328, e329, s22, hp, hpt, zM_len, setR_zM, rowM_len omP.1, take_rowM omP, rowM_len omQ.1, take_rowM omQ, b25, c25, omP, omQ, wc, wp]
          refine ⟨fun e => ⟨_, ?_, p + 1, rfl, by omega, ?_, by simp⟩, fun e => ⟨_, ?_, p + 1, rfl, by omega, ?_, by simp⟩⟩
          · omega
          · rw [hct, if_pos e]; simp
          · omega
          · rw [hct, if_neg e]; simp
        · have hpe : p = b.rc.length := by omega
          subst hpe
          have c1 : (b.rc.take b.rc.length).count a'.pl[q] = 1 := by rw [List.take_length]; exact count_rc hcb (z3 _ (List.getElem_mem hqt))
          have wq : IntKind.i64.wrap ((q : Int) + 1) = (q + 1 : Nat) := wrap_succ (by omega)
          rw [c1] at e23
          simp [e9, e317, e318, e319, e22, e23, e327, e328, e329, s22, hp, wq]
          exact ⟨_, by omega, q + 1, rfl, by omega, by simp [pairC]⟩
      · simp [e9, e317, e318, e319, hqt]
end Go.Proofs.Ytnjbcaakdfofcaa

/-
  Trade: how the laws' arguments read as plain data.
-/
set_option linter.unusedSimpArgs false
set_option linter.unusedVariables false
namespace Go.Proofs.Ytnjbcaakdfofcaa
open Go.Lo Go.RowKit

theorem ownK : ownKnob Try.prog.godebug = none := by kernel_rfl
theorem laidOut : laidOutB Try.prog = true := by kernel_rfl
theorem PLeL.get : ∀ {ps qs : List PV}, PLeL ps qs → ps.length = qs.length ∧ ∀ i, PLe (ps.getD i .any) (qs.getD i .any)
  | _, _, .nil => ⟨rfl, fun i => .refl _⟩
  | _, _, .cons h k => by
    obtain ⟨h1, h2⟩ := PLeL.get k
    refine ⟨by simp [h1], fun i => ?_⟩
    cases i with
    | zero => simpa using h
    | succ i => simpa using h2 i
theorem Reads.le {P : Program} {t : TypeId} {α β : Type} {enc : α → List PV} {wf : α → Prop} {enc' : β → List PV} {wf' : β → Prop} (h : Reads P t α enc wf) (g : α → β) (hg : ∀ a, wf a → wf' (g a) ∧ PLeL (enc a) (enc' (g a))) : Reads P t β enc' wf' := fun en W sp hd fuel cs x hx => by
  obtain ⟨a, a1, a2, a3⟩ := h en W sp hd fuel cs x hx
  obtain ⟨h1, h2⟩ := hg a a1
  obtain ⟨l1, l2⟩ := PLeL.get h2
  exact ⟨g a, h1, by rw [← l1, a2], fun i hi => l2 i _ _ _ (a3 i hi)⟩
theorem reads_arrI {P : Program} {t e : TypeId} {n : Nat} {k : IntKind} (ht : P.underlying t = some (.array n e)) (he : P.underlying e = some (.int k)) (h1 : P.cellsOf e = 1) (hs : P.cellsOf t = n) :
    Reads P t (List Int) (fun l => l.map fun x => .lit (.int k x)) (fun l => l.length = n ∧ ∀ x ∈ l, (Lit.int k x).wf = true) := fun en W sp hd fuel cs x h => by
  obtain ⟨xs, m, rfl, rfl, hl, hx, hf⟩ := DataW.trod_array ht h
  rw [hs] at hl
  obtain ⟨l, hll, hlp⟩ := choose_list (p := fun i a => (Lit.int k a).wf = true ∧ cs[i]? = some (.int k a)) n fun i hi => by
    have := hf i hi
    rw [h1, Nat.mul_one, List.getElem?_eq_getElem (by omega)] at this
    obtain ⟨a, e1, e2, hw⟩ := DataW.trod_int he this
    refine ⟨a, hw, ?_⟩
    have e3 : ((cs.drop i).take 1)[0]? = some (.int k a) := by rw [e1]; rfl
    rw [List.getElem?_take, if_pos (by omega), List.getElem?_drop, Nat.add_zero] at e3
    exact e3
  refine ⟨l, ⟨hll, fun a ha => ?_⟩, by simp [hll, hl], fun i hi => ?_⟩
  · obtain ⟨i, hi, rfl⟩ := List.getElem_of_mem ha
    exact (hlp i _ (List.getElem?_eq_getElem hi)).1
  · have hil : i < l.length := by omega
    have := (hlp i _ (List.getElem?_eq_getElem hil)).2
    simp only [List.getD, List.getElem?_map, List.getElem?_eq_getElem hil, this, Option.map_some, Option.getD_some]
    exact .lit _
/-- Of rows only the number is kept. -/
theorem slen_le {k : Nat} {b : Bool} {rows : List (List PV)} (h : ∀ r ∈ rows, r.length = k) : PLe (.slice b rows) (lenS k rows.length) := by
  refine PLe.trans (?_ : PLe (.slice b rows) (.slice b (List.replicate rows.length (List.replicate k .any)))) (PLe.unfull _ _)
  intro G W v hv
  cases hv with
  | nilsl _ base cap hf => exact .nilsl b base cap hf
  | slice _ _ bl off len cap kk cv h1 h2 h3 h4 h5 h6 h7 =>
    subst h1
    refine .slice b _ bl off rows.length cap kk cv (by simp) h2 h3 h4 (fun i hi => ?_) h6 (fun i j hi hj => ?_)
    · have e1 := h5 i hi
      have e2 := h rows[i] (List.getElem_mem hi)
      have e3 : rows.getD i [] = rows[i] := by simp [hi]
      rw [e3] at e1
      simp [List.getD, hi]
      omega
    · have e1 := h5 i hi
      have e2 := h rows[i] (List.getElem_mem hi)
      have e3 : rows.getD i [] = rows[i] := by simp [hi]
      rw [e3] at e1
      have hjk : j < k := by omega
      have : ((List.replicate rows.length (List.replicate k PV.any)).getD i []).getD j .any = .any := by simp [List.getD, hi, hjk]
      rw [this]; exact .any _
theorem readsLen {t e : TypeId} {k : Nat} {α : Type} {enc : α → List PV} {wf : α → Prop} (ht : P0.underlying t = some (.slice e)) (hk : P0.cellsOf e = k) (h0 : 0 < k) (he : Reads P0 e α enc wf) : Reads P0 t Nat (fun n => [lenS k n]) (fun n => n ≤ maxLen) :=
  Reads.le (reads_slice ht hk h0 he) (fun l => l.length) fun l h => ⟨h.1, by
    have := slen_le (k := k) (b := false) (rows := l.map enc) fun r hr => by
      obtain ⟨a, ha, rfl⟩ := List.mem_map.1 hr
      exact (h.2 a ha).2
    rw [List.length_map] at this
    exact .cons this .nil⟩
theorem rInt : Reads P0 3 Int (fun x => [num x]) (fun x => (Lit.int .i64 x).wf = true) := reads_int (by kernel_rfl)
theorem rInts : Reads P0 25 Nat (fun n => [lenS 1 n]) (fun n => n ≤ maxLen) := readsLen (by kernel_rfl) (by kernel_rfl) (by decide) rInt
theorem rIntss : Reads P0 89 Nat (fun n => [lenS 1 n]) (fun n => n ≤ maxLen) := readsLen (e := 25) (by kernel_rfl) (by kernel_rfl) (by decide) rInts
theorem rRel : Reads P0 91 (Nat × Nat) (fun x => [lenS 1 x.1, lenS 1 x.2]) (fun _ => True) := by
  have c25 : P0.cellsOf 25 = 1 := by kernel_rfl
  have c89 : P0.cellsOf 89 = 1 := by kernel_rfl
  intro H en W sp hd n cs x hx
  exact Reads.conv (enc' := fun x : Nat × Nat => [lenS 1 x.1, lenS 1 x.2]) (wf' := fun _ => True) (reads_struct (P := P0) (t := 91) (l := [(25, 0), (89, 1)]) (by kernel_rfl) (readsF_cons c25 rInts (readsF_cons c89 rIntss readsF_nil))) (fun x => (x.1, x.2.1)) (fun x h => ⟨trivial, rfl⟩) en W sp hd n cs x hx
theorem rRels : Reads P0 26 Nat (fun n => [lenS 2 n]) (fun n => n ≤ maxLen) := readsLen (e := 91) (by kernel_rfl) (by kernel_rfl) (by decide) rRel
theorem rSeal : Reads P0 28 (List Int) sealC (fun l => l.length = 32 ∧ ∀ x ∈ l, (Lit.int .u8 x).wf = true) := reads_arrI (e := 5) (by kernel_rfl) (by kernel_rfl) (by kernel_rfl) (by kernel_rfl)
theorem rM : Reads P0 30 Ms rowM okM0 := by
  have c3 : P0.cellsOf 3 = 1 := by kernel_rfl
  have c25 : P0.cellsOf 25 = 1 := by kernel_rfl
  have c26 : P0.cellsOf 26 = 1 := by kernel_rfl
  have c28 : P0.cellsOf 28 = 32 := by kernel_rfl
  intro H en W sp hd n cs x hx
  exact Reads.conv (enc' := rowM) (wf' := okM0) (reads_struct (P := P0) (t := 30) (l := [(3, 0), (3, 1), (3, 2), (3, 3), (3, 4), (3, 5), (3, 6), (3, 7), (25, 8), (25, 9), (26, 10), (28, 11)]) (by kernel_rfl)
    (readsF_cons c3 rInt (readsF_cons c3 rInt (readsF_cons c3 rInt (readsF_cons c3 rInt (readsF_cons c3 rInt (readsF_cons c3 rInt (readsF_cons c3 rInt (readsF_cons c3 rInt (readsF_cons c25 rInts (readsF_cons c25 rInts (readsF_cons c26 rRels (readsF_cons c28 rSeal readsF_nil)))))))))))))
    (fun x => Ms.mk x.1 x.2.1 x.2.2.1 x.2.2.2.1 x.2.2.2.2.1 x.2.2.2.2.2.1 x.2.2.2.2.2.2.1 x.2.2.2.2.2.2.2.1 x.2.2.2.2.2.2.2.2.1 x.2.2.2.2.2.2.2.2.2.1 x.2.2.2.2.2.2.2.2.2.2.1 x.2.2.2.2.2.2.2.2.2.2.2.1)
    (fun x h => ⟨⟨h.2.2.2.2.2.2.2.2.2.2.2.1.1, h.2.2.2.2.2.2.2.2.1, h.2.2.2.2.2.2.2.2.2.1, h.2.2.2.2.2.2.2.2.2.2.1⟩, by simp [rowM]⟩) en W sp hd n cs x hx
theorem rMs : Reads P0 22 (List Ms) (fun l => [encM false l]) okL0 := Reads.conv (reads_slice (e := 30) (k := 43) (by kernel_rfl) (by kernel_rfl) (by decide) rM) (fun l => l) fun l h => ⟨⟨fun p hp => (h.2 p hp).1, h.1⟩, rfl⟩
theorem rT : Reads P0 24 Td tdC okT0 := by
  have c3 : P0.cellsOf 3 = 1 := by kernel_rfl
  have c22 : P0.cellsOf 22 = 1 := by kernel_rfl
  intro H en W sp hd n cs x hx
  exact Reads.conv (enc' := tdC) (wf' := okT0) (reads_struct (P := P0) (t := 24) (l := [(3, 0), (22, 1), (22, 2), (22, 3)]) (by kernel_rfl) (readsF_cons c3 rInt (readsF_cons c22 rMs (readsF_cons c22 rMs (readsF_cons c22 rMs readsF_nil)))))
    (fun x => Td.mk x.1 x.2.1 x.2.2.1 x.2.2.2.1) (fun x h => ⟨⟨h.2.1, h.2.2.1, h.2.2.2.1⟩, rfl⟩) en W sp hd n cs x hx
theorem readsInt : ReadsV P0 3 Int num (fun x => (Lit.int .i64 x).wf = true) :=
  readsV_one (t := 3) (fun u hu => by rw [show P0.underlying 3 = some (.int .i64) by kernel_rfl] at hu; cases hu; trivial) rInt
theorem readsM : ReadsV P0 30 Ms (fun m => .agg (rowM m)) okM0 := by
  obtain ⟨fs, hu, _, _⟩ := structIs_get (P := P0) (t := 30) (l := [(3, 0), (3, 1), (3, 2), (3, 3), (3, 4), (3, 5), (3, 6), (3, 7), (25, 8), (25, 9), (26, 10), (28, 11)]) (by kernel_rfl)
  exact readsV_agg hu rM
theorem readsT : ReadsV P0 24 Td (fun t => .agg (tdC t)) okT0 := by
  obtain ⟨fs, hu, _, _⟩ := structIs_get (P := P0) (t := 24) (l := [(3, 0), (22, 1), (22, 2), (22, 3)]) (by kernel_rfl)
  exact readsV_agg hu rT
theorem readsU8 : ReadsV P0 5 Int (fun x => .lit (.int .u8 x)) (fun x => 0 ≤ x ∧ x < 256) :=
  ReadsV.conv (readsV_one (t := 5) (fun u hu => by rw [show P0.underlying 5 = some (.int .u8) by kernel_rfl] at hu; cases hu; trivial) (reads_int (k := .u8) (by kernel_rfl))) (fun x => x) fun x h => ⟨by
    simp only [Lit.wf, Bool.and_eq_true, decide_eq_true_eq] at h
    have e1 : IntKind.u8.min = 0 := by decide
    have e2 : IntKind.u8.max = 255 := by decide
    rw [e1, e2] at h; omega, rfl⟩
end Go.Proofs.Ytnjbcaakdfofcaa

/-
  Trade: how the steps of TradeOnce read as plain data.
-/
set_option linter.unusedSimpArgs false
set_option linter.unusedVariables false
namespace Go.Proofs.Ytnjbcaakdfofcaa
open Go.Lo Go.RowKit

theorem rStep : Reads P0 52 St rowS okS := by
  have c5 : P0.cellsOf 5 = 1 := by kernel_rfl
  have c30 : P0.cellsOf 30 = 43 := by kernel_rfl
  have r5 : Reads P0 5 Int (fun x => [u8 x]) (fun x => (Lit.int .u8 x).wf = true) := reads_int (k := .u8) (by kernel_rfl)
  have hw : ∀ x : Int, (Lit.int .u8 x).wf = true → 0 ≤ x ∧ x < 256 := fun x h => by
    simp only [Lit.wf, Bool.and_eq_true, decide_eq_true_eq] at h
    have e1 : IntKind.u8.min = 0 := by decide
    have e2 : IntKind.u8.max = 255 := by decide
    rw [e1, e2] at h; omega
  intro H en W sp hd n cs x hx
  exact Reads.conv (enc' := rowS) (wf' := okS) (reads_struct (P := P0) (t := 52) (l := [(5, 0), (5, 1), (30, 2)]) (by kernel_rfl) (readsF_cons c5 r5 (readsF_cons c5 r5 (readsF_cons c30 rM readsF_nil))))
    (fun x => St.mk x.1 x.2.1 x.2.2.1) (fun x h => ⟨⟨h.2.2.1, hw _ h.1, (hw _ h.2.1).1, (hw _ h.2.1).2⟩, by simp [rowS, u8]⟩) en W sp hd n cs x hx
theorem readsSs : ReadsV P0 47 (List St) encS (fun l => l.length ≤ maxLen ∧ ∀ s ∈ l, okS s) :=
  ReadsV.conv (readsV_one (t := 47) (fun u hu => by rw [show P0.underlying 47 = some (.slice 52) by kernel_rfl] at hu; cases hu; trivial) (reads_slice (e := 52) (k := 45) (by kernel_rfl) (by kernel_rfl) (by decide) rStep)) (fun l => l) fun l h => ⟨⟨h.1, fun m hm => (h.2 m hm).1⟩, rfl⟩
end Go.Proofs.Ytnjbcaakdfofcaa
