/-
  The program logic 'Lo', part R: from a law's contract to its given statement, for any list of parameters. Nothing of the program.
-/
import Derived.Test.YtgcoikbgpkfcnaaLoO
import Derived.Test.YtgcoikbgpkfcnaaLoQ
set_option linter.unusedSimpArgs false
set_option linter.unusedVariables false
namespace Go.Lo
open Go

section
variable {P : Program}

/-- What reads at these types is a list of arguments with Φ. -/
def ReadsL (P : Program) (ts : List TypeId) (Φ : List PV → Prop) : Prop :=
  ∀ {H : Type} (en : TypeId × Value → H) (W : World) (b : Nat) (vs : List Value) (ds : List (DataW H)) (ps : List MemPlace),
    (∀ (j : Nat) t v, ts[j]? = some t → vs[j]? = some v → Value.okWide P W .any b t v) → DataW.TrodAll en P W 0 (fun _ => true) true ts vs ds ps →
    ∃ pvs, Φ pvs ∧ CRel (G0 W) W pvs vs
theorem readsL_nil : ReadsL P [] (fun l => l = []) := fun en W b vs ds ps _ h => by
  match vs, ds, h with
  | [], [], _ => exact ⟨[], rfl, rfl, fun i hi => absurd hi (Nat.not_lt_zero _)⟩
theorem ReadsV.cons {t : TypeId} {ts : List TypeId} {α : Type} {enc : α → PV} {wf : α → Prop} {Φ : List PV → Prop} (h : ReadsV P t α enc wf) (k : ReadsL P ts Φ) :
    ReadsL P (t :: ts) (fun l => ∃ a l', wf a ∧ Φ l' ∧ l = enc a :: l') := fun en W b vs ds ps hok ht => by
  match vs, ds, ht with
  | v :: vs, d :: ds, ht =>
    obtain ⟨p, q, h1, h2, rfl⟩ := ht
    obtain ⟨a, w, r⟩ := h en W _ _ b v d p (hok 0 t v rfl rfl) h1
    obtain ⟨pvs, f, g⟩ := k en W b vs ds q (fun j t' v' e1 e2 => hok (j + 1) t' v' e1 e2) h2
    refine ⟨enc a :: pvs, ⟨a, pvs, w, f, rfl⟩, by simp [g.1], fun i hi => ?_⟩
    cases i with
    | zero => exact r
    | succ i => exact g.2 i (by simpa using hi)

theorem trodAll_len {H : Type} {en : TypeId × Value → H} {W : World} {b : Nat} {sp : Nat → Bool} {hd : Bool} : ∀ {ts : List TypeId} {vs : List Value} {ds : List (DataW H)} {ps : List MemPlace}, DataW.TrodAll en P W b sp hd ts vs ds ps → ds.length = ts.length := by
  intro ts
  induction ts with
  | nil => intro vs ds ps h; match vs, ds, h with
    | [], [], _ => rfl
  | cons t ts ih => intro vs ds ps h; match vs, ds, h with
    | v :: vs, d :: ds, h =>
      obtain ⟨p, q, _, h2, _⟩ := h
      simp [ih h2]

theorem law_top {H : Type} {enc : TypeId × Value → H} {C : Checked} {os : Os} {f : FuncId} {fn : Func} {s : ChangeSpec} {conds : List PathCond} {Φ : List PV → Prop} {tb : TypeId}
    (own : ownKnob C.prog.godebug = none) (started : os.Started) (noInit : C.prog.inits.idxOf? f = none) (hfn : C.prog.funcs[f]? = some fn)
    (witness : ∃ (w : World) (tape : Tape) (i : Input), w.os = os ∧ (w.forCall tape i).Shaped C.prog ∧ i.vars = [] ∧ Input.okWide C.prog (w.forCall tape i) .any w.heap.size f i ∧
      s.pre6 enc C.prog fn conds false (w.forCall tape i).memory i.args ∧ ({} : Assume).holds C.prog (lone (Frame.enter C.prog f i.args .normal) [] (w.forCall tape i)))
    (hl : laidOutB C.prog = true) (hvars : s.vars = []) {ts : List TypeId} (hts : fn.params.toList = ts) (hpar : ∀ t ∈ ts, C.prog.readableRec t = true ∧ t < C.prog.types.size)
    (hres : fn.resultTypes = #[tb]) (htb : C.prog.underlying tb = some .bool)
    (hs : ∀ ds : List (DataW H), ds.length = ts.length → (s.fn H ds).results = [.lit (.bool true)] ∧ (s.fn H ds).args = ds ∧ (s.fn H ds).vars = [])
    (hR : ReadsL C.prog ts Φ) (law : ∀ pvs, Φ pvs → PFun C.prog f pvs (.lit (.bool true))) :
    ReturnsInHanded {} C os f .any (s.pre6 enc C.prog fn conds false) (s.post enc C.prog fn false true false false) := by
  subst hts
  refine returnsInHanded_of_change own started noInit hfn witness ?_
  intro W base args ds gs before hval hW _ _
  have hW' := hW
  obtain ⟨p, q, hA, hV, rfl, hfz, hnd⟩ := hW
  have hlen : ds.length = fn.params.toList.length := trodAll_len hA
  obtain ⟨pvs, hΦ, hrel⟩ := hR enc W base args.toList ds p (fun j t v e1 e2 => hval j t v (by simpa using e1) (by simpa using e2)) hA
  refine (law_calls (law pvs hΦ) (args := args) ⟨by rw [hrel.1]; simp, fun i hi => ?_⟩).mono fun e W' ⟨he, hb⟩ => ?_
  · have := hrel.2 i (by rw [← hrel.1]; exact hi)
    simpa [Array.getD_eq_getD_getElem?, List.getD] using this
  · exact ⟨_, he, law_post hl hvars hpar hres htb (hs ds hlen) hW' hb⟩
end
end Go.Lo
