/-
  No cell of these rows narrows 'for every input' (looked for: loops, veiled, ifaces, maps, wideKeys, modest, calm, conditions, laid).
  DERIVED. THE GIVEN ROWS OF THIS SEAT. 7 by the template 'for every input the law returns true; each argument reads behind the call as it read before'; 0 by the template 'total and deterministic' (their statements: YtccjejfdhhnhjaaTotals.lean).
  GIVEN WITH THE SEED: the statements are not yours to turn. If you find one false, say at which input.
  Laid BY PROGRAM, IN A SANDBOX (cutbox-rows.mjs): the forced cells as the released guide's own fill.sh prints them over the translation f37040500a64112b… (all of the seat's roots in one cut). By AI agents, Wed Nov 11 2026. No macro, syntax, notation, axiom, sorry.
-/
import Derived.Test.YtccjejfdhhnhjaaChecked
import GoSem.Claim
import GoSem.ClaimJoined
import GoSem.ClaimMapViews
import Derived.JoinedTies
import Derived.KernelRfl
namespace Go.Proofs.Ytccjejfdhhnhjaa
/- THE CELL 'sum', in the pinned program and in every row, IS THE sha256 OF THE DUMP (.gsa) THAT YtccjejfdhhnhjaaProg.lean LOADS. Nothing in Lean hashes anything: it is a label: what it is worth is what the hold of that sum in a sandbox is worth. -/
noncomputable def Try.pinned : Pinned := { name := "ytccjejfdhhnhjaa", sum := "f37040500a64112bd4d1165108185f30b7f1cd1a0367bff48065ff6d202aae64", checked := Try.checked }
namespace Rows
def none {H : Type} : Left H := { results := [], args := [] }

/-- 'backflushlaw22.SizingSpec': WHATEVER THE INPUT: true; the input reads as it did. -/
def sizingSpecSpec : ChangeSpec := { name := "sizingSpec", fn := fun _ => fun
  | [d1, d2, d3] => { results := [.lit (.bool true)], args := [d1, d2, d3] }
  | _ => none }
def sizingSpecRow : OpenClaim := { program := "ytccjejfdhhnhjaa", sum := "f37040500a64112bd4d1165108185f30b7f1cd1a0367bff48065ff6d202aae64", func := "backflush/backflushlaw22.SizingSpec", spec := "sizingSpec", unfollowed := true, recurses := true, apart := false }
def SizingSpecSaid : Prop := sizingSpecRow.holds Try.pinned (OpenSpec.ofChange sizingSpecSpec)

/-- ITS FALSE NEIGHBOUR: 'it returns false'. Refute it at one input. -/
def sizingSpecWrong : ChangeSpec := { name := "sizingSpec", fn := fun _ => fun
  | [d1, d2, d3] => { results := [.lit (.bool false)], args := [d1, d2, d3] }
  | _ => none }
def SizingSpecWrongFalsely : Prop := sizingSpecRow.holds Try.pinned (OpenSpec.ofChange sizingSpecWrong)

/-- 'backflushlaw22.SizingCostSpec': WHATEVER THE INPUT: true; the input reads as it did. -/
def sizingCostSpecSpec : ChangeSpec := { name := "sizingCostSpec", fn := fun _ => fun
  | [d1, d2, d3, d4] => { results := [.lit (.bool true)], args := [d1, d2, d3, d4] }
  | _ => none }
def sizingCostSpecRow : OpenClaim := { program := "ytccjejfdhhnhjaa", sum := "f37040500a64112bd4d1165108185f30b7f1cd1a0367bff48065ff6d202aae64", func := "backflush/backflushlaw22.SizingCostSpec", spec := "sizingCostSpec", unfollowed := true, recurses := true, apart := false }
def SizingCostSpecSaid : Prop := sizingCostSpecRow.holds Try.pinned (OpenSpec.ofChange sizingCostSpecSpec)

/-- ITS FALSE NEIGHBOUR: 'it returns false'. Refute it at one input. -/
def sizingCostSpecWrong : ChangeSpec := { name := "sizingCostSpec", fn := fun _ => fun
  | [d1, d2, d3, d4] => { results := [.lit (.bool false)], args := [d1, d2, d3, d4] }
  | _ => none }
def SizingCostSpecWrongFalsely : Prop := sizingCostSpecRow.holds Try.pinned (OpenSpec.ofChange sizingCostSpecWrong)

/-- 'backflushlaw22.SizingLeast': WHATEVER THE INPUT: true; the input reads as it did. -/
def sizingLeastSpec : ChangeSpec := { name := "sizingLeast", fn := fun _ => fun
  | [d1, d2, d3, d4] => { results := [.lit (.bool true)], args := [d1, d2, d3, d4] }
  | _ => none }
def sizingLeastRow : OpenClaim := { program := "ytccjejfdhhnhjaa", sum := "f37040500a64112bd4d1165108185f30b7f1cd1a0367bff48065ff6d202aae64", func := "backflush/backflushlaw22.SizingLeast", spec := "sizingLeast", unfollowed := true, recurses := true, apart := false }
def SizingLeastSaid : Prop := sizingLeastRow.holds Try.pinned (OpenSpec.ofChange sizingLeastSpec)

/-- ITS FALSE NEIGHBOUR: 'it returns false'. Refute it at one input. -/
def sizingLeastWrong : ChangeSpec := { name := "sizingLeast", fn := fun _ => fun
  | [d1, d2, d3, d4] => { results := [.lit (.bool false)], args := [d1, d2, d3, d4] }
  | _ => none }
def SizingLeastWrongFalsely : Prop := sizingLeastRow.holds Try.pinned (OpenSpec.ofChange sizingLeastWrong)

/-- 'backflushlaw22.SizingSets': WHATEVER THE INPUT: true; the input reads as it did. -/
def sizingSetsSpec : ChangeSpec := { name := "sizingSets", fn := fun _ => fun
  | [d1, d2, d3, d4] => { results := [.lit (.bool true)], args := [d1, d2, d3, d4] }
  | _ => none }
def sizingSetsRow : OpenClaim := { program := "ytccjejfdhhnhjaa", sum := "f37040500a64112bd4d1165108185f30b7f1cd1a0367bff48065ff6d202aae64", func := "backflush/backflushlaw22.SizingSets", spec := "sizingSets", unfollowed := true, recurses := true, apart := false }
def SizingSetsSaid : Prop := sizingSetsRow.holds Try.pinned (OpenSpec.ofChange sizingSetsSpec)

/-- ITS FALSE NEIGHBOUR: 'it returns false'. Refute it at one input. -/
def sizingSetsWrong : ChangeSpec := { name := "sizingSets", fn := fun _ => fun
  | [d1, d2, d3, d4] => { results := [.lit (.bool false)], args := [d1, d2, d3, d4] }
  | _ => none }
def SizingSetsWrongFalsely : Prop := sizingSetsRow.holds Try.pinned (OpenSpec.ofChange sizingSetsWrong)

/-- 'backflushlaw22.SizingPrices': WHATEVER THE INPUT: true; the input reads as it did. -/
def sizingPricesSpec : ChangeSpec := { name := "sizingPrices", fn := fun _ => fun
  | [d1, d2, d3, d4] => { results := [.lit (.bool true)], args := [d1, d2, d3, d4] }
  | _ => none }
def sizingPricesRow : OpenClaim := { program := "ytccjejfdhhnhjaa", sum := "f37040500a64112bd4d1165108185f30b7f1cd1a0367bff48065ff6d202aae64", func := "backflush/backflushlaw22.SizingPrices", spec := "sizingPrices", unfollowed := true, recurses := true, apart := false }
def SizingPricesSaid : Prop := sizingPricesRow.holds Try.pinned (OpenSpec.ofChange sizingPricesSpec)

/-- ITS FALSE NEIGHBOUR: 'it returns false'. Refute it at one input. -/
def sizingPricesWrong : ChangeSpec := { name := "sizingPrices", fn := fun _ => fun
  | [d1, d2, d3, d4] => { results := [.lit (.bool false)], args := [d1, d2, d3, d4] }
  | _ => none }
def SizingPricesWrongFalsely : Prop := sizingPricesRow.holds Try.pinned (OpenSpec.ofChange sizingPricesWrong)

/-- 'backflushlaw22.SizingLess': WHATEVER THE INPUT: true; the input reads as it did. -/
def sizingLessSpec : ChangeSpec := { name := "sizingLess", fn := fun _ => fun
  | [d1, d2, d3, d4, d5, d6] => { results := [.lit (.bool true)], args := [d1, d2, d3, d4, d5, d6] }
  | _ => none }
def sizingLessRow : OpenClaim := { program := "ytccjejfdhhnhjaa", sum := "f37040500a64112bd4d1165108185f30b7f1cd1a0367bff48065ff6d202aae64", func := "backflush/backflushlaw22.SizingLess", spec := "sizingLess", unfollowed := true, recurses := true, apart := false }
def SizingLessSaid : Prop := sizingLessRow.holds Try.pinned (OpenSpec.ofChange sizingLessSpec)

/-- ITS FALSE NEIGHBOUR: 'it returns false'. Refute it at one input. -/
def sizingLessWrong : ChangeSpec := { name := "sizingLess", fn := fun _ => fun
  | [d1, d2, d3, d4, d5, d6] => { results := [.lit (.bool false)], args := [d1, d2, d3, d4, d5, d6] }
  | _ => none }
def SizingLessWrongFalsely : Prop := sizingLessRow.holds Try.pinned (OpenSpec.ofChange sizingLessWrong)

/-- 'backflushlaw22.SizingFree': WHATEVER THE INPUT: true; the input reads as it did. -/
def sizingFreeSpec : ChangeSpec := { name := "sizingFree", fn := fun _ => fun
  | [d1, d2] => { results := [.lit (.bool true)], args := [d1, d2] }
  | _ => none }
def sizingFreeRow : OpenClaim := { program := "ytccjejfdhhnhjaa", sum := "f37040500a64112bd4d1165108185f30b7f1cd1a0367bff48065ff6d202aae64", func := "backflush/backflushlaw22.SizingFree", spec := "sizingFree", unfollowed := true, recurses := true, apart := false }
def SizingFreeSaid : Prop := sizingFreeRow.holds Try.pinned (OpenSpec.ofChange sizingFreeSpec)

/-- ITS FALSE NEIGHBOUR: 'it returns false'. Refute it at one input. -/
def sizingFreeWrong : ChangeSpec := { name := "sizingFree", fn := fun _ => fun
  | [d1, d2] => { results := [.lit (.bool false)], args := [d1, d2] }
  | _ => none }
def SizingFreeWrongFalsely : Prop := sizingFreeRow.holds Try.pinned (OpenSpec.ofChange sizingFreeWrong)

/- THE SECOND FORM. 'bulk': how many values and letters a reading holds, each counted each time it is reached (what is shared counts as often as it is met; a slice's spare places count too). A statement '..UptoSaid' is the law's where the arguments, and the package variables that the reading takes, are together of bulk at most 1048576: NARROWER than '..Said'. Prove '..Said' where nothing that the law and all that it calls make is longer than what came in: it says more and counts as full. Else prove '..UptoSaid'. A law counts once. -/
mutual
def uptoBulk {H : Type} : DataW H → Nat
  | .lit (.string bytes) => bytes.length + 1
  | .lit _ => 1
  | .nil => 1
  | .ptr d => uptoBulk d + 1
  | .slice elems spare => uptoBulkAll elems + uptoBulkAll spare + 1
  | .agg parts => uptoBulkAll parts + 1
  | .iface _ d => uptoBulk d + 1
  | .map entries => uptoBulkEntries entries + 1
  | .held _ => 1
def uptoBulkAll {H : Type} : List (DataW H) → Nat
  | [] => 0
  | d :: r => uptoBulk d + uptoBulkAll r
def uptoBulkEntries {H : Type} : List (Lit × DataW H) → Nat
  | [] => 0
  | x :: r => uptoBulkEntry x + uptoBulkEntries r
def uptoBulkEntry {H : Type} : Lit × DataW H → Nat
  | (.string bytes, d) => bytes.length + uptoBulk d + 1
  | (_, d) => uptoBulk d + 1
 end
def uptoSmall : (H : Type) → List (DataW H) → Bool := fun _ ds => decide (uptoBulkAll ds ≤ 1048576)
def OpenSpec.upto (s : _root_.Go.ChangeSpec) : _root_.Go.OpenSpec := { _root_.Go.OpenSpec.ofChange s with cond := some uptoSmall }

/-- 'backflushlaw22.SizingSpec', WHERE WHAT IT READS IS OF BULK AT MOST 1048576: true; the input reads as it did. -/
def sizingSpecUptoRow : OpenClaim := { program := "ytccjejfdhhnhjaa", sum := "f37040500a64112bd4d1165108185f30b7f1cd1a0367bff48065ff6d202aae64", func := "backflush/backflushlaw22.SizingSpec", spec := "sizingSpec", unfollowed := true, recurses := true, apart := false, narrowed := true }
def SizingSpecUptoSaid : Prop := sizingSpecUptoRow.holds Try.pinned (OpenSpec.upto sizingSpecSpec)

/-- 'backflushlaw22.SizingCostSpec', WHERE WHAT IT READS IS OF BULK AT MOST 1048576: true; the input reads as it did. -/
def sizingCostSpecUptoRow : OpenClaim := { program := "ytccjejfdhhnhjaa", sum := "f37040500a64112bd4d1165108185f30b7f1cd1a0367bff48065ff6d202aae64", func := "backflush/backflushlaw22.SizingCostSpec", spec := "sizingCostSpec", unfollowed := true, recurses := true, apart := false, narrowed := true }
def SizingCostSpecUptoSaid : Prop := sizingCostSpecUptoRow.holds Try.pinned (OpenSpec.upto sizingCostSpecSpec)

/-- 'backflushlaw22.SizingLeast', WHERE WHAT IT READS IS OF BULK AT MOST 1048576: true; the input reads as it did. -/
def sizingLeastUptoRow : OpenClaim := { program := "ytccjejfdhhnhjaa", sum := "f37040500a64112bd4d1165108185f30b7f1cd1a0367bff48065ff6d202aae64", func := "backflush/backflushlaw22.SizingLeast", spec := "sizingLeast", unfollowed := true, recurses := true, apart := false, narrowed := true }
def SizingLeastUptoSaid : Prop := sizingLeastUptoRow.holds Try.pinned (OpenSpec.upto sizingLeastSpec)

/-- 'backflushlaw22.SizingSets', WHERE WHAT IT READS IS OF BULK AT MOST 1048576: true; the input reads as it did. -/
def sizingSetsUptoRow : OpenClaim := { program := "ytccjejfdhhnhjaa", sum := "f37040500a64112bd4d1165108185f30b7f1cd1a0367bff48065ff6d202aae64", func := "backflush/backflushlaw22.SizingSets", spec := "sizingSets", unfollowed := true, recurses := true, apart := false, narrowed := true }
def SizingSetsUptoSaid : Prop := sizingSetsUptoRow.holds Try.pinned (OpenSpec.upto sizingSetsSpec)

/-- 'backflushlaw22.SizingPrices', WHERE WHAT IT READS IS OF BULK AT MOST 1048576: true; the input reads as it did. -/
def sizingPricesUptoRow : OpenClaim := { program := "ytccjejfdhhnhjaa", sum := "f37040500a64112bd4d1165108185f30b7f1cd1a0367bff48065ff6d202aae64", func := "backflush/backflushlaw22.SizingPrices", spec := "sizingPrices", unfollowed := true, recurses := true, apart := false, narrowed := true }
def SizingPricesUptoSaid : Prop := sizingPricesUptoRow.holds Try.pinned (OpenSpec.upto sizingPricesSpec)

/-- 'backflushlaw22.SizingLess', WHERE WHAT IT READS IS OF BULK AT MOST 1048576: true; the input reads as it did. -/
def sizingLessUptoRow : OpenClaim := { program := "ytccjejfdhhnhjaa", sum := "f37040500a64112bd4d1165108185f30b7f1cd1a0367bff48065ff6d202aae64", func := "backflush/backflushlaw22.SizingLess", spec := "sizingLess", unfollowed := true, recurses := true, apart := false, narrowed := true }
def SizingLessUptoSaid : Prop := sizingLessUptoRow.holds Try.pinned (OpenSpec.upto sizingLessSpec)

/-- 'backflushlaw22.SizingFree', WHERE WHAT IT READS IS OF BULK AT MOST 1048576: true; the input reads as it did. -/
def sizingFreeUptoRow : OpenClaim := { program := "ytccjejfdhhnhjaa", sum := "f37040500a64112bd4d1165108185f30b7f1cd1a0367bff48065ff6d202aae64", func := "backflush/backflushlaw22.SizingFree", spec := "sizingFree", unfollowed := true, recurses := true, apart := false, narrowed := true }
def SizingFreeUptoSaid : Prop := sizingFreeUptoRow.holds Try.pinned (OpenSpec.upto sizingFreeSpec)

end Rows
end Go.Proofs.Ytccjejfdhhnhjaa
