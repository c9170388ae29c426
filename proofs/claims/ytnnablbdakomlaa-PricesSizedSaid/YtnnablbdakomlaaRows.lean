/-
  No cell of these rows narrows 'for every input' (looked for: loops, veiled, ifaces, maps, wideKeys, modest, calm, conditions, laid).
  DERIVED. THE GIVEN ROWS OF THIS SEAT. 7 by the template 'for every input the law returns true; each argument reads behind the call as it read before'; 0 by the template 'total and deterministic' (their statements: YtnnablbdakomlaaTotals.lean).
  GIVEN WITH THE SEED: the statements are not yours to turn. If you find one false, say at which input.
  Laid BY PROGRAM, IN A SANDBOX (cutbox-rows.mjs): the forced cells as the released guide's own fill.sh prints them over the translation 63c068c4289a0158… (all of the seat's roots in one cut). By AI agents, Wed Nov 11 2026. No macro, syntax, notation, axiom, sorry.
-/
import Derived.Test.YtnnablbdakomlaaChecked
import GoSem.Claim
import GoSem.ClaimJoined
import GoSem.ClaimMapViews
import Derived.JoinedTies
import Derived.KernelRfl
namespace Go.Proofs.Ytnnablbdakomlaa
/- THE CELL 'sum', in the pinned program and in every row, IS THE sha256 OF THE DUMP (.gsa) THAT YtnnablbdakomlaaProg.lean LOADS. Nothing in Lean hashes anything: it is a label: what it is worth is what the hold of that sum in a sandbox is worth. -/
noncomputable def Try.pinned : Pinned := { name := "ytnnablbdakomlaa", sum := "63c068c4289a015812cf2c9206d7789ccc89c83d867b1ab329b062d651c142e5", checked := Try.checked }
namespace Rows
def none {H : Type} : Left H := { results := [], args := [] }

/-- 'backflushlaw23.PricesBoundSpec': WHATEVER THE INPUT: true; the input reads as it did. -/
def pricesBoundSpecSpec : ChangeSpec := { name := "pricesBoundSpec", fn := fun _ => fun
  | [d1, d2, d3, d4] => { results := [.lit (.bool true)], args := [d1, d2, d3, d4] }
  | _ => none }
def pricesBoundSpecRow : OpenClaim := { program := "ytnnablbdakomlaa", sum := "63c068c4289a015812cf2c9206d7789ccc89c83d867b1ab329b062d651c142e5", func := "backflush/backflushlaw23.PricesBoundSpec", spec := "pricesBoundSpec", unfollowed := true, recurses := true, apart := false }
def PricesBoundSpecSaid : Prop := pricesBoundSpecRow.holds Try.pinned (OpenSpec.ofChange pricesBoundSpecSpec)

/-- ITS FALSE NEIGHBOUR: 'it returns false'. Refute it at one input. -/
def pricesBoundSpecWrong : ChangeSpec := { name := "pricesBoundSpec", fn := fun _ => fun
  | [d1, d2, d3, d4] => { results := [.lit (.bool false)], args := [d1, d2, d3, d4] }
  | _ => none }
def PricesBoundSpecWrongFalsely : Prop := pricesBoundSpecRow.holds Try.pinned (OpenSpec.ofChange pricesBoundSpecWrong)

/-- 'backflushlaw23.PricesCheckSpec': WHATEVER THE INPUT: true; the input reads as it did. -/
def pricesCheckSpecSpec : ChangeSpec := { name := "pricesCheckSpec", fn := fun _ => fun
  | [d1, d2, d3, d4] => { results := [.lit (.bool true)], args := [d1, d2, d3, d4] }
  | _ => none }
def pricesCheckSpecRow : OpenClaim := { program := "ytnnablbdakomlaa", sum := "63c068c4289a015812cf2c9206d7789ccc89c83d867b1ab329b062d651c142e5", func := "backflush/backflushlaw23.PricesCheckSpec", spec := "pricesCheckSpec", unfollowed := true, recurses := true, apart := false }
def PricesCheckSpecSaid : Prop := pricesCheckSpecRow.holds Try.pinned (OpenSpec.ofChange pricesCheckSpecSpec)

/-- ITS FALSE NEIGHBOUR: 'it returns false'. Refute it at one input. -/
def pricesCheckSpecWrong : ChangeSpec := { name := "pricesCheckSpec", fn := fun _ => fun
  | [d1, d2, d3, d4] => { results := [.lit (.bool false)], args := [d1, d2, d3, d4] }
  | _ => none }
def PricesCheckSpecWrongFalsely : Prop := pricesCheckSpecRow.holds Try.pinned (OpenSpec.ofChange pricesCheckSpecWrong)

/-- 'backflushlaw23.PricesLeast': WHATEVER THE INPUT: true; the input reads as it did. -/
def pricesLeastSpec : ChangeSpec := { name := "pricesLeast", fn := fun _ => fun
  | [d1, d2, d3, d4, d5] => { results := [.lit (.bool true)], args := [d1, d2, d3, d4, d5] }
  | _ => none }
def pricesLeastRow : OpenClaim := { program := "ytnnablbdakomlaa", sum := "63c068c4289a015812cf2c9206d7789ccc89c83d867b1ab329b062d651c142e5", func := "backflush/backflushlaw23.PricesLeast", spec := "pricesLeast", unfollowed := true, recurses := true, apart := false }
def PricesLeastSaid : Prop := pricesLeastRow.holds Try.pinned (OpenSpec.ofChange pricesLeastSpec)

/-- ITS FALSE NEIGHBOUR: 'it returns false'. Refute it at one input. -/
def pricesLeastWrong : ChangeSpec := { name := "pricesLeast", fn := fun _ => fun
  | [d1, d2, d3, d4, d5] => { results := [.lit (.bool false)], args := [d1, d2, d3, d4, d5] }
  | _ => none }
def PricesLeastWrongFalsely : Prop := pricesLeastRow.holds Try.pinned (OpenSpec.ofChange pricesLeastWrong)

/-- 'backflushlaw23.PricesOne': WHATEVER THE INPUT: true; the input reads as it did. -/
def pricesOneSpec : ChangeSpec := { name := "pricesOne", fn := fun _ => fun
  | [d1, d2, d3, d4, d5, d6] => { results := [.lit (.bool true)], args := [d1, d2, d3, d4, d5, d6] }
  | _ => none }
def pricesOneRow : OpenClaim := { program := "ytnnablbdakomlaa", sum := "63c068c4289a015812cf2c9206d7789ccc89c83d867b1ab329b062d651c142e5", func := "backflush/backflushlaw23.PricesOne", spec := "pricesOne", unfollowed := true, recurses := true, apart := false }
def PricesOneSaid : Prop := pricesOneRow.holds Try.pinned (OpenSpec.ofChange pricesOneSpec)

/-- ITS FALSE NEIGHBOUR: 'it returns false'. Refute it at one input. -/
def pricesOneWrong : ChangeSpec := { name := "pricesOne", fn := fun _ => fun
  | [d1, d2, d3, d4, d5, d6] => { results := [.lit (.bool false)], args := [d1, d2, d3, d4, d5, d6] }
  | _ => none }
def PricesOneWrongFalsely : Prop := pricesOneRow.holds Try.pinned (OpenSpec.ofChange pricesOneWrong)

/-- 'backflushlaw23.PricesLower': WHATEVER THE INPUT: true; the input reads as it did. -/
def pricesLowerSpec : ChangeSpec := { name := "pricesLower", fn := fun _ => fun
  | [d1, d2, d3, d4, d5, d6] => { results := [.lit (.bool true)], args := [d1, d2, d3, d4, d5, d6] }
  | _ => none }
def pricesLowerRow : OpenClaim := { program := "ytnnablbdakomlaa", sum := "63c068c4289a015812cf2c9206d7789ccc89c83d867b1ab329b062d651c142e5", func := "backflush/backflushlaw23.PricesLower", spec := "pricesLower", unfollowed := true, recurses := true, apart := false }
def PricesLowerSaid : Prop := pricesLowerRow.holds Try.pinned (OpenSpec.ofChange pricesLowerSpec)

/-- ITS FALSE NEIGHBOUR: 'it returns false'. Refute it at one input. -/
def pricesLowerWrong : ChangeSpec := { name := "pricesLower", fn := fun _ => fun
  | [d1, d2, d3, d4, d5, d6] => { results := [.lit (.bool false)], args := [d1, d2, d3, d4, d5, d6] }
  | _ => none }
def PricesLowerWrongFalsely : Prop := pricesLowerRow.holds Try.pinned (OpenSpec.ofChange pricesLowerWrong)

/-- 'backflushlaw23.PricesSized': WHATEVER THE INPUT: true; the input reads as it did. -/
def pricesSizedSpec : ChangeSpec := { name := "pricesSized", fn := fun _ => fun
  | [d1, d2, d3, d4, d5] => { results := [.lit (.bool true)], args := [d1, d2, d3, d4, d5] }
  | _ => none }
def pricesSizedRow : OpenClaim := { program := "ytnnablbdakomlaa", sum := "63c068c4289a015812cf2c9206d7789ccc89c83d867b1ab329b062d651c142e5", func := "backflush/backflushlaw23.PricesSized", spec := "pricesSized", unfollowed := true, recurses := true, apart := false }
def PricesSizedSaid : Prop := pricesSizedRow.holds Try.pinned (OpenSpec.ofChange pricesSizedSpec)

/-- ITS FALSE NEIGHBOUR: 'it returns false'. Refute it at one input. -/
def pricesSizedWrong : ChangeSpec := { name := "pricesSized", fn := fun _ => fun
  | [d1, d2, d3, d4, d5] => { results := [.lit (.bool false)], args := [d1, d2, d3, d4, d5] }
  | _ => none }
def PricesSizedWrongFalsely : Prop := pricesSizedRow.holds Try.pinned (OpenSpec.ofChange pricesSizedWrong)

/-- 'backflushlaw23.PricesTight': WHATEVER THE INPUT: true; the input reads as it did. -/
def pricesTightSpec : ChangeSpec := { name := "pricesTight", fn := fun _ => fun
  | [d1, d2, d3, d4] => { results := [.lit (.bool true)], args := [d1, d2, d3, d4] }
  | _ => none }
def pricesTightRow : OpenClaim := { program := "ytnnablbdakomlaa", sum := "63c068c4289a015812cf2c9206d7789ccc89c83d867b1ab329b062d651c142e5", func := "backflush/backflushlaw23.PricesTight", spec := "pricesTight", unfollowed := true, recurses := true, apart := false }
def PricesTightSaid : Prop := pricesTightRow.holds Try.pinned (OpenSpec.ofChange pricesTightSpec)

/-- ITS FALSE NEIGHBOUR: 'it returns false'. Refute it at one input. -/
def pricesTightWrong : ChangeSpec := { name := "pricesTight", fn := fun _ => fun
  | [d1, d2, d3, d4] => { results := [.lit (.bool false)], args := [d1, d2, d3, d4] }
  | _ => none }
def PricesTightWrongFalsely : Prop := pricesTightRow.holds Try.pinned (OpenSpec.ofChange pricesTightWrong)

/- THE SECOND FORM. 'bulk': how many values and letters a reading holds, each counted each time it is reached (what is shared counts as often as it is met; a slice's spare places count too). A statement '..UptoSaid' is the law's where the arguments, and the package variables that the reading takes, are together of bulk at most 1048576: NARROWER than '..Said'. Prove '..Said' where nothing that the law and all that it calls make is longer than what came in: it says more and counts as full. Else prove '..UptoSaid'. A law counts once. -/
mutual
def uptoBulk {H : Type} : DataW H → Nat
  | .lit (.string bytes) => bytes.length + 1
  | .lit _ => 1
  | .nil => 1
  | .ptr d => uptoBulk d + 1
  | .slice elems spare => uptoBulkAll elems + uptoBulkAll spare + 1
  | .agg parts => uptoBulkAll parts + 1
  | .iface _ d => uptoBulk d + 1
  | .map entries => uptoBulkEntries entries + 1
  | .held _ => 1
def uptoBulkAll {H : Type} : List (DataW H) → Nat
  | [] => 0
  | d :: r => uptoBulk d + uptoBulkAll r
def uptoBulkEntries {H : Type} : List (Lit × DataW H) → Nat
  | [] => 0
  | x :: r => uptoBulkEntry x + uptoBulkEntries r
def uptoBulkEntry {H : Type} : Lit × DataW H → Nat
  | (.string bytes, d) => bytes.length + uptoBulk d + 1
  | (_, d) => uptoBulk d + 1
 end
def uptoSmall : (H : Type) → List (DataW H) → Bool := fun _ ds => decide (uptoBulkAll ds ≤ 1048576)
def OpenSpec.upto (s : _root_.Go.ChangeSpec) : _root_.Go.OpenSpec := { _root_.Go.OpenSpec.ofChange s with cond := some uptoSmall }

/-- 'backflushlaw23.PricesBoundSpec', WHERE WHAT IT READS IS OF BULK AT MOST 1048576: true; the input reads as it did. -/
def pricesBoundSpecUptoRow : OpenClaim := { program := "ytnnablbdakomlaa", sum := "63c068c4289a015812cf2c9206d7789ccc89c83d867b1ab329b062d651c142e5", func := "backflush/backflushlaw23.PricesBoundSpec", spec := "pricesBoundSpec", unfollowed := true, recurses := true, apart := false, narrowed := true }
def PricesBoundSpecUptoSaid : Prop := pricesBoundSpecUptoRow.holds Try.pinned (OpenSpec.upto pricesBoundSpecSpec)

/-- 'backflushlaw23.PricesCheckSpec', WHERE WHAT IT READS IS OF BULK AT MOST 1048576: true; the input reads as it did. -/
def pricesCheckSpecUptoRow : OpenClaim := { program := "ytnnablbdakomlaa", sum := "63c068c4289a015812cf2c9206d7789ccc89c83d867b1ab329b062d651c142e5", func := "backflush/backflushlaw23.PricesCheckSpec", spec := "pricesCheckSpec", unfollowed := true, recurses := true, apart := false, narrowed := true }
def PricesCheckSpecUptoSaid : Prop := pricesCheckSpecUptoRow.holds Try.pinned (OpenSpec.upto pricesCheckSpecSpec)

/-- 'backflushlaw23.PricesLeast', WHERE WHAT IT READS IS OF BULK AT MOST 1048576: true; the input reads as it did. -/
def pricesLeastUptoRow : OpenClaim := { program := "ytnnablbdakomlaa", sum := "63c068c4289a015812cf2c9206d7789ccc89c83d867b1ab329b062d651c142e5", func := "backflush/backflushlaw23.PricesLeast", spec := "pricesLeast", unfollowed := true, recurses := true, apart := false, narrowed := true }
def PricesLeastUptoSaid : Prop := pricesLeastUptoRow.holds Try.pinned (OpenSpec.upto pricesLeastSpec)

/-- 'backflushlaw23.PricesOne', WHERE WHAT IT READS IS OF BULK AT MOST 1048576: true; the input reads as it did. -/
def pricesOneUptoRow : OpenClaim := { program := "ytnnablbdakomlaa", sum := "63c068c4289a015812cf2c9206d7789ccc89c83d867b1ab329b062d651c142e5", func := "backflush/backflushlaw23.PricesOne", spec := "pricesOne", unfollowed := true, recurses := true, apart := false, narrowed := true }
def PricesOneUptoSaid : Prop := pricesOneUptoRow.holds Try.pinned (OpenSpec.upto pricesOneSpec)

/-- 'backflushlaw23.PricesLower', WHERE WHAT IT READS IS OF BULK AT MOST 1048576: true; the input reads as it did. -/
def pricesLowerUptoRow : OpenClaim := { program := "ytnnablbdakomlaa", sum := "63c068c4289a015812cf2c9206d7789ccc89c83d867b1ab329b062d651c142e5", func := "backflush/backflushlaw23.PricesLower", spec := "pricesLower", unfollowed := true, recurses := true, apart := false, narrowed := true }
def PricesLowerUptoSaid : Prop := pricesLowerUptoRow.holds Try.pinned (OpenSpec.upto pricesLowerSpec)

/-- 'backflushlaw23.PricesSized', WHERE WHAT IT READS IS OF BULK AT MOST 1048576: true; the input reads as it did. -/
def pricesSizedUptoRow : OpenClaim := { program := "ytnnablbdakomlaa", sum := "63c068c4289a015812cf2c9206d7789ccc89c83d867b1ab329b062d651c142e5", func := "backflush/backflushlaw23.PricesSized", spec := "pricesSized", unfollowed := true, recurses := true, apart := false, narrowed := true }
def PricesSizedUptoSaid : Prop := pricesSizedUptoRow.holds Try.pinned (OpenSpec.upto pricesSizedSpec)

/-- 'backflushlaw23.PricesTight', WHERE WHAT IT READS IS OF BULK AT MOST 1048576: true; the input reads as it did. -/
def pricesTightUptoRow : OpenClaim := { program := "ytnnablbdakomlaa", sum := "63c068c4289a015812cf2c9206d7789ccc89c83d867b1ab329b062d651c142e5", func := "backflush/backflushlaw23.PricesTight", spec := "pricesTight", unfollowed := true, recurses := true, apart := false, narrowed := true }
def PricesTightUptoSaid : Prop := pricesTightUptoRow.holds Try.pinned (OpenSpec.upto pricesTightSpec)

end Rows
end Go.Proofs.Ytnnablbdakomlaa
