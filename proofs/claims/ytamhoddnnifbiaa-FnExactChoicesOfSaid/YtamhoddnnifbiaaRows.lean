/-
  No cell of these rows narrows 'for every input' (looked for: loops, veiled, ifaces, maps, wideKeys, modest, calm, conditions, laid).
  DERIVED. THE GIVEN ROWS OF THIS SEAT. 6 by the template 'for every input the law returns true; each argument reads behind the call as it read before'; 0 by the template 'total and deterministic' (their statements: YtamhoddnnifbiaaTotals.lean).
  GIVEN WITH THE SEED: the statements are not yours to turn. If you find one false, say at which input.
  Laid BY PROGRAM, IN A SANDBOX (cutbox-rows.mjs): the forced cells as the released guide's own fill.sh prints them over the translation 34fcf0cc577c1c52… (all of the seat's roots in one cut). By AI agents, Wed Nov 11 2026. No macro, syntax, notation, axiom, sorry.
-/
import Derived.Test.YtamhoddnnifbiaaChecked
import GoSem.Claim
import GoSem.ClaimJoined
import GoSem.ClaimMapViews
import Derived.JoinedTies
import Derived.KernelRfl
namespace Go.Proofs.Ytamhoddnnifbiaa
/- THE CELL 'sum', in the pinned program and in every row, IS THE sha256 OF THE DUMP (.gsa) THAT YtamhoddnnifbiaaProg.lean LOADS. Nothing in Lean hashes anything: it is a label: what it is worth is what the hold of that sum in a sandbox is worth. -/
noncomputable def Try.pinned : Pinned := { name := "ytamhoddnnifbiaa", sum := "34fcf0cc577c1c52d112190d473872d3c8754fc3700fba36b3199390b04955de", checked := Try.checked }
namespace Rows
def none {H : Type} : Left H := { results := [], args := [] }

/-- 'laws.FnExactChoicesOf': WHATEVER THE INPUT: true; the input reads as it did. -/
def fnExactChoicesOfSpec : ChangeSpec := { name := "fnExactChoicesOf", fn := fun _ => fun
  | [d] => { results := [.lit (.bool true)], args := [d] }
  | _ => none }
def fnExactChoicesOfRow : OpenClaim := { program := "ytamhoddnnifbiaa", sum := "34fcf0cc577c1c52d112190d473872d3c8754fc3700fba36b3199390b04955de", func := "loop.example/g03407/laws.FnExactChoicesOf", spec := "fnExactChoicesOf", apart := false }
def FnExactChoicesOfSaid : Prop := fnExactChoicesOfRow.holds Try.pinned (OpenSpec.ofChange fnExactChoicesOfSpec)

/-- ITS FALSE NEIGHBOUR: 'it returns false'. Refute it at one input. -/
def fnExactChoicesOfWrong : ChangeSpec := { name := "fnExactChoicesOf", fn := fun _ => fun
  | [d] => { results := [.lit (.bool false)], args := [d] }
  | _ => none }
def FnExactChoicesOfWrongFalsely : Prop := fnExactChoicesOfRow.holds Try.pinned (OpenSpec.ofChange fnExactChoicesOfWrong)

/-- 'laws.FnExactLinesOf': WHATEVER THE INPUT: true; the input reads as it did. -/
def fnExactLinesOfSpec : ChangeSpec := { name := "fnExactLinesOf", fn := fun _ => fun
  | [d1, d2, d3, d4, d5] => { results := [.lit (.bool true)], args := [d1, d2, d3, d4, d5] }
  | _ => none }
def fnExactLinesOfRow : OpenClaim := { program := "ytamhoddnnifbiaa", sum := "34fcf0cc577c1c52d112190d473872d3c8754fc3700fba36b3199390b04955de", func := "loop.example/g03407/laws.FnExactLinesOf", spec := "fnExactLinesOf", apart := false }
def FnExactLinesOfSaid : Prop := fnExactLinesOfRow.holds Try.pinned (OpenSpec.ofChange fnExactLinesOfSpec)

/-- ITS FALSE NEIGHBOUR: 'it returns false'. Refute it at one input. -/
def fnExactLinesOfWrong : ChangeSpec := { name := "fnExactLinesOf", fn := fun _ => fun
  | [d1, d2, d3, d4, d5] => { results := [.lit (.bool false)], args := [d1, d2, d3, d4, d5] }
  | _ => none }
def FnExactLinesOfWrongFalsely : Prop := fnExactLinesOfRow.holds Try.pinned (OpenSpec.ofChange fnExactLinesOfWrong)

/-- 'laws.FnExactBillsOn': WHATEVER THE INPUT: true; the input reads as it did. -/
def fnExactBillsOnSpec : ChangeSpec := { name := "fnExactBillsOn", fn := fun _ => fun
  | [d1, d2, d3] => { results := [.lit (.bool true)], args := [d1, d2, d3] }
  | _ => none }
def fnExactBillsOnRow : OpenClaim := { program := "ytamhoddnnifbiaa", sum := "34fcf0cc577c1c52d112190d473872d3c8754fc3700fba36b3199390b04955de", func := "loop.example/g03407/laws.FnExactBillsOn", spec := "fnExactBillsOn", apart := false }
def FnExactBillsOnSaid : Prop := fnExactBillsOnRow.holds Try.pinned (OpenSpec.ofChange fnExactBillsOnSpec)

/-- ITS FALSE NEIGHBOUR: 'it returns false'. Refute it at one input. -/
def fnExactBillsOnWrong : ChangeSpec := { name := "fnExactBillsOn", fn := fun _ => fun
  | [d1, d2, d3] => { results := [.lit (.bool false)], args := [d1, d2, d3] }
  | _ => none }
def FnExactBillsOnWrongFalsely : Prop := fnExactBillsOnRow.holds Try.pinned (OpenSpec.ofChange fnExactBillsOnWrong)

/-- 'laws.FnExactTidyLines': WHATEVER THE INPUT: true; the input reads as it did. -/
def fnExactTidyLinesSpec : ChangeSpec := { name := "fnExactTidyLines", fn := fun _ => fun
  | [d1, d2] => { results := [.lit (.bool true)], args := [d1, d2] }
  | _ => none }
def fnExactTidyLinesRow : OpenClaim := { program := "ytamhoddnnifbiaa", sum := "34fcf0cc577c1c52d112190d473872d3c8754fc3700fba36b3199390b04955de", func := "loop.example/g03407/laws.FnExactTidyLines", spec := "fnExactTidyLines", apart := false }
def FnExactTidyLinesSaid : Prop := fnExactTidyLinesRow.holds Try.pinned (OpenSpec.ofChange fnExactTidyLinesSpec)

/-- ITS FALSE NEIGHBOUR: 'it returns false'. Refute it at one input. -/
def fnExactTidyLinesWrong : ChangeSpec := { name := "fnExactTidyLines", fn := fun _ => fun
  | [d1, d2] => { results := [.lit (.bool false)], args := [d1, d2] }
  | _ => none }
def FnExactTidyLinesWrongFalsely : Prop := fnExactTidyLinesRow.holds Try.pinned (OpenSpec.ofChange fnExactTidyLinesWrong)

/-- 'laws.FnExactApplyChange': WHATEVER THE INPUT: true; the input reads as it did. -/
def fnExactApplyChangeSpec : ChangeSpec := { name := "fnExactApplyChange", fn := fun _ => fun
  | [d1, d2, d3] => { results := [.lit (.bool true)], args := [d1, d2, d3] }
  | _ => none }
def fnExactApplyChangeRow : OpenClaim := { program := "ytamhoddnnifbiaa", sum := "34fcf0cc577c1c52d112190d473872d3c8754fc3700fba36b3199390b04955de", func := "loop.example/g03407/laws.FnExactApplyChange", spec := "fnExactApplyChange", apart := false }
def FnExactApplyChangeSaid : Prop := fnExactApplyChangeRow.holds Try.pinned (OpenSpec.ofChange fnExactApplyChangeSpec)

/-- ITS FALSE NEIGHBOUR: 'it returns false'. Refute it at one input. -/
def fnExactApplyChangeWrong : ChangeSpec := { name := "fnExactApplyChange", fn := fun _ => fun
  | [d1, d2, d3] => { results := [.lit (.bool false)], args := [d1, d2, d3] }
  | _ => none }
def FnExactApplyChangeWrongFalsely : Prop := fnExactApplyChangeRow.holds Try.pinned (OpenSpec.ofChange fnExactApplyChangeWrong)

/-- 'laws.FnExactApplyChanges': WHATEVER THE INPUT: true; the input reads as it did. -/
def fnExactApplyChangesSpec : ChangeSpec := { name := "fnExactApplyChanges", fn := fun _ => fun
  | [d1, d2, d3] => { results := [.lit (.bool true)], args := [d1, d2, d3] }
  | _ => none }
def fnExactApplyChangesRow : OpenClaim := { program := "ytamhoddnnifbiaa", sum := "34fcf0cc577c1c52d112190d473872d3c8754fc3700fba36b3199390b04955de", func := "loop.example/g03407/laws.FnExactApplyChanges", spec := "fnExactApplyChanges", apart := false }
def FnExactApplyChangesSaid : Prop := fnExactApplyChangesRow.holds Try.pinned (OpenSpec.ofChange fnExactApplyChangesSpec)

/-- ITS FALSE NEIGHBOUR: 'it returns false'. Refute it at one input. -/
def fnExactApplyChangesWrong : ChangeSpec := { name := "fnExactApplyChanges", fn := fun _ => fun
  | [d1, d2, d3] => { results := [.lit (.bool false)], args := [d1, d2, d3] }
  | _ => none }
def FnExactApplyChangesWrongFalsely : Prop := fnExactApplyChangesRow.holds Try.pinned (OpenSpec.ofChange fnExactApplyChangesWrong)

/- THE SECOND FORM. 'bulk': how many values and letters a reading holds, each counted each time it is reached (what is shared counts as often as it is met; a slice's spare places count too). A statement '..UptoSaid' is the law's where the arguments, and the package variables that the reading takes, are together of bulk at most 1048576: NARROWER than '..Said'. Prove '..Said' where nothing that the law and all that it calls make is longer than what came in: it says more and counts as full. Else prove '..UptoSaid'. A law counts once. -/
mutual
def uptoBulk {H : Type} : DataW H → Nat
  | .lit (.string bytes) => bytes.length + 1
  | .lit _ => 1
  | .nil => 1
  | .ptr d => uptoBulk d + 1
  | .slice elems spare => uptoBulkAll elems + uptoBulkAll spare + 1
  | .agg parts => uptoBulkAll parts + 1
  | .iface _ d => uptoBulk d + 1
  | .map entries => uptoBulkEntries entries + 1
  | .held _ => 1
def uptoBulkAll {H : Type} : List (DataW H) → Nat
  | [] => 0
  | d :: r => uptoBulk d + uptoBulkAll r
def uptoBulkEntries {H : Type} : List (Lit × DataW H) → Nat
  | [] => 0
  | x :: r => uptoBulkEntry x + uptoBulkEntries r
def uptoBulkEntry {H : Type} : Lit × DataW H → Nat
  | (.string bytes, d) => bytes.length + uptoBulk d + 1
  | (_, d) => uptoBulk d + 1
 end
def uptoSmall : (H : Type) → List (DataW H) → Bool := fun _ ds => decide (uptoBulkAll ds ≤ 1048576)
def OpenSpec.upto (s : _root_.Go.ChangeSpec) : _root_.Go.OpenSpec := { _root_.Go.OpenSpec.ofChange s with cond := some uptoSmall }

/-- 'laws.FnExactChoicesOf', WHERE WHAT IT READS IS OF BULK AT MOST 1048576: true; the input reads as it did. -/
def fnExactChoicesOfUptoRow : OpenClaim := { program := "ytamhoddnnifbiaa", sum := "34fcf0cc577c1c52d112190d473872d3c8754fc3700fba36b3199390b04955de", func := "loop.example/g03407/laws.FnExactChoicesOf", spec := "fnExactChoicesOf", apart := false, narrowed := true }
def FnExactChoicesOfUptoSaid : Prop := fnExactChoicesOfUptoRow.holds Try.pinned (OpenSpec.upto fnExactChoicesOfSpec)

/-- 'laws.FnExactLinesOf', WHERE WHAT IT READS IS OF BULK AT MOST 1048576: true; the input reads as it did. -/
def fnExactLinesOfUptoRow : OpenClaim := { program := "ytamhoddnnifbiaa", sum := "34fcf0cc577c1c52d112190d473872d3c8754fc3700fba36b3199390b04955de", func := "loop.example/g03407/laws.FnExactLinesOf", spec := "fnExactLinesOf", apart := false, narrowed := true }
def FnExactLinesOfUptoSaid : Prop := fnExactLinesOfUptoRow.holds Try.pinned (OpenSpec.upto fnExactLinesOfSpec)

/-- 'laws.FnExactBillsOn', WHERE WHAT IT READS IS OF BULK AT MOST 1048576: true; the input reads as it did. -/
def fnExactBillsOnUptoRow : OpenClaim := { program := "ytamhoddnnifbiaa", sum := "34fcf0cc577c1c52d112190d473872d3c8754fc3700fba36b3199390b04955de", func := "loop.example/g03407/laws.FnExactBillsOn", spec := "fnExactBillsOn", apart := false, narrowed := true }
def FnExactBillsOnUptoSaid : Prop := fnExactBillsOnUptoRow.holds Try.pinned (OpenSpec.upto fnExactBillsOnSpec)

/-- 'laws.FnExactTidyLines', WHERE WHAT IT READS IS OF BULK AT MOST 1048576: true; the input reads as it did. -/
def fnExactTidyLinesUptoRow : OpenClaim := { program := "ytamhoddnnifbiaa", sum := "34fcf0cc577c1c52d112190d473872d3c8754fc3700fba36b3199390b04955de", func := "loop.example/g03407/laws.FnExactTidyLines", spec := "fnExactTidyLines", apart := false, narrowed := true }
def FnExactTidyLinesUptoSaid : Prop := fnExactTidyLinesUptoRow.holds Try.pinned (OpenSpec.upto fnExactTidyLinesSpec)

/-- 'laws.FnExactApplyChange', WHERE WHAT IT READS IS OF BULK AT MOST 1048576: true; the input reads as it did. -/
def fnExactApplyChangeUptoRow : OpenClaim := { program := "ytamhoddnnifbiaa", sum := "34fcf0cc577c1c52d112190d473872d3c8754fc3700fba36b3199390b04955de", func := "loop.example/g03407/laws.FnExactApplyChange", spec := "fnExactApplyChange", apart := false, narrowed := true }
def FnExactApplyChangeUptoSaid : Prop := fnExactApplyChangeUptoRow.holds Try.pinned (OpenSpec.upto fnExactApplyChangeSpec)

/-- 'laws.FnExactApplyChanges', WHERE WHAT IT READS IS OF BULK AT MOST 1048576: true; the input reads as it did. -/
def fnExactApplyChangesUptoRow : OpenClaim := { program := "ytamhoddnnifbiaa", sum := "34fcf0cc577c1c52d112190d473872d3c8754fc3700fba36b3199390b04955de", func := "loop.example/g03407/laws.FnExactApplyChanges", spec := "fnExactApplyChanges", apart := false, narrowed := true }
def FnExactApplyChangesUptoSaid : Prop := fnExactApplyChangesUptoRow.holds Try.pinned (OpenSpec.upto fnExactApplyChangesSpec)

end Rows
end Go.Proofs.Ytamhoddnnifbiaa
