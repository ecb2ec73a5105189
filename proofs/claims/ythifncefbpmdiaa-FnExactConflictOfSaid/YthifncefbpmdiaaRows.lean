/-
  No cell of these rows narrows 'for every input' (looked for: loops, veiled, ifaces, maps, wideKeys, modest, calm, conditions, laid).
  DERIVED. THE GIVEN ROWS OF THIS SEAT. 12 by the template 'for every input the law returns true; each argument reads behind the call as it read before'; 0 by the template 'total and deterministic' (their statements: YthifncefbpmdiaaTotals.lean).
  GIVEN WITH THE SEED: the statements are not yours to turn. If you find one false, say at which input.
  Laid BY PROGRAM, IN A SANDBOX (cutbox-rows.mjs): the forced cells as the released guide's own fill.sh prints them over the translation 7b3f968c074599a8… (all of the seat's roots in one cut). By AI agents, Wed Nov 11 2026. No macro, syntax, notation, axiom, sorry.
-/
import Derived.Test.YthifncefbpmdiaaChecked
import GoSem.Claim
import GoSem.ClaimJoined
import GoSem.ClaimMapViews
import Derived.JoinedTies
import Derived.KernelRfl
namespace Go.Proofs.Ythifncefbpmdiaa
/- THE CELL 'sum', in the pinned program and in every row, IS THE sha256 OF THE DUMP (.gsa) THAT YthifncefbpmdiaaProg.lean LOADS. Nothing in Lean hashes anything: it is a label: what it is worth is what the hold of that sum in a sandbox is worth. -/
noncomputable def Try.pinned : Pinned := { name := "ythifncefbpmdiaa", sum := "7b3f968c074599a8dd159aa229203629e9fb95048b1b04c626595957dfbc921c", checked := Try.checked }
namespace Rows
def none {H : Type} : Left H := { results := [], args := [] }

/-- 'laws.FnSorted': WHATEVER THE INPUT: true; the input reads as it did. -/
def fnSortedSpec : ChangeSpec := { name := "fnSorted", fn := fun _ => fun
  | [d] => { results := [.lit (.bool true)], args := [d] }
  | _ => none }
def fnSortedRow : OpenClaim := { program := "ythifncefbpmdiaa", sum := "7b3f968c074599a8dd159aa229203629e9fb95048b1b04c626595957dfbc921c", func := "loop.example/g03407/laws.FnSorted", spec := "fnSorted", unfollowed := true, recurses := true, apart := false }
def FnSortedSaid : Prop := fnSortedRow.holds Try.pinned (OpenSpec.ofChange fnSortedSpec)

/-- ITS FALSE NEIGHBOUR: 'it returns false'. Refute it at one input. -/
def fnSortedWrong : ChangeSpec := { name := "fnSorted", fn := fun _ => fun
  | [d] => { results := [.lit (.bool false)], args := [d] }
  | _ => none }
def FnSortedWrongFalsely : Prop := fnSortedRow.holds Try.pinned (OpenSpec.ofChange fnSortedWrong)

/-- 'laws.FnExactSortDemands': WHATEVER THE INPUT: true; the input reads as it did. -/
def fnExactSortDemandsSpec : ChangeSpec := { name := "fnExactSortDemands", fn := fun _ => fun
  | [d] => { results := [.lit (.bool true)], args := [d] }
  | _ => none }
def fnExactSortDemandsRow : OpenClaim := { program := "ythifncefbpmdiaa", sum := "7b3f968c074599a8dd159aa229203629e9fb95048b1b04c626595957dfbc921c", func := "loop.example/g03407/laws.FnExactSortDemands", spec := "fnExactSortDemands", unfollowed := true, recurses := true, apart := false }
def FnExactSortDemandsSaid : Prop := fnExactSortDemandsRow.holds Try.pinned (OpenSpec.ofChange fnExactSortDemandsSpec)

/-- ITS FALSE NEIGHBOUR: 'it returns false'. Refute it at one input. -/
def fnExactSortDemandsWrong : ChangeSpec := { name := "fnExactSortDemands", fn := fun _ => fun
  | [d] => { results := [.lit (.bool false)], args := [d] }
  | _ => none }
def FnExactSortDemandsWrongFalsely : Prop := fnExactSortDemandsRow.holds Try.pinned (OpenSpec.ofChange fnExactSortDemandsWrong)

/-- 'laws.FnForecasts': WHATEVER THE INPUT: true; the input reads as it did. -/
def fnForecastsSpec : ChangeSpec := { name := "fnForecasts", fn := fun _ => fun
  | [d] => { results := [.lit (.bool true)], args := [d] }
  | _ => none }
def fnForecastsRow : OpenClaim := { program := "ythifncefbpmdiaa", sum := "7b3f968c074599a8dd159aa229203629e9fb95048b1b04c626595957dfbc921c", func := "loop.example/g03407/laws.FnForecasts", spec := "fnForecasts", unfollowed := true, recurses := true, apart := false }
def FnForecastsSaid : Prop := fnForecastsRow.holds Try.pinned (OpenSpec.ofChange fnForecastsSpec)

/-- ITS FALSE NEIGHBOUR: 'it returns false'. Refute it at one input. -/
def fnForecastsWrong : ChangeSpec := { name := "fnForecasts", fn := fun _ => fun
  | [d] => { results := [.lit (.bool false)], args := [d] }
  | _ => none }
def FnForecastsWrongFalsely : Prop := fnForecastsRow.holds Try.pinned (OpenSpec.ofChange fnForecastsWrong)

/-- 'laws.FnExactConsumeForecast': WHATEVER THE INPUT: true; the input reads as it did. -/
def fnExactConsumeForecastSpec : ChangeSpec := { name := "fnExactConsumeForecast", fn := fun _ => fun
  | [d1, d2, d3, d4] => { results := [.lit (.bool true)], args := [d1, d2, d3, d4] }
  | _ => none }
def fnExactConsumeForecastRow : OpenClaim := { program := "ythifncefbpmdiaa", sum := "7b3f968c074599a8dd159aa229203629e9fb95048b1b04c626595957dfbc921c", func := "loop.example/g03407/laws.FnExactConsumeForecast", spec := "fnExactConsumeForecast", unfollowed := true, recurses := true, apart := false }
def FnExactConsumeForecastSaid : Prop := fnExactConsumeForecastRow.holds Try.pinned (OpenSpec.ofChange fnExactConsumeForecastSpec)

/-- ITS FALSE NEIGHBOUR: 'it returns false'. Refute it at one input. -/
def fnExactConsumeForecastWrong : ChangeSpec := { name := "fnExactConsumeForecast", fn := fun _ => fun
  | [d1, d2, d3, d4] => { results := [.lit (.bool false)], args := [d1, d2, d3, d4] }
  | _ => none }
def FnExactConsumeForecastWrongFalsely : Prop := fnExactConsumeForecastRow.holds Try.pinned (OpenSpec.ofChange fnExactConsumeForecastWrong)

/-- 'laws.FnExactLevelsOf': WHATEVER THE INPUT: true; the input reads as it did. -/
def fnExactLevelsOfSpec : ChangeSpec := { name := "fnExactLevelsOf", fn := fun _ => fun
  | [d1, d2] => { results := [.lit (.bool true)], args := [d1, d2] }
  | _ => none }
def fnExactLevelsOfRow : OpenClaim := { program := "ythifncefbpmdiaa", sum := "7b3f968c074599a8dd159aa229203629e9fb95048b1b04c626595957dfbc921c", func := "loop.example/g03407/laws.FnExactLevelsOf", spec := "fnExactLevelsOf", apart := false }
def FnExactLevelsOfSaid : Prop := fnExactLevelsOfRow.holds Try.pinned (OpenSpec.ofChange fnExactLevelsOfSpec)

/-- ITS FALSE NEIGHBOUR: 'it returns false'. Refute it at one input. -/
def fnExactLevelsOfWrong : ChangeSpec := { name := "fnExactLevelsOf", fn := fun _ => fun
  | [d1, d2] => { results := [.lit (.bool false)], args := [d1, d2] }
  | _ => none }
def FnExactLevelsOfWrongFalsely : Prop := fnExactLevelsOfRow.holds Try.pinned (OpenSpec.ofChange fnExactLevelsOfWrong)

/-- 'laws.FnExactParentsOf': WHATEVER THE INPUT: true; the input reads as it did. -/
def fnExactParentsOfSpec : ChangeSpec := { name := "fnExactParentsOf", fn := fun _ => fun
  | [d1, d2, d3, d4, d5] => { results := [.lit (.bool true)], args := [d1, d2, d3, d4, d5] }
  | _ => none }
def fnExactParentsOfRow : OpenClaim := { program := "ythifncefbpmdiaa", sum := "7b3f968c074599a8dd159aa229203629e9fb95048b1b04c626595957dfbc921c", func := "loop.example/g03407/laws.FnExactParentsOf", spec := "fnExactParentsOf", apart := false }
def FnExactParentsOfSaid : Prop := fnExactParentsOfRow.holds Try.pinned (OpenSpec.ofChange fnExactParentsOfSpec)

/-- ITS FALSE NEIGHBOUR: 'it returns false'. Refute it at one input. -/
def fnExactParentsOfWrong : ChangeSpec := { name := "fnExactParentsOf", fn := fun _ => fun
  | [d1, d2, d3, d4, d5] => { results := [.lit (.bool false)], args := [d1, d2, d3, d4, d5] }
  | _ => none }
def FnExactParentsOfWrongFalsely : Prop := fnExactParentsOfRow.holds Try.pinned (OpenSpec.ofChange fnExactParentsOfWrong)

/-- 'laws.FnExactPartsOf': WHATEVER THE INPUT: true; the input reads as it did. -/
def fnExactPartsOfSpec : ChangeSpec := { name := "fnExactPartsOf", fn := fun _ => fun
  | [d1, d2, d3, d4, d5, d6] => { results := [.lit (.bool true)], args := [d1, d2, d3, d4, d5, d6] }
  | _ => none }
def fnExactPartsOfRow : OpenClaim := { program := "ythifncefbpmdiaa", sum := "7b3f968c074599a8dd159aa229203629e9fb95048b1b04c626595957dfbc921c", func := "loop.example/g03407/laws.FnExactPartsOf", spec := "fnExactPartsOf", unfollowed := true, recurses := true, apart := false }
def FnExactPartsOfSaid : Prop := fnExactPartsOfRow.holds Try.pinned (OpenSpec.ofChange fnExactPartsOfSpec)

/-- ITS FALSE NEIGHBOUR: 'it returns false'. Refute it at one input. -/
def fnExactPartsOfWrong : ChangeSpec := { name := "fnExactPartsOf", fn := fun _ => fun
  | [d1, d2, d3, d4, d5, d6] => { results := [.lit (.bool false)], args := [d1, d2, d3, d4, d5, d6] }
  | _ => none }
def FnExactPartsOfWrongFalsely : Prop := fnExactPartsOfRow.holds Try.pinned (OpenSpec.ofChange fnExactPartsOfWrong)

/-- 'laws.FnExactExplosion': WHATEVER THE INPUT: true; the input reads as it did. -/
def fnExactExplosionSpec : ChangeSpec := { name := "fnExactExplosion", fn := fun _ => fun
  | [d1, d2, d3, d4, d5, d6] => { results := [.lit (.bool true)], args := [d1, d2, d3, d4, d5, d6] }
  | _ => none }
def fnExactExplosionRow : OpenClaim := { program := "ythifncefbpmdiaa", sum := "7b3f968c074599a8dd159aa229203629e9fb95048b1b04c626595957dfbc921c", func := "loop.example/g03407/laws.FnExactExplosion", spec := "fnExactExplosion", unfollowed := true, recurses := true, apart := false }
def FnExactExplosionSaid : Prop := fnExactExplosionRow.holds Try.pinned (OpenSpec.ofChange fnExactExplosionSpec)

/-- ITS FALSE NEIGHBOUR: 'it returns false'. Refute it at one input. -/
def fnExactExplosionWrong : ChangeSpec := { name := "fnExactExplosion", fn := fun _ => fun
  | [d1, d2, d3, d4, d5, d6] => { results := [.lit (.bool false)], args := [d1, d2, d3, d4, d5, d6] }
  | _ => none }
def FnExactExplosionWrongFalsely : Prop := fnExactExplosionRow.holds Try.pinned (OpenSpec.ofChange fnExactExplosionWrong)

/-- 'laws.FnExactWaysTo': WHATEVER THE INPUT: true; the input reads as it did. -/
def fnExactWaysToSpec : ChangeSpec := { name := "fnExactWaysTo", fn := fun _ => fun
  | [d1, d2, d3, d4, d5, d6] => { results := [.lit (.bool true)], args := [d1, d2, d3, d4, d5, d6] }
  | _ => none }
def fnExactWaysToRow : OpenClaim := { program := "ythifncefbpmdiaa", sum := "7b3f968c074599a8dd159aa229203629e9fb95048b1b04c626595957dfbc921c", func := "loop.example/g03407/laws.FnExactWaysTo", spec := "fnExactWaysTo", recurses := true, apart := false }
def FnExactWaysToSaid : Prop := fnExactWaysToRow.holds Try.pinned (OpenSpec.ofChange fnExactWaysToSpec)

/-- ITS FALSE NEIGHBOUR: 'it returns false'. Refute it at one input. -/
def fnExactWaysToWrong : ChangeSpec := { name := "fnExactWaysTo", fn := fun _ => fun
  | [d1, d2, d3, d4, d5, d6] => { results := [.lit (.bool false)], args := [d1, d2, d3, d4, d5, d6] }
  | _ => none }
def FnExactWaysToWrongFalsely : Prop := fnExactWaysToRow.holds Try.pinned (OpenSpec.ofChange fnExactWaysToWrong)

/-- 'laws.FnExactCompleteChoice': WHATEVER THE INPUT: true; the input reads as it did. -/
def fnExactCompleteChoiceSpec : ChangeSpec := { name := "fnExactCompleteChoice", fn := fun _ => fun
  | [d1, d2] => { results := [.lit (.bool true)], args := [d1, d2] }
  | _ => none }
def fnExactCompleteChoiceRow : OpenClaim := { program := "ythifncefbpmdiaa", sum := "7b3f968c074599a8dd159aa229203629e9fb95048b1b04c626595957dfbc921c", func := "loop.example/g03407/laws.FnExactCompleteChoice", spec := "fnExactCompleteChoice", apart := false }
def FnExactCompleteChoiceSaid : Prop := fnExactCompleteChoiceRow.holds Try.pinned (OpenSpec.ofChange fnExactCompleteChoiceSpec)

/-- ITS FALSE NEIGHBOUR: 'it returns false'. Refute it at one input. -/
def fnExactCompleteChoiceWrong : ChangeSpec := { name := "fnExactCompleteChoice", fn := fun _ => fun
  | [d1, d2] => { results := [.lit (.bool false)], args := [d1, d2] }
  | _ => none }
def FnExactCompleteChoiceWrongFalsely : Prop := fnExactCompleteChoiceRow.holds Try.pinned (OpenSpec.ofChange fnExactCompleteChoiceWrong)

/-- 'laws.FnExactOpenValues': WHATEVER THE INPUT: true; the input reads as it did. -/
def fnExactOpenValuesSpec : ChangeSpec := { name := "fnExactOpenValues", fn := fun _ => fun
  | [d1, d2, d3] => { results := [.lit (.bool true)], args := [d1, d2, d3] }
  | _ => none }
def fnExactOpenValuesRow : OpenClaim := { program := "ythifncefbpmdiaa", sum := "7b3f968c074599a8dd159aa229203629e9fb95048b1b04c626595957dfbc921c", func := "loop.example/g03407/laws.FnExactOpenValues", spec := "fnExactOpenValues", apart := false }
def FnExactOpenValuesSaid : Prop := fnExactOpenValuesRow.holds Try.pinned (OpenSpec.ofChange fnExactOpenValuesSpec)

/-- ITS FALSE NEIGHBOUR: 'it returns false'. Refute it at one input. -/
def fnExactOpenValuesWrong : ChangeSpec := { name := "fnExactOpenValues", fn := fun _ => fun
  | [d1, d2, d3] => { results := [.lit (.bool false)], args := [d1, d2, d3] }
  | _ => none }
def FnExactOpenValuesWrongFalsely : Prop := fnExactOpenValuesRow.holds Try.pinned (OpenSpec.ofChange fnExactOpenValuesWrong)

/-- 'laws.FnExactConflictOf': WHATEVER THE INPUT: true; the input reads as it did. -/
def fnExactConflictOfSpec : ChangeSpec := { name := "fnExactConflictOf", fn := fun _ => fun
  | [d1, d2] => { results := [.lit (.bool true)], args := [d1, d2] }
  | _ => none }
def fnExactConflictOfRow : OpenClaim := { program := "ythifncefbpmdiaa", sum := "7b3f968c074599a8dd159aa229203629e9fb95048b1b04c626595957dfbc921c", func := "loop.example/g03407/laws.FnExactConflictOf", spec := "fnExactConflictOf", apart := false }
def FnExactConflictOfSaid : Prop := fnExactConflictOfRow.holds Try.pinned (OpenSpec.ofChange fnExactConflictOfSpec)

/-- ITS FALSE NEIGHBOUR: 'it returns false'. Refute it at one input. -/
def fnExactConflictOfWrong : ChangeSpec := { name := "fnExactConflictOf", fn := fun _ => fun
  | [d1, d2] => { results := [.lit (.bool false)], args := [d1, d2] }
  | _ => none }
def FnExactConflictOfWrongFalsely : Prop := fnExactConflictOfRow.holds Try.pinned (OpenSpec.ofChange fnExactConflictOfWrong)

/- THE SECOND FORM. 'bulk': how many values and letters a reading holds, each counted each time it is reached (what is shared counts as often as it is met; a slice's spare places count too). A statement '..UptoSaid' is the law's where the arguments, and the package variables that the reading takes, are together of bulk at most 1048576: NARROWER than '..Said'. Prove '..Said' where nothing that the law and all that it calls make is longer than what came in: it says more and counts as full. Else prove '..UptoSaid'. A law counts once. -/
mutual
def uptoBulk {H : Type} : DataW H → Nat
  | .lit (.string bytes) => bytes.length + 1
  | .lit _ => 1
  | .nil => 1
  | .ptr d => uptoBulk d + 1
  | .slice elems spare => uptoBulkAll elems + uptoBulkAll spare + 1
  | .agg parts => uptoBulkAll parts + 1
  | .iface _ d => uptoBulk d + 1
  | .map entries => uptoBulkEntries entries + 1
  | .held _ => 1
def uptoBulkAll {H : Type} : List (DataW H) → Nat
  | [] => 0
  | d :: r => uptoBulk d + uptoBulkAll r
def uptoBulkEntries {H : Type} : List (Lit × DataW H) → Nat
  | [] => 0
  | x :: r => uptoBulkEntry x + uptoBulkEntries r
def uptoBulkEntry {H : Type} : Lit × DataW H → Nat
  | (.string bytes, d) => bytes.length + uptoBulk d + 1
  | (_, d) => uptoBulk d + 1
 end
def uptoSmall : (H : Type) → List (DataW H) → Bool := fun _ ds => decide (uptoBulkAll ds ≤ 1048576)
def OpenSpec.upto (s : _root_.Go.ChangeSpec) : _root_.Go.OpenSpec := { _root_.Go.OpenSpec.ofChange s with cond := some uptoSmall }

/-- 'laws.FnSorted', WHERE WHAT IT READS IS OF BULK AT MOST 1048576: true; the input reads as it did. -/
def fnSortedUptoRow : OpenClaim := { program := "ythifncefbpmdiaa", sum := "7b3f968c074599a8dd159aa229203629e9fb95048b1b04c626595957dfbc921c", func := "loop.example/g03407/laws.FnSorted", spec := "fnSorted", unfollowed := true, recurses := true, apart := false, narrowed := true }
def FnSortedUptoSaid : Prop := fnSortedUptoRow.holds Try.pinned (OpenSpec.upto fnSortedSpec)

/-- 'laws.FnExactSortDemands', WHERE WHAT IT READS IS OF BULK AT MOST 1048576: true; the input reads as it did. -/
def fnExactSortDemandsUptoRow : OpenClaim := { program := "ythifncefbpmdiaa", sum := "7b3f968c074599a8dd159aa229203629e9fb95048b1b04c626595957dfbc921c", func := "loop.example/g03407/laws.FnExactSortDemands", spec := "fnExactSortDemands", unfollowed := true, recurses := true, apart := false, narrowed := true }
def FnExactSortDemandsUptoSaid : Prop := fnExactSortDemandsUptoRow.holds Try.pinned (OpenSpec.upto fnExactSortDemandsSpec)

/-- 'laws.FnForecasts', WHERE WHAT IT READS IS OF BULK AT MOST 1048576: true; the input reads as it did. -/
def fnForecastsUptoRow : OpenClaim := { program := "ythifncefbpmdiaa", sum := "7b3f968c074599a8dd159aa229203629e9fb95048b1b04c626595957dfbc921c", func := "loop.example/g03407/laws.FnForecasts", spec := "fnForecasts", unfollowed := true, recurses := true, apart := false, narrowed := true }
def FnForecastsUptoSaid : Prop := fnForecastsUptoRow.holds Try.pinned (OpenSpec.upto fnForecastsSpec)

/-- 'laws.FnExactConsumeForecast', WHERE WHAT IT READS IS OF BULK AT MOST 1048576: true; the input reads as it did. -/
def fnExactConsumeForecastUptoRow : OpenClaim := { program := "ythifncefbpmdiaa", sum := "7b3f968c074599a8dd159aa229203629e9fb95048b1b04c626595957dfbc921c", func := "loop.example/g03407/laws.FnExactConsumeForecast", spec := "fnExactConsumeForecast", unfollowed := true, recurses := true, apart := false, narrowed := true }
def FnExactConsumeForecastUptoSaid : Prop := fnExactConsumeForecastUptoRow.holds Try.pinned (OpenSpec.upto fnExactConsumeForecastSpec)

/-- 'laws.FnExactLevelsOf', WHERE WHAT IT READS IS OF BULK AT MOST 1048576: true; the input reads as it did. -/
def fnExactLevelsOfUptoRow : OpenClaim := { program := "ythifncefbpmdiaa", sum := "7b3f968c074599a8dd159aa229203629e9fb95048b1b04c626595957dfbc921c", func := "loop.example/g03407/laws.FnExactLevelsOf", spec := "fnExactLevelsOf", apart := false, narrowed := true }
def FnExactLevelsOfUptoSaid : Prop := fnExactLevelsOfUptoRow.holds Try.pinned (OpenSpec.upto fnExactLevelsOfSpec)

/-- 'laws.FnExactParentsOf', WHERE WHAT IT READS IS OF BULK AT MOST 1048576: true; the input reads as it did. -/
def fnExactParentsOfUptoRow : OpenClaim := { program := "ythifncefbpmdiaa", sum := "7b3f968c074599a8dd159aa229203629e9fb95048b1b04c626595957dfbc921c", func := "loop.example/g03407/laws.FnExactParentsOf", spec := "fnExactParentsOf", apart := false, narrowed := true }
def FnExactParentsOfUptoSaid : Prop := fnExactParentsOfUptoRow.holds Try.pinned (OpenSpec.upto fnExactParentsOfSpec)

/-- 'laws.FnExactPartsOf', WHERE WHAT IT READS IS OF BULK AT MOST 1048576: true; the input reads as it did. -/
def fnExactPartsOfUptoRow : OpenClaim := { program := "ythifncefbpmdiaa", sum := "7b3f968c074599a8dd159aa229203629e9fb95048b1b04c626595957dfbc921c", func := "loop.example/g03407/laws.FnExactPartsOf", spec := "fnExactPartsOf", unfollowed := true, recurses := true, apart := false, narrowed := true }
def FnExactPartsOfUptoSaid : Prop := fnExactPartsOfUptoRow.holds Try.pinned (OpenSpec.upto fnExactPartsOfSpec)

/-- 'laws.FnExactExplosion', WHERE WHAT IT READS IS OF BULK AT MOST 1048576: true; the input reads as it did. -/
def fnExactExplosionUptoRow : OpenClaim := { program := "ythifncefbpmdiaa", sum := "7b3f968c074599a8dd159aa229203629e9fb95048b1b04c626595957dfbc921c", func := "loop.example/g03407/laws.FnExactExplosion", spec := "fnExactExplosion", unfollowed := true, recurses := true, apart := false, narrowed := true }
def FnExactExplosionUptoSaid : Prop := fnExactExplosionUptoRow.holds Try.pinned (OpenSpec.upto fnExactExplosionSpec)

/-- 'laws.FnExactWaysTo', WHERE WHAT IT READS IS OF BULK AT MOST 1048576: true; the input reads as it did. -/
def fnExactWaysToUptoRow : OpenClaim := { program := "ythifncefbpmdiaa", sum := "7b3f968c074599a8dd159aa229203629e9fb95048b1b04c626595957dfbc921c", func := "loop.example/g03407/laws.FnExactWaysTo", spec := "fnExactWaysTo", recurses := true, apart := false, narrowed := true }
def FnExactWaysToUptoSaid : Prop := fnExactWaysToUptoRow.holds Try.pinned (OpenSpec.upto fnExactWaysToSpec)

/-- 'laws.FnExactCompleteChoice', WHERE WHAT IT READS IS OF BULK AT MOST 1048576: true; the input reads as it did. -/
def fnExactCompleteChoiceUptoRow : OpenClaim := { program := "ythifncefbpmdiaa", sum := "7b3f968c074599a8dd159aa229203629e9fb95048b1b04c626595957dfbc921c", func := "loop.example/g03407/laws.FnExactCompleteChoice", spec := "fnExactCompleteChoice", apart := false, narrowed := true }
def FnExactCompleteChoiceUptoSaid : Prop := fnExactCompleteChoiceUptoRow.holds Try.pinned (OpenSpec.upto fnExactCompleteChoiceSpec)

/-- 'laws.FnExactOpenValues', WHERE WHAT IT READS IS OF BULK AT MOST 1048576: true; the input reads as it did. -/
def fnExactOpenValuesUptoRow : OpenClaim := { program := "ythifncefbpmdiaa", sum := "7b3f968c074599a8dd159aa229203629e9fb95048b1b04c626595957dfbc921c", func := "loop.example/g03407/laws.FnExactOpenValues", spec := "fnExactOpenValues", apart := false, narrowed := true }
def FnExactOpenValuesUptoSaid : Prop := fnExactOpenValuesUptoRow.holds Try.pinned (OpenSpec.upto fnExactOpenValuesSpec)

/-- 'laws.FnExactConflictOf', WHERE WHAT IT READS IS OF BULK AT MOST 1048576: true; the input reads as it did. -/
def fnExactConflictOfUptoRow : OpenClaim := { program := "ythifncefbpmdiaa", sum := "7b3f968c074599a8dd159aa229203629e9fb95048b1b04c626595957dfbc921c", func := "loop.example/g03407/laws.FnExactConflictOf", spec := "fnExactConflictOf", apart := false, narrowed := true }
def FnExactConflictOfUptoSaid : Prop := fnExactConflictOfUptoRow.holds Try.pinned (OpenSpec.upto fnExactConflictOfSpec)

end Rows
end Go.Proofs.Ythifncefbpmdiaa
