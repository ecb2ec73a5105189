/-
  No cell of these rows narrows 'for every input' (looked for: loops, veiled, ifaces, maps, wideKeys, modest, calm, conditions, laid).
  DERIVED. THE GIVEN ROWS OF THIS SEAT. 12 by the template 'for every input the law returns true; each argument reads behind the call as it read before'; 0 by the template 'total and deterministic' (their statements: YtpobkpenfdibkaaTotals.lean).
  GIVEN WITH THE SEED: the statements are not yours to turn. If you find one false, say at which input.
  Laid BY PROGRAM, IN A SANDBOX (cutbox-rows.mjs): the forced cells as the released guide's own fill.sh prints them over the translation cc3be1887f8c0471… (all of the seat's roots in one cut). By AI agents, Wed Nov 11 2026. No macro, syntax, notation, axiom, sorry.
-/
import Derived.Test.YtpobkpenfdibkaaChecked
import GoSem.Claim
import GoSem.ClaimJoined
import GoSem.ClaimMapViews
import Derived.JoinedTies
import Derived.KernelRfl
namespace Go.Proofs.Ytpobkpenfdibkaa
/- THE CELL 'sum', in the pinned program and in every row, IS THE sha256 OF THE DUMP (.gsa) THAT YtpobkpenfdibkaaProg.lean LOADS. Nothing in Lean hashes anything: it is a label: what it is worth is what the hold of that sum in a sandbox is worth. -/
noncomputable def Try.pinned : Pinned := { name := "ytpobkpenfdibkaa", sum := "cc3be1887f8c04711e24d022eb5112bd3611572846dffb9d8329d41f662f563d", checked := Try.checked }
namespace Rows
def none {H : Type} : Left H := { results := [], args := [] }

/-- 'laws.FnMinutes': WHATEVER THE INPUT: true; the input reads as it did. -/
def fnMinutesSpec : ChangeSpec := { name := "fnMinutes", fn := fun _ => fun
  | [d] => { results := [.lit (.bool true)], args := [d] }
  | _ => none }
def fnMinutesRow : OpenClaim := { program := "ytpobkpenfdibkaa", sum := "cc3be1887f8c04711e24d022eb5112bd3611572846dffb9d8329d41f662f563d", func := "loop.example/g03407/laws.FnMinutes", spec := "fnMinutes", apart := false }
def FnMinutesSaid : Prop := fnMinutesRow.holds Try.pinned (OpenSpec.ofChange fnMinutesSpec)

/-- ITS FALSE NEIGHBOUR: 'it returns false'. Refute it at one input. -/
def fnMinutesWrong : ChangeSpec := { name := "fnMinutes", fn := fun _ => fun
  | [d] => { results := [.lit (.bool false)], args := [d] }
  | _ => none }
def FnMinutesWrongFalsely : Prop := fnMinutesRow.holds Try.pinned (OpenSpec.ofChange fnMinutesWrong)

/-- 'laws.FnFlow': WHATEVER THE INPUT: true; the input reads as it did. -/
def fnFlowSpec : ChangeSpec := { name := "fnFlow", fn := fun _ => fun
  | [d] => { results := [.lit (.bool true)], args := [d] }
  | _ => none }
def fnFlowRow : OpenClaim := { program := "ytpobkpenfdibkaa", sum := "cc3be1887f8c04711e24d022eb5112bd3611572846dffb9d8329d41f662f563d", func := "loop.example/g03407/laws.FnFlow", spec := "fnFlow", apart := false }
def FnFlowSaid : Prop := fnFlowRow.holds Try.pinned (OpenSpec.ofChange fnFlowSpec)

/-- ITS FALSE NEIGHBOUR: 'it returns false'. Refute it at one input. -/
def fnFlowWrong : ChangeSpec := { name := "fnFlow", fn := fun _ => fun
  | [d] => { results := [.lit (.bool false)], args := [d] }
  | _ => none }
def FnFlowWrongFalsely : Prop := fnFlowRow.holds Try.pinned (OpenSpec.ofChange fnFlowWrong)

/-- 'laws.FnScrap': WHATEVER THE INPUT: true; the input reads as it did. -/
def fnScrapSpec : ChangeSpec := { name := "fnScrap", fn := fun _ => fun
  | [d] => { results := [.lit (.bool true)], args := [d] }
  | _ => none }
def fnScrapRow : OpenClaim := { program := "ytpobkpenfdibkaa", sum := "cc3be1887f8c04711e24d022eb5112bd3611572846dffb9d8329d41f662f563d", func := "loop.example/g03407/laws.FnScrap", spec := "fnScrap", apart := false }
def FnScrapSaid : Prop := fnScrapRow.holds Try.pinned (OpenSpec.ofChange fnScrapSpec)

/-- ITS FALSE NEIGHBOUR: 'it returns false'. Refute it at one input. -/
def fnScrapWrong : ChangeSpec := { name := "fnScrap", fn := fun _ => fun
  | [d] => { results := [.lit (.bool false)], args := [d] }
  | _ => none }
def FnScrapWrongFalsely : Prop := fnScrapRow.holds Try.pinned (OpenSpec.ofChange fnScrapWrong)

/-- 'laws.FnExactDemandUpTo': WHATEVER THE INPUT: true; the input reads as it did. -/
def fnExactDemandUpToSpec : ChangeSpec := { name := "fnExactDemandUpTo", fn := fun _ => fun
  | [d1, d2, d3] => { results := [.lit (.bool true)], args := [d1, d2, d3] }
  | _ => none }
def fnExactDemandUpToRow : OpenClaim := { program := "ytpobkpenfdibkaa", sum := "cc3be1887f8c04711e24d022eb5112bd3611572846dffb9d8329d41f662f563d", func := "loop.example/g03407/laws.FnExactDemandUpTo", spec := "fnExactDemandUpTo", apart := false }
def FnExactDemandUpToSaid : Prop := fnExactDemandUpToRow.holds Try.pinned (OpenSpec.ofChange fnExactDemandUpToSpec)

/-- ITS FALSE NEIGHBOUR: 'it returns false'. Refute it at one input. -/
def fnExactDemandUpToWrong : ChangeSpec := { name := "fnExactDemandUpTo", fn := fun _ => fun
  | [d1, d2, d3] => { results := [.lit (.bool false)], args := [d1, d2, d3] }
  | _ => none }
def FnExactDemandUpToWrongFalsely : Prop := fnExactDemandUpToRow.holds Try.pinned (OpenSpec.ofChange fnExactDemandUpToWrong)

/-- 'laws.FnExactIsCatalog': WHATEVER THE INPUT: true; the input reads as it did. -/
def fnExactIsCatalogSpec : ChangeSpec := { name := "fnExactIsCatalog", fn := fun _ => fun
  | [d] => { results := [.lit (.bool true)], args := [d] }
  | _ => none }
def fnExactIsCatalogRow : OpenClaim := { program := "ytpobkpenfdibkaa", sum := "cc3be1887f8c04711e24d022eb5112bd3611572846dffb9d8329d41f662f563d", func := "loop.example/g03407/laws.FnExactIsCatalog", spec := "fnExactIsCatalog", apart := false }
def FnExactIsCatalogSaid : Prop := fnExactIsCatalogRow.holds Try.pinned (OpenSpec.ofChange fnExactIsCatalogSpec)

/-- ITS FALSE NEIGHBOUR: 'it returns false'. Refute it at one input. -/
def fnExactIsCatalogWrong : ChangeSpec := { name := "fnExactIsCatalog", fn := fun _ => fun
  | [d] => { results := [.lit (.bool false)], args := [d] }
  | _ => none }
def FnExactIsCatalogWrongFalsely : Prop := fnExactIsCatalogRow.holds Try.pinned (OpenSpec.ofChange fnExactIsCatalogWrong)

/-- 'laws.FnExactFlowTime': WHATEVER THE INPUT: true; the input reads as it did. -/
def fnExactFlowTimeSpec : ChangeSpec := { name := "fnExactFlowTime", fn := fun _ => fun
  | [d1, d2] => { results := [.lit (.bool true)], args := [d1, d2] }
  | _ => none }
def fnExactFlowTimeRow : OpenClaim := { program := "ytpobkpenfdibkaa", sum := "cc3be1887f8c04711e24d022eb5112bd3611572846dffb9d8329d41f662f563d", func := "loop.example/g03407/laws.FnExactFlowTime", spec := "fnExactFlowTime", apart := false }
def FnExactFlowTimeSaid : Prop := fnExactFlowTimeRow.holds Try.pinned (OpenSpec.ofChange fnExactFlowTimeSpec)

/-- ITS FALSE NEIGHBOUR: 'it returns false'. Refute it at one input. -/
def fnExactFlowTimeWrong : ChangeSpec := { name := "fnExactFlowTime", fn := fun _ => fun
  | [d1, d2] => { results := [.lit (.bool false)], args := [d1, d2] }
  | _ => none }
def FnExactFlowTimeWrongFalsely : Prop := fnExactFlowTimeRow.holds Try.pinned (OpenSpec.ofChange fnExactFlowTimeWrong)

/-- 'laws.FnExactRoutingTime': WHATEVER THE INPUT: true; the input reads as it did. -/
def fnExactRoutingTimeSpec : ChangeSpec := { name := "fnExactRoutingTime", fn := fun _ => fun
  | [d1, d2] => { results := [.lit (.bool true)], args := [d1, d2] }
  | _ => none }
def fnExactRoutingTimeRow : OpenClaim := { program := "ytpobkpenfdibkaa", sum := "cc3be1887f8c04711e24d022eb5112bd3611572846dffb9d8329d41f662f563d", func := "loop.example/g03407/laws.FnExactRoutingTime", spec := "fnExactRoutingTime", apart := false }
def FnExactRoutingTimeSaid : Prop := fnExactRoutingTimeRow.holds Try.pinned (OpenSpec.ofChange fnExactRoutingTimeSpec)

/-- ITS FALSE NEIGHBOUR: 'it returns false'. Refute it at one input. -/
def fnExactRoutingTimeWrong : ChangeSpec := { name := "fnExactRoutingTime", fn := fun _ => fun
  | [d1, d2] => { results := [.lit (.bool false)], args := [d1, d2] }
  | _ => none }
def FnExactRoutingTimeWrongFalsely : Prop := fnExactRoutingTimeRow.holds Try.pinned (OpenSpec.ofChange fnExactRoutingTimeWrong)

/-- 'laws.FnExactSlowestStep': WHATEVER THE INPUT: true; the input reads as it did. -/
def fnExactSlowestStepSpec : ChangeSpec := { name := "fnExactSlowestStep", fn := fun _ => fun
  | [d1, d2] => { results := [.lit (.bool true)], args := [d1, d2] }
  | _ => none }
def fnExactSlowestStepRow : OpenClaim := { program := "ytpobkpenfdibkaa", sum := "cc3be1887f8c04711e24d022eb5112bd3611572846dffb9d8329d41f662f563d", func := "loop.example/g03407/laws.FnExactSlowestStep", spec := "fnExactSlowestStep", apart := false }
def FnExactSlowestStepSaid : Prop := fnExactSlowestStepRow.holds Try.pinned (OpenSpec.ofChange fnExactSlowestStepSpec)

/-- ITS FALSE NEIGHBOUR: 'it returns false'. Refute it at one input. -/
def fnExactSlowestStepWrong : ChangeSpec := { name := "fnExactSlowestStep", fn := fun _ => fun
  | [d1, d2] => { results := [.lit (.bool false)], args := [d1, d2] }
  | _ => none }
def FnExactSlowestStepWrongFalsely : Prop := fnExactSlowestStepRow.holds Try.pinned (OpenSpec.ofChange fnExactSlowestStepWrong)

/-- 'laws.FnExactAreRoutings': WHATEVER THE INPUT: true; the input reads as it did. -/
def fnExactAreRoutingsSpec : ChangeSpec := { name := "fnExactAreRoutings", fn := fun _ => fun
  | [d] => { results := [.lit (.bool true)], args := [d] }
  | _ => none }
def fnExactAreRoutingsRow : OpenClaim := { program := "ytpobkpenfdibkaa", sum := "cc3be1887f8c04711e24d022eb5112bd3611572846dffb9d8329d41f662f563d", func := "loop.example/g03407/laws.FnExactAreRoutings", spec := "fnExactAreRoutings", apart := false }
def FnExactAreRoutingsSaid : Prop := fnExactAreRoutingsRow.holds Try.pinned (OpenSpec.ofChange fnExactAreRoutingsSpec)

/-- ITS FALSE NEIGHBOUR: 'it returns false'. Refute it at one input. -/
def fnExactAreRoutingsWrong : ChangeSpec := { name := "fnExactAreRoutings", fn := fun _ => fun
  | [d] => { results := [.lit (.bool false)], args := [d] }
  | _ => none }
def FnExactAreRoutingsWrongFalsely : Prop := fnExactAreRoutingsRow.holds Try.pinned (OpenSpec.ofChange fnExactAreRoutingsWrong)

/-- 'laws.FnExactIsChange': WHATEVER THE INPUT: true; the input reads as it did. -/
def fnExactIsChangeSpec : ChangeSpec := { name := "fnExactIsChange", fn := fun _ => fun
  | [d1, d2] => { results := [.lit (.bool true)], args := [d1, d2] }
  | _ => none }
def fnExactIsChangeRow : OpenClaim := { program := "ytpobkpenfdibkaa", sum := "cc3be1887f8c04711e24d022eb5112bd3611572846dffb9d8329d41f662f563d", func := "loop.example/g03407/laws.FnExactIsChange", spec := "fnExactIsChange", apart := false }
def FnExactIsChangeSaid : Prop := fnExactIsChangeRow.holds Try.pinned (OpenSpec.ofChange fnExactIsChangeSpec)

/-- ITS FALSE NEIGHBOUR: 'it returns false'. Refute it at one input. -/
def fnExactIsChangeWrong : ChangeSpec := { name := "fnExactIsChange", fn := fun _ => fun
  | [d1, d2] => { results := [.lit (.bool false)], args := [d1, d2] }
  | _ => none }
def FnExactIsChangeWrongFalsely : Prop := fnExactIsChangeRow.holds Try.pinned (OpenSpec.ofChange fnExactIsChangeWrong)

/-- 'laws.FnExactIsBills': WHATEVER THE INPUT: true; the input reads as it did. -/
def fnExactIsBillsSpec : ChangeSpec := { name := "fnExactIsBills", fn := fun _ => fun
  | [d1, d2] => { results := [.lit (.bool true)], args := [d1, d2] }
  | _ => none }
def fnExactIsBillsRow : OpenClaim := { program := "ytpobkpenfdibkaa", sum := "cc3be1887f8c04711e24d022eb5112bd3611572846dffb9d8329d41f662f563d", func := "loop.example/g03407/laws.FnExactIsBills", spec := "fnExactIsBills", apart := false }
def FnExactIsBillsSaid : Prop := fnExactIsBillsRow.holds Try.pinned (OpenSpec.ofChange fnExactIsBillsSpec)

/-- ITS FALSE NEIGHBOUR: 'it returns false'. Refute it at one input. -/
def fnExactIsBillsWrong : ChangeSpec := { name := "fnExactIsBills", fn := fun _ => fun
  | [d1, d2] => { results := [.lit (.bool false)], args := [d1, d2] }
  | _ => none }
def FnExactIsBillsWrongFalsely : Prop := fnExactIsBillsRow.holds Try.pinned (OpenSpec.ofChange fnExactIsBillsWrong)

/-- 'laws.FnExactIsPartial': WHATEVER THE INPUT: true; the input reads as it did. -/
def fnExactIsPartialSpec : ChangeSpec := { name := "fnExactIsPartial", fn := fun _ => fun
  | [d1, d2] => { results := [.lit (.bool true)], args := [d1, d2] }
  | _ => none }
def fnExactIsPartialRow : OpenClaim := { program := "ytpobkpenfdibkaa", sum := "cc3be1887f8c04711e24d022eb5112bd3611572846dffb9d8329d41f662f563d", func := "loop.example/g03407/laws.FnExactIsPartial", spec := "fnExactIsPartial", apart := false }
def FnExactIsPartialSaid : Prop := fnExactIsPartialRow.holds Try.pinned (OpenSpec.ofChange fnExactIsPartialSpec)

/-- ITS FALSE NEIGHBOUR: 'it returns false'. Refute it at one input. -/
def fnExactIsPartialWrong : ChangeSpec := { name := "fnExactIsPartial", fn := fun _ => fun
  | [d1, d2] => { results := [.lit (.bool false)], args := [d1, d2] }
  | _ => none }
def FnExactIsPartialWrongFalsely : Prop := fnExactIsPartialRow.holds Try.pinned (OpenSpec.ofChange fnExactIsPartialWrong)

/- THE SECOND FORM. 'bulk': how many values and letters a reading holds, each counted each time it is reached (what is shared counts as often as it is met; a slice's spare places count too). A statement '..UptoSaid' is the law's where the arguments, and the package variables that the reading takes, are together of bulk at most 1048576: NARROWER than '..Said'. Prove '..Said' where nothing that the law and all that it calls make is longer than what came in: it says more and counts as full. Else prove '..UptoSaid'. A law counts once. -/
mutual
def uptoBulk {H : Type} : DataW H → Nat
  | .lit (.string bytes) => bytes.length + 1
  | .lit _ => 1
  | .nil => 1
  | .ptr d => uptoBulk d + 1
  | .slice elems spare => uptoBulkAll elems + uptoBulkAll spare + 1
  | .agg parts => uptoBulkAll parts + 1
  | .iface _ d => uptoBulk d + 1
  | .map entries => uptoBulkEntries entries + 1
  | .held _ => 1
def uptoBulkAll {H : Type} : List (DataW H) → Nat
  | [] => 0
  | d :: r => uptoBulk d + uptoBulkAll r
def uptoBulkEntries {H : Type} : List (Lit × DataW H) → Nat
  | [] => 0
  | x :: r => uptoBulkEntry x + uptoBulkEntries r
def uptoBulkEntry {H : Type} : Lit × DataW H → Nat
  | (.string bytes, d) => bytes.length + uptoBulk d + 1
  | (_, d) => uptoBulk d + 1
 end
def uptoSmall : (H : Type) → List (DataW H) → Bool := fun _ ds => decide (uptoBulkAll ds ≤ 1048576)
def OpenSpec.upto (s : _root_.Go.ChangeSpec) : _root_.Go.OpenSpec := { _root_.Go.OpenSpec.ofChange s with cond := some uptoSmall }

/-- 'laws.FnMinutes', WHERE WHAT IT READS IS OF BULK AT MOST 1048576: true; the input reads as it did. -/
def fnMinutesUptoRow : OpenClaim := { program := "ytpobkpenfdibkaa", sum := "cc3be1887f8c04711e24d022eb5112bd3611572846dffb9d8329d41f662f563d", func := "loop.example/g03407/laws.FnMinutes", spec := "fnMinutes", apart := false, narrowed := true }
def FnMinutesUptoSaid : Prop := fnMinutesUptoRow.holds Try.pinned (OpenSpec.upto fnMinutesSpec)

/-- 'laws.FnFlow', WHERE WHAT IT READS IS OF BULK AT MOST 1048576: true; the input reads as it did. -/
def fnFlowUptoRow : OpenClaim := { program := "ytpobkpenfdibkaa", sum := "cc3be1887f8c04711e24d022eb5112bd3611572846dffb9d8329d41f662f563d", func := "loop.example/g03407/laws.FnFlow", spec := "fnFlow", apart := false, narrowed := true }
def FnFlowUptoSaid : Prop := fnFlowUptoRow.holds Try.pinned (OpenSpec.upto fnFlowSpec)

/-- 'laws.FnScrap', WHERE WHAT IT READS IS OF BULK AT MOST 1048576: true; the input reads as it did. -/
def fnScrapUptoRow : OpenClaim := { program := "ytpobkpenfdibkaa", sum := "cc3be1887f8c04711e24d022eb5112bd3611572846dffb9d8329d41f662f563d", func := "loop.example/g03407/laws.FnScrap", spec := "fnScrap", apart := false, narrowed := true }
def FnScrapUptoSaid : Prop := fnScrapUptoRow.holds Try.pinned (OpenSpec.upto fnScrapSpec)

/-- 'laws.FnExactDemandUpTo', WHERE WHAT IT READS IS OF BULK AT MOST 1048576: true; the input reads as it did. -/
def fnExactDemandUpToUptoRow : OpenClaim := { program := "ytpobkpenfdibkaa", sum := "cc3be1887f8c04711e24d022eb5112bd3611572846dffb9d8329d41f662f563d", func := "loop.example/g03407/laws.FnExactDemandUpTo", spec := "fnExactDemandUpTo", apart := false, narrowed := true }
def FnExactDemandUpToUptoSaid : Prop := fnExactDemandUpToUptoRow.holds Try.pinned (OpenSpec.upto fnExactDemandUpToSpec)

/-- 'laws.FnExactIsCatalog', WHERE WHAT IT READS IS OF BULK AT MOST 1048576: true; the input reads as it did. -/
def fnExactIsCatalogUptoRow : OpenClaim := { program := "ytpobkpenfdibkaa", sum := "cc3be1887f8c04711e24d022eb5112bd3611572846dffb9d8329d41f662f563d", func := "loop.example/g03407/laws.FnExactIsCatalog", spec := "fnExactIsCatalog", apart := false, narrowed := true }
def FnExactIsCatalogUptoSaid : Prop := fnExactIsCatalogUptoRow.holds Try.pinned (OpenSpec.upto fnExactIsCatalogSpec)

/-- 'laws.FnExactFlowTime', WHERE WHAT IT READS IS OF BULK AT MOST 1048576: true; the input reads as it did. -/
def fnExactFlowTimeUptoRow : OpenClaim := { program := "ytpobkpenfdibkaa", sum := "cc3be1887f8c04711e24d022eb5112bd3611572846dffb9d8329d41f662f563d", func := "loop.example/g03407/laws.FnExactFlowTime", spec := "fnExactFlowTime", apart := false, narrowed := true }
def FnExactFlowTimeUptoSaid : Prop := fnExactFlowTimeUptoRow.holds Try.pinned (OpenSpec.upto fnExactFlowTimeSpec)

/-- 'laws.FnExactRoutingTime', WHERE WHAT IT READS IS OF BULK AT MOST 1048576: true; the input reads as it did. -/
def fnExactRoutingTimeUptoRow : OpenClaim := { program := "ytpobkpenfdibkaa", sum := "cc3be1887f8c04711e24d022eb5112bd3611572846dffb9d8329d41f662f563d", func := "loop.example/g03407/laws.FnExactRoutingTime", spec := "fnExactRoutingTime", apart := false, narrowed := true }
def FnExactRoutingTimeUptoSaid : Prop := fnExactRoutingTimeUptoRow.holds Try.pinned (OpenSpec.upto fnExactRoutingTimeSpec)

/-- 'laws.FnExactSlowestStep', WHERE WHAT IT READS IS OF BULK AT MOST 1048576: true; the input reads as it did. -/
def fnExactSlowestStepUptoRow : OpenClaim := { program := "ytpobkpenfdibkaa", sum := "cc3be1887f8c04711e24d022eb5112bd3611572846dffb9d8329d41f662f563d", func := "loop.example/g03407/laws.FnExactSlowestStep", spec := "fnExactSlowestStep", apart := false, narrowed := true }
def FnExactSlowestStepUptoSaid : Prop := fnExactSlowestStepUptoRow.holds Try.pinned (OpenSpec.upto fnExactSlowestStepSpec)

/-- 'laws.FnExactAreRoutings', WHERE WHAT IT READS IS OF BULK AT MOST 1048576: true; the input reads as it did. -/
def fnExactAreRoutingsUptoRow : OpenClaim := { program := "ytpobkpenfdibkaa", sum := "cc3be1887f8c04711e24d022eb5112bd3611572846dffb9d8329d41f662f563d", func := "loop.example/g03407/laws.FnExactAreRoutings", spec := "fnExactAreRoutings", apart := false, narrowed := true }
def FnExactAreRoutingsUptoSaid : Prop := fnExactAreRoutingsUptoRow.holds Try.pinned (OpenSpec.upto fnExactAreRoutingsSpec)

/-- 'laws.FnExactIsChange', WHERE WHAT IT READS IS OF BULK AT MOST 1048576: true; the input reads as it did. -/
def fnExactIsChangeUptoRow : OpenClaim := { program := "ytpobkpenfdibkaa", sum := "cc3be1887f8c04711e24d022eb5112bd3611572846dffb9d8329d41f662f563d", func := "loop.example/g03407/laws.FnExactIsChange", spec := "fnExactIsChange", apart := false, narrowed := true }
def FnExactIsChangeUptoSaid : Prop := fnExactIsChangeUptoRow.holds Try.pinned (OpenSpec.upto fnExactIsChangeSpec)

/-- 'laws.FnExactIsBills', WHERE WHAT IT READS IS OF BULK AT MOST 1048576: true; the input reads as it did. -/
def fnExactIsBillsUptoRow : OpenClaim := { program := "ytpobkpenfdibkaa", sum := "cc3be1887f8c04711e24d022eb5112bd3611572846dffb9d8329d41f662f563d", func := "loop.example/g03407/laws.FnExactIsBills", spec := "fnExactIsBills", apart := false, narrowed := true }
def FnExactIsBillsUptoSaid : Prop := fnExactIsBillsUptoRow.holds Try.pinned (OpenSpec.upto fnExactIsBillsSpec)

/-- 'laws.FnExactIsPartial', WHERE WHAT IT READS IS OF BULK AT MOST 1048576: true; the input reads as it did. -/
def fnExactIsPartialUptoRow : OpenClaim := { program := "ytpobkpenfdibkaa", sum := "cc3be1887f8c04711e24d022eb5112bd3611572846dffb9d8329d41f662f563d", func := "loop.example/g03407/laws.FnExactIsPartial", spec := "fnExactIsPartial", apart := false, narrowed := true }
def FnExactIsPartialUptoSaid : Prop := fnExactIsPartialUptoRow.holds Try.pinned (OpenSpec.upto fnExactIsPartialSpec)

end Rows
end Go.Proofs.Ytpobkpenfdibkaa
