/-
  No cell of these rows narrows 'for every input' (looked for: loops, veiled, ifaces, maps, wideKeys, modest, calm, conditions, laid).
  DERIVED. THE GIVEN ROWS OF THIS SEAT. 12 by the template 'for every input the law returns true; each argument reads behind the call as it read before'; 0 by the template 'total and deterministic' (their statements: YtfobnelkahdbmaaTotals.lean).
  GIVEN WITH THE SEED: the statements are not yours to turn. If you find one false, say at which input.
  Laid BY PROGRAM, IN A SANDBOX (cutbox-rows.mjs): the forced cells as the released guide's own fill.sh prints them over the translation 697152b800de6d27… (all of the seat's roots in one cut). By AI agents, Wed Nov 11 2026. No macro, syntax, notation, axiom, sorry.
-/
import Derived.Test.YtfobnelkahdbmaaChecked
import GoSem.Claim
import GoSem.ClaimJoined
import GoSem.ClaimMapViews
import Derived.JoinedTies
import Derived.KernelRfl
namespace Go.Proofs.Ytfobnelkahdbmaa
/- THE CELL 'sum', in the pinned program and in every row, IS THE sha256 OF THE DUMP (.gsa) THAT YtfobnelkahdbmaaProg.lean LOADS. Nothing in Lean hashes anything: it is a label: what it is worth is what the hold of that sum in a sandbox is worth. -/
noncomputable def Try.pinned : Pinned := { name := "ytfobnelkahdbmaa", sum := "697152b800de6d27e13e06023b68c1f7607f6ed45e43f9025ff95cea6201a5a2", checked := Try.checked }
namespace Rows
def none {H : Type} : Left H := { results := [], args := [] }

/-- 'laws.FnExactIsStep': WHATEVER THE INPUT: true; the input reads as it did. -/
def fnExactIsStepSpec : ChangeSpec := { name := "fnExactIsStep", fn := fun _ => fun
  | [d] => { results := [.lit (.bool true)], args := [d] }
  | _ => none }
def fnExactIsStepRow : OpenClaim := { program := "ytfobnelkahdbmaa", sum := "697152b800de6d27e13e06023b68c1f7607f6ed45e43f9025ff95cea6201a5a2", func := "loop.example/g03407/laws.FnExactIsStep", spec := "fnExactIsStep", apart := false }
def FnExactIsStepSaid : Prop := fnExactIsStepRow.holds Try.pinned (OpenSpec.ofChange fnExactIsStepSpec)

/-- ITS FALSE NEIGHBOUR: 'it returns false'. Refute it at one input. -/
def fnExactIsStepWrong : ChangeSpec := { name := "fnExactIsStep", fn := fun _ => fun
  | [d] => { results := [.lit (.bool false)], args := [d] }
  | _ => none }
def FnExactIsStepWrongFalsely : Prop := fnExactIsStepRow.holds Try.pinned (OpenSpec.ofChange fnExactIsStepWrong)

/-- 'laws.FnExactStepTime': WHATEVER THE INPUT: true; the input reads as it did. -/
def fnExactStepTimeSpec : ChangeSpec := { name := "fnExactStepTime", fn := fun _ => fun
  | [d1, d2] => { results := [.lit (.bool true)], args := [d1, d2] }
  | _ => none }
def fnExactStepTimeRow : OpenClaim := { program := "ytfobnelkahdbmaa", sum := "697152b800de6d27e13e06023b68c1f7607f6ed45e43f9025ff95cea6201a5a2", func := "loop.example/g03407/laws.FnExactStepTime", spec := "fnExactStepTime", apart := false }
def FnExactStepTimeSaid : Prop := fnExactStepTimeRow.holds Try.pinned (OpenSpec.ofChange fnExactStepTimeSpec)

/-- ITS FALSE NEIGHBOUR: 'it returns false'. Refute it at one input. -/
def fnExactStepTimeWrong : ChangeSpec := { name := "fnExactStepTime", fn := fun _ => fun
  | [d1, d2] => { results := [.lit (.bool false)], args := [d1, d2] }
  | _ => none }
def FnExactStepTimeWrongFalsely : Prop := fnExactStepTimeRow.holds Try.pinned (OpenSpec.ofChange fnExactStepTimeWrong)

/-- 'laws.FnExactAreFlows': WHATEVER THE INPUT: true; the input reads as it did. -/
def fnExactAreFlowsSpec : ChangeSpec := { name := "fnExactAreFlows", fn := fun _ => fun
  | [d] => { results := [.lit (.bool true)], args := [d] }
  | _ => none }
def fnExactAreFlowsRow : OpenClaim := { program := "ytfobnelkahdbmaa", sum := "697152b800de6d27e13e06023b68c1f7607f6ed45e43f9025ff95cea6201a5a2", func := "loop.example/g03407/laws.FnExactAreFlows", spec := "fnExactAreFlows", apart := false }
def FnExactAreFlowsSaid : Prop := fnExactAreFlowsRow.holds Try.pinned (OpenSpec.ofChange fnExactAreFlowsSpec)

/-- ITS FALSE NEIGHBOUR: 'it returns false'. Refute it at one input. -/
def fnExactAreFlowsWrong : ChangeSpec := { name := "fnExactAreFlows", fn := fun _ => fun
  | [d] => { results := [.lit (.bool false)], args := [d] }
  | _ => none }
def FnExactAreFlowsWrongFalsely : Prop := fnExactAreFlowsRow.holds Try.pinned (OpenSpec.ofChange fnExactAreFlowsWrong)

/-- 'laws.FnExactIsItem': WHATEVER THE INPUT: true; the input reads as it did. -/
def fnExactIsItemSpec : ChangeSpec := { name := "fnExactIsItem", fn := fun _ => fun
  | [d] => { results := [.lit (.bool true)], args := [d] }
  | _ => none }
def fnExactIsItemRow : OpenClaim := { program := "ytfobnelkahdbmaa", sum := "697152b800de6d27e13e06023b68c1f7607f6ed45e43f9025ff95cea6201a5a2", func := "loop.example/g03407/laws.FnExactIsItem", spec := "fnExactIsItem", apart := false }
def FnExactIsItemSaid : Prop := fnExactIsItemRow.holds Try.pinned (OpenSpec.ofChange fnExactIsItemSpec)

/-- ITS FALSE NEIGHBOUR: 'it returns false'. Refute it at one input. -/
def fnExactIsItemWrong : ChangeSpec := { name := "fnExactIsItem", fn := fun _ => fun
  | [d] => { results := [.lit (.bool false)], args := [d] }
  | _ => none }
def FnExactIsItemWrongFalsely : Prop := fnExactIsItemRow.holds Try.pinned (OpenSpec.ofChange fnExactIsItemWrong)

/-- 'laws.FnExactNetOf': WHATEVER THE INPUT: true; the input reads as it did. -/
def fnExactNetOfSpec : ChangeSpec := { name := "fnExactNetOf", fn := fun _ => fun
  | [d1, d2] => { results := [.lit (.bool true)], args := [d1, d2] }
  | _ => none }
def fnExactNetOfRow : OpenClaim := { program := "ytfobnelkahdbmaa", sum := "697152b800de6d27e13e06023b68c1f7607f6ed45e43f9025ff95cea6201a5a2", func := "loop.example/g03407/laws.FnExactNetOf", spec := "fnExactNetOf", apart := false }
def FnExactNetOfSaid : Prop := fnExactNetOfRow.holds Try.pinned (OpenSpec.ofChange fnExactNetOfSpec)

/-- ITS FALSE NEIGHBOUR: 'it returns false'. Refute it at one input. -/
def fnExactNetOfWrong : ChangeSpec := { name := "fnExactNetOf", fn := fun _ => fun
  | [d1, d2] => { results := [.lit (.bool false)], args := [d1, d2] }
  | _ => none }
def FnExactNetOfWrongFalsely : Prop := fnExactNetOfRow.holds Try.pinned (OpenSpec.ofChange fnExactNetOfWrong)

/-- 'laws.FnExactFlowUpTo': WHATEVER THE INPUT: true; the input reads as it did. -/
def fnExactFlowUpToSpec : ChangeSpec := { name := "fnExactFlowUpTo", fn := fun _ => fun
  | [d1, d2] => { results := [.lit (.bool true)], args := [d1, d2] }
  | _ => none }
def fnExactFlowUpToRow : OpenClaim := { program := "ytfobnelkahdbmaa", sum := "697152b800de6d27e13e06023b68c1f7607f6ed45e43f9025ff95cea6201a5a2", func := "loop.example/g03407/laws.FnExactFlowUpTo", spec := "fnExactFlowUpTo", apart := false }
def FnExactFlowUpToSaid : Prop := fnExactFlowUpToRow.holds Try.pinned (OpenSpec.ofChange fnExactFlowUpToSpec)

/-- ITS FALSE NEIGHBOUR: 'it returns false'. Refute it at one input. -/
def fnExactFlowUpToWrong : ChangeSpec := { name := "fnExactFlowUpTo", fn := fun _ => fun
  | [d1, d2] => { results := [.lit (.bool false)], args := [d1, d2] }
  | _ => none }
def FnExactFlowUpToWrongFalsely : Prop := fnExactFlowUpToRow.holds Try.pinned (OpenSpec.ofChange fnExactFlowUpToWrong)

/-- 'laws.FnExactGrossOf': WHATEVER THE INPUT: true; the input reads as it did. -/
def fnExactGrossOfSpec : ChangeSpec := { name := "fnExactGrossOf", fn := fun _ => fun
  | [d1, d2] => { results := [.lit (.bool true)], args := [d1, d2] }
  | _ => none }
def fnExactGrossOfRow : OpenClaim := { program := "ytfobnelkahdbmaa", sum := "697152b800de6d27e13e06023b68c1f7607f6ed45e43f9025ff95cea6201a5a2", func := "loop.example/g03407/laws.FnExactGrossOf", spec := "fnExactGrossOf", apart := false }
def FnExactGrossOfSaid : Prop := fnExactGrossOfRow.holds Try.pinned (OpenSpec.ofChange fnExactGrossOfSpec)

/-- ITS FALSE NEIGHBOUR: 'it returns false'. Refute it at one input. -/
def fnExactGrossOfWrong : ChangeSpec := { name := "fnExactGrossOf", fn := fun _ => fun
  | [d1, d2] => { results := [.lit (.bool false)], args := [d1, d2] }
  | _ => none }
def FnExactGrossOfWrongFalsely : Prop := fnExactGrossOfRow.holds Try.pinned (OpenSpec.ofChange fnExactGrossOfWrong)

/-- 'laws.FnExactProjected': WHATEVER THE INPUT: true; the input reads as it did. -/
def fnExactProjectedSpec : ChangeSpec := { name := "fnExactProjected", fn := fun _ => fun
  | [d1, d2, d3, d4] => { results := [.lit (.bool true)], args := [d1, d2, d3, d4] }
  | _ => none }
def fnExactProjectedRow : OpenClaim := { program := "ytfobnelkahdbmaa", sum := "697152b800de6d27e13e06023b68c1f7607f6ed45e43f9025ff95cea6201a5a2", func := "loop.example/g03407/laws.FnExactProjected", spec := "fnExactProjected", apart := false }
def FnExactProjectedSaid : Prop := fnExactProjectedRow.holds Try.pinned (OpenSpec.ofChange fnExactProjectedSpec)

/-- ITS FALSE NEIGHBOUR: 'it returns false'. Refute it at one input. -/
def fnExactProjectedWrong : ChangeSpec := { name := "fnExactProjected", fn := fun _ => fun
  | [d1, d2, d3, d4] => { results := [.lit (.bool false)], args := [d1, d2, d3, d4] }
  | _ => none }
def FnExactProjectedWrongFalsely : Prop := fnExactProjectedRow.holds Try.pinned (OpenSpec.ofChange fnExactProjectedWrong)

/-- 'laws.FnExactFindItem': WHATEVER THE INPUT: true; the input reads as it did. -/
def fnExactFindItemSpec : ChangeSpec := { name := "fnExactFindItem", fn := fun _ => fun
  | [d1, d2] => { results := [.lit (.bool true)], args := [d1, d2] }
  | _ => none }
def fnExactFindItemRow : OpenClaim := { program := "ytfobnelkahdbmaa", sum := "697152b800de6d27e13e06023b68c1f7607f6ed45e43f9025ff95cea6201a5a2", func := "loop.example/g03407/laws.FnExactFindItem", spec := "fnExactFindItem", apart := false }
def FnExactFindItemSaid : Prop := fnExactFindItemRow.holds Try.pinned (OpenSpec.ofChange fnExactFindItemSpec)

/-- ITS FALSE NEIGHBOUR: 'it returns false'. Refute it at one input. -/
def fnExactFindItemWrong : ChangeSpec := { name := "fnExactFindItem", fn := fun _ => fun
  | [d1, d2] => { results := [.lit (.bool false)], args := [d1, d2] }
  | _ => none }
def FnExactFindItemWrongFalsely : Prop := fnExactFindItemRow.holds Try.pinned (OpenSpec.ofChange fnExactFindItemWrong)

/-- 'laws.FnExactAreDemands': WHATEVER THE INPUT: true; the input reads as it did. -/
def fnExactAreDemandsSpec : ChangeSpec := { name := "fnExactAreDemands", fn := fun _ => fun
  | [d] => { results := [.lit (.bool true)], args := [d] }
  | _ => none }
def fnExactAreDemandsRow : OpenClaim := { program := "ytfobnelkahdbmaa", sum := "697152b800de6d27e13e06023b68c1f7607f6ed45e43f9025ff95cea6201a5a2", func := "loop.example/g03407/laws.FnExactAreDemands", spec := "fnExactAreDemands", apart := false }
def FnExactAreDemandsSaid : Prop := fnExactAreDemandsRow.holds Try.pinned (OpenSpec.ofChange fnExactAreDemandsSpec)

/-- ITS FALSE NEIGHBOUR: 'it returns false'. Refute it at one input. -/
def fnExactAreDemandsWrong : ChangeSpec := { name := "fnExactAreDemands", fn := fun _ => fun
  | [d] => { results := [.lit (.bool false)], args := [d] }
  | _ => none }
def FnExactAreDemandsWrongFalsely : Prop := fnExactAreDemandsRow.holds Try.pinned (OpenSpec.ofChange fnExactAreDemandsWrong)

/-- 'laws.FnExactIsRouting': WHATEVER THE INPUT: true; the input reads as it did. -/
def fnExactIsRoutingSpec : ChangeSpec := { name := "fnExactIsRouting", fn := fun _ => fun
  | [d] => { results := [.lit (.bool true)], args := [d] }
  | _ => none }
def fnExactIsRoutingRow : OpenClaim := { program := "ytfobnelkahdbmaa", sum := "697152b800de6d27e13e06023b68c1f7607f6ed45e43f9025ff95cea6201a5a2", func := "loop.example/g03407/laws.FnExactIsRouting", spec := "fnExactIsRouting", apart := false }
def FnExactIsRoutingSaid : Prop := fnExactIsRoutingRow.holds Try.pinned (OpenSpec.ofChange fnExactIsRoutingSpec)

/-- ITS FALSE NEIGHBOUR: 'it returns false'. Refute it at one input. -/
def fnExactIsRoutingWrong : ChangeSpec := { name := "fnExactIsRouting", fn := fun _ => fun
  | [d] => { results := [.lit (.bool false)], args := [d] }
  | _ => none }
def FnExactIsRoutingWrongFalsely : Prop := fnExactIsRoutingRow.holds Try.pinned (OpenSpec.ofChange fnExactIsRoutingWrong)

/-- 'laws.FnExactFindRouting': WHATEVER THE INPUT: true; the input reads as it did. -/
def fnExactFindRoutingSpec : ChangeSpec := { name := "fnExactFindRouting", fn := fun _ => fun
  | [d1, d2] => { results := [.lit (.bool true)], args := [d1, d2] }
  | _ => none }
def fnExactFindRoutingRow : OpenClaim := { program := "ytfobnelkahdbmaa", sum := "697152b800de6d27e13e06023b68c1f7607f6ed45e43f9025ff95cea6201a5a2", func := "loop.example/g03407/laws.FnExactFindRouting", spec := "fnExactFindRouting", apart := false }
def FnExactFindRoutingSaid : Prop := fnExactFindRoutingRow.holds Try.pinned (OpenSpec.ofChange fnExactFindRoutingSpec)

/-- ITS FALSE NEIGHBOUR: 'it returns false'. Refute it at one input. -/
def fnExactFindRoutingWrong : ChangeSpec := { name := "fnExactFindRouting", fn := fun _ => fun
  | [d1, d2] => { results := [.lit (.bool false)], args := [d1, d2] }
  | _ => none }
def FnExactFindRoutingWrongFalsely : Prop := fnExactFindRoutingRow.holds Try.pinned (OpenSpec.ofChange fnExactFindRoutingWrong)

/- THE SECOND FORM. 'bulk': how many values and letters a reading holds, each counted each time it is reached (what is shared counts as often as it is met; a slice's spare places count too). A statement '..UptoSaid' is the law's where the arguments, and the package variables that the reading takes, are together of bulk at most 1048576: NARROWER than '..Said'. Prove '..Said' where nothing that the law and all that it calls make is longer than what came in: it says more and counts as full. Else prove '..UptoSaid'. A law counts once. -/
mutual
def uptoBulk {H : Type} : DataW H → Nat
  | .lit (.string bytes) => bytes.length + 1
  | .lit _ => 1
  | .nil => 1
  | .ptr d => uptoBulk d + 1
  | .slice elems spare => uptoBulkAll elems + uptoBulkAll spare + 1
  | .agg parts => uptoBulkAll parts + 1
  | .iface _ d => uptoBulk d + 1
  | .map entries => uptoBulkEntries entries + 1
  | .held _ => 1
def uptoBulkAll {H : Type} : List (DataW H) → Nat
  | [] => 0
  | d :: r => uptoBulk d + uptoBulkAll r
def uptoBulkEntries {H : Type} : List (Lit × DataW H) → Nat
  | [] => 0
  | x :: r => uptoBulkEntry x + uptoBulkEntries r
def uptoBulkEntry {H : Type} : Lit × DataW H → Nat
  | (.string bytes, d) => bytes.length + uptoBulk d + 1
  | (_, d) => uptoBulk d + 1
 end
def uptoSmall : (H : Type) → List (DataW H) → Bool := fun _ ds => decide (uptoBulkAll ds ≤ 1048576)
def OpenSpec.upto (s : _root_.Go.ChangeSpec) : _root_.Go.OpenSpec := { _root_.Go.OpenSpec.ofChange s with cond := some uptoSmall }

/-- 'laws.FnExactIsStep', WHERE WHAT IT READS IS OF BULK AT MOST 1048576: true; the input reads as it did. -/
def fnExactIsStepUptoRow : OpenClaim := { program := "ytfobnelkahdbmaa", sum := "697152b800de6d27e13e06023b68c1f7607f6ed45e43f9025ff95cea6201a5a2", func := "loop.example/g03407/laws.FnExactIsStep", spec := "fnExactIsStep", apart := false, narrowed := true }
def FnExactIsStepUptoSaid : Prop := fnExactIsStepUptoRow.holds Try.pinned (OpenSpec.upto fnExactIsStepSpec)

/-- 'laws.FnExactStepTime', WHERE WHAT IT READS IS OF BULK AT MOST 1048576: true; the input reads as it did. -/
def fnExactStepTimeUptoRow : OpenClaim := { program := "ytfobnelkahdbmaa", sum := "697152b800de6d27e13e06023b68c1f7607f6ed45e43f9025ff95cea6201a5a2", func := "loop.example/g03407/laws.FnExactStepTime", spec := "fnExactStepTime", apart := false, narrowed := true }
def FnExactStepTimeUptoSaid : Prop := fnExactStepTimeUptoRow.holds Try.pinned (OpenSpec.upto fnExactStepTimeSpec)

/-- 'laws.FnExactAreFlows', WHERE WHAT IT READS IS OF BULK AT MOST 1048576: true; the input reads as it did. -/
def fnExactAreFlowsUptoRow : OpenClaim := { program := "ytfobnelkahdbmaa", sum := "697152b800de6d27e13e06023b68c1f7607f6ed45e43f9025ff95cea6201a5a2", func := "loop.example/g03407/laws.FnExactAreFlows", spec := "fnExactAreFlows", apart := false, narrowed := true }
def FnExactAreFlowsUptoSaid : Prop := fnExactAreFlowsUptoRow.holds Try.pinned (OpenSpec.upto fnExactAreFlowsSpec)

/-- 'laws.FnExactIsItem', WHERE WHAT IT READS IS OF BULK AT MOST 1048576: true; the input reads as it did. -/
def fnExactIsItemUptoRow : OpenClaim := { program := "ytfobnelkahdbmaa", sum := "697152b800de6d27e13e06023b68c1f7607f6ed45e43f9025ff95cea6201a5a2", func := "loop.example/g03407/laws.FnExactIsItem", spec := "fnExactIsItem", apart := false, narrowed := true }
def FnExactIsItemUptoSaid : Prop := fnExactIsItemUptoRow.holds Try.pinned (OpenSpec.upto fnExactIsItemSpec)

/-- 'laws.FnExactNetOf', WHERE WHAT IT READS IS OF BULK AT MOST 1048576: true; the input reads as it did. -/
def fnExactNetOfUptoRow : OpenClaim := { program := "ytfobnelkahdbmaa", sum := "697152b800de6d27e13e06023b68c1f7607f6ed45e43f9025ff95cea6201a5a2", func := "loop.example/g03407/laws.FnExactNetOf", spec := "fnExactNetOf", apart := false, narrowed := true }
def FnExactNetOfUptoSaid : Prop := fnExactNetOfUptoRow.holds Try.pinned (OpenSpec.upto fnExactNetOfSpec)

/-- 'laws.FnExactFlowUpTo', WHERE WHAT IT READS IS OF BULK AT MOST 1048576: true; the input reads as it did. -/
def fnExactFlowUpToUptoRow : OpenClaim := { program := "ytfobnelkahdbmaa", sum := "697152b800de6d27e13e06023b68c1f7607f6ed45e43f9025ff95cea6201a5a2", func := "loop.example/g03407/laws.FnExactFlowUpTo", spec := "fnExactFlowUpTo", apart := false, narrowed := true }
def FnExactFlowUpToUptoSaid : Prop := fnExactFlowUpToUptoRow.holds Try.pinned (OpenSpec.upto fnExactFlowUpToSpec)

/-- 'laws.FnExactGrossOf', WHERE WHAT IT READS IS OF BULK AT MOST 1048576: true; the input reads as it did. -/
def fnExactGrossOfUptoRow : OpenClaim := { program := "ytfobnelkahdbmaa", sum := "697152b800de6d27e13e06023b68c1f7607f6ed45e43f9025ff95cea6201a5a2", func := "loop.example/g03407/laws.FnExactGrossOf", spec := "fnExactGrossOf", apart := false, narrowed := true }
def FnExactGrossOfUptoSaid : Prop := fnExactGrossOfUptoRow.holds Try.pinned (OpenSpec.upto fnExactGrossOfSpec)

/-- 'laws.FnExactProjected', WHERE WHAT IT READS IS OF BULK AT MOST 1048576: true; the input reads as it did. -/
def fnExactProjectedUptoRow : OpenClaim := { program := "ytfobnelkahdbmaa", sum := "697152b800de6d27e13e06023b68c1f7607f6ed45e43f9025ff95cea6201a5a2", func := "loop.example/g03407/laws.FnExactProjected", spec := "fnExactProjected", apart := false, narrowed := true }
def FnExactProjectedUptoSaid : Prop := fnExactProjectedUptoRow.holds Try.pinned (OpenSpec.upto fnExactProjectedSpec)

/-- 'laws.FnExactFindItem', WHERE WHAT IT READS IS OF BULK AT MOST 1048576: true; the input reads as it did. -/
def fnExactFindItemUptoRow : OpenClaim := { program := "ytfobnelkahdbmaa", sum := "697152b800de6d27e13e06023b68c1f7607f6ed45e43f9025ff95cea6201a5a2", func := "loop.example/g03407/laws.FnExactFindItem", spec := "fnExactFindItem", apart := false, narrowed := true }
def FnExactFindItemUptoSaid : Prop := fnExactFindItemUptoRow.holds Try.pinned (OpenSpec.upto fnExactFindItemSpec)

/-- 'laws.FnExactAreDemands', WHERE WHAT IT READS IS OF BULK AT MOST 1048576: true; the input reads as it did. -/
def fnExactAreDemandsUptoRow : OpenClaim := { program := "ytfobnelkahdbmaa", sum := "697152b800de6d27e13e06023b68c1f7607f6ed45e43f9025ff95cea6201a5a2", func := "loop.example/g03407/laws.FnExactAreDemands", spec := "fnExactAreDemands", apart := false, narrowed := true }
def FnExactAreDemandsUptoSaid : Prop := fnExactAreDemandsUptoRow.holds Try.pinned (OpenSpec.upto fnExactAreDemandsSpec)

/-- 'laws.FnExactIsRouting', WHERE WHAT IT READS IS OF BULK AT MOST 1048576: true; the input reads as it did. -/
def fnExactIsRoutingUptoRow : OpenClaim := { program := "ytfobnelkahdbmaa", sum := "697152b800de6d27e13e06023b68c1f7607f6ed45e43f9025ff95cea6201a5a2", func := "loop.example/g03407/laws.FnExactIsRouting", spec := "fnExactIsRouting", apart := false, narrowed := true }
def FnExactIsRoutingUptoSaid : Prop := fnExactIsRoutingUptoRow.holds Try.pinned (OpenSpec.upto fnExactIsRoutingSpec)

/-- 'laws.FnExactFindRouting', WHERE WHAT IT READS IS OF BULK AT MOST 1048576: true; the input reads as it did. -/
def fnExactFindRoutingUptoRow : OpenClaim := { program := "ytfobnelkahdbmaa", sum := "697152b800de6d27e13e06023b68c1f7607f6ed45e43f9025ff95cea6201a5a2", func := "loop.example/g03407/laws.FnExactFindRouting", spec := "fnExactFindRouting", apart := false, narrowed := true }
def FnExactFindRoutingUptoSaid : Prop := fnExactFindRoutingUptoRow.holds Try.pinned (OpenSpec.upto fnExactFindRoutingSpec)

end Rows
end Go.Proofs.Ytfobnelkahdbmaa
