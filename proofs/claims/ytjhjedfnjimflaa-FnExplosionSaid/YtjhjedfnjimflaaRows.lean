/-
  No cell of these rows narrows 'for every input' (looked for: loops, veiled, ifaces, maps, wideKeys, modest, calm, conditions, laid).
  DERIVED. THE GIVEN ROWS OF THIS SEAT. 12 by the template 'for every input the law returns true; each argument reads behind the call as it read before'; 0 by the template 'total and deterministic' (their statements: YtjhjedfnjimflaaTotals.lean).
  GIVEN WITH THE SEED: the statements are not yours to turn. If you find one false, say at which input.
  Laid BY PROGRAM, IN A SANDBOX (cutbox-rows.mjs): the forced cells as the released guide's own fill.sh prints them over the translation 8548bc466e340fed… (all of the seat's roots in one cut). By AI agents, Wed Nov 11 2026. No macro, syntax, notation, axiom, sorry.
-/
import Derived.Test.YtjhjedfnjimflaaChecked
import GoSem.Claim
import GoSem.ClaimJoined
import GoSem.ClaimMapViews
import Derived.JoinedTies
import Derived.KernelRfl
namespace Go.Proofs.Ytjhjedfnjimflaa
/- THE CELL 'sum', in the pinned program and in every row, IS THE sha256 OF THE DUMP (.gsa) THAT YtjhjedfnjimflaaProg.lean LOADS. Nothing in Lean hashes anything: it is a label: what it is worth is what the hold of that sum in a sandbox is worth. -/
noncomputable def Try.pinned : Pinned := { name := "ytjhjedfnjimflaa", sum := "8548bc466e340feda13932f53fec7db96aa21f4d4171bc3605b491ea1636703d", checked := Try.checked }
namespace Rows
def none {H : Type} : Left H := { results := [], args := [] }

/-- 'laws.FnConflicts': WHATEVER THE INPUT: true; the input reads as it did. -/
def fnConflictsSpec : ChangeSpec := { name := "fnConflicts", fn := fun _ => fun
  | [d] => { results := [.lit (.bool true)], args := [d] }
  | _ => none }
def fnConflictsRow : OpenClaim := { program := "ytjhjedfnjimflaa", sum := "8548bc466e340feda13932f53fec7db96aa21f4d4171bc3605b491ea1636703d", func := "loop.example/g03407/laws.FnConflicts", spec := "fnConflicts", recurses := true, apart := false }
def FnConflictsSaid : Prop := fnConflictsRow.holds Try.pinned (OpenSpec.ofChange fnConflictsSpec)

/-- ITS FALSE NEIGHBOUR: 'it returns false'. Refute it at one input. -/
def fnConflictsWrong : ChangeSpec := { name := "fnConflicts", fn := fun _ => fun
  | [d] => { results := [.lit (.bool false)], args := [d] }
  | _ => none }
def FnConflictsWrongFalsely : Prop := fnConflictsRow.holds Try.pinned (OpenSpec.ofChange fnConflictsWrong)

/-- 'laws.FnOpen': WHATEVER THE INPUT: true; the input reads as it did. -/
def fnOpenSpec : ChangeSpec := { name := "fnOpen", fn := fun _ => fun
  | [d] => { results := [.lit (.bool true)], args := [d] }
  | _ => none }
def fnOpenRow : OpenClaim := { program := "ytjhjedfnjimflaa", sum := "8548bc466e340feda13932f53fec7db96aa21f4d4171bc3605b491ea1636703d", func := "loop.example/g03407/laws.FnOpen", spec := "fnOpen", recurses := true, apart := false }
def FnOpenSaid : Prop := fnOpenRow.holds Try.pinned (OpenSpec.ofChange fnOpenSpec)

/-- ITS FALSE NEIGHBOUR: 'it returns false'. Refute it at one input. -/
def fnOpenWrong : ChangeSpec := { name := "fnOpen", fn := fun _ => fun
  | [d] => { results := [.lit (.bool false)], args := [d] }
  | _ => none }
def FnOpenWrongFalsely : Prop := fnOpenRow.holds Try.pinned (OpenSpec.ofChange fnOpenWrong)

/-- 'laws.FnExactIsChoice': WHATEVER THE INPUT: true; the input reads as it did. -/
def fnExactIsChoiceSpec : ChangeSpec := { name := "fnExactIsChoice", fn := fun _ => fun
  | [d1, d2] => { results := [.lit (.bool true)], args := [d1, d2] }
  | _ => none }
def fnExactIsChoiceRow : OpenClaim := { program := "ytjhjedfnjimflaa", sum := "8548bc466e340feda13932f53fec7db96aa21f4d4171bc3605b491ea1636703d", func := "loop.example/g03407/laws.FnExactIsChoice", spec := "fnExactIsChoice", apart := false }
def FnExactIsChoiceSaid : Prop := fnExactIsChoiceRow.holds Try.pinned (OpenSpec.ofChange fnExactIsChoiceSpec)

/-- ITS FALSE NEIGHBOUR: 'it returns false'. Refute it at one input. -/
def fnExactIsChoiceWrong : ChangeSpec := { name := "fnExactIsChoice", fn := fun _ => fun
  | [d1, d2] => { results := [.lit (.bool false)], args := [d1, d2] }
  | _ => none }
def FnExactIsChoiceWrongFalsely : Prop := fnExactIsChoiceRow.holds Try.pinned (OpenSpec.ofChange fnExactIsChoiceWrong)

/-- 'laws.FnTidy': WHATEVER THE INPUT: true; the input reads as it did. -/
def fnTidySpec : ChangeSpec := { name := "fnTidy", fn := fun _ => fun
  | [d] => { results := [.lit (.bool true)], args := [d] }
  | _ => none }
def fnTidyRow : OpenClaim := { program := "ytjhjedfnjimflaa", sum := "8548bc466e340feda13932f53fec7db96aa21f4d4171bc3605b491ea1636703d", func := "loop.example/g03407/laws.FnTidy", spec := "fnTidy", recurses := true, apart := false }
def FnTidySaid : Prop := fnTidyRow.holds Try.pinned (OpenSpec.ofChange fnTidySpec)

/-- ITS FALSE NEIGHBOUR: 'it returns false'. Refute it at one input. -/
def fnTidyWrong : ChangeSpec := { name := "fnTidy", fn := fun _ => fun
  | [d] => { results := [.lit (.bool false)], args := [d] }
  | _ => none }
def FnTidyWrongFalsely : Prop := fnTidyRow.holds Try.pinned (OpenSpec.ofChange fnTidyWrong)

/-- 'laws.FnLevels': WHATEVER THE INPUT: true; the input reads as it did. -/
def fnLevelsSpec : ChangeSpec := { name := "fnLevels", fn := fun _ => fun
  | [d] => { results := [.lit (.bool true)], args := [d] }
  | _ => none }
def fnLevelsRow : OpenClaim := { program := "ytjhjedfnjimflaa", sum := "8548bc466e340feda13932f53fec7db96aa21f4d4171bc3605b491ea1636703d", func := "loop.example/g03407/laws.FnLevels", spec := "fnLevels", recurses := true, apart := false }
def FnLevelsSaid : Prop := fnLevelsRow.holds Try.pinned (OpenSpec.ofChange fnLevelsSpec)

/-- ITS FALSE NEIGHBOUR: 'it returns false'. Refute it at one input. -/
def fnLevelsWrong : ChangeSpec := { name := "fnLevels", fn := fun _ => fun
  | [d] => { results := [.lit (.bool false)], args := [d] }
  | _ => none }
def FnLevelsWrongFalsely : Prop := fnLevelsRow.holds Try.pinned (OpenSpec.ofChange fnLevelsWrong)

/-- 'laws.FnParents': WHATEVER THE INPUT: true; the input reads as it did. -/
def fnParentsSpec : ChangeSpec := { name := "fnParents", fn := fun _ => fun
  | [d] => { results := [.lit (.bool true)], args := [d] }
  | _ => none }
def fnParentsRow : OpenClaim := { program := "ytjhjedfnjimflaa", sum := "8548bc466e340feda13932f53fec7db96aa21f4d4171bc3605b491ea1636703d", func := "loop.example/g03407/laws.FnParents", spec := "fnParents", recurses := true, apart := false }
def FnParentsSaid : Prop := fnParentsRow.holds Try.pinned (OpenSpec.ofChange fnParentsSpec)

/-- ITS FALSE NEIGHBOUR: 'it returns false'. Refute it at one input. -/
def fnParentsWrong : ChangeSpec := { name := "fnParents", fn := fun _ => fun
  | [d] => { results := [.lit (.bool false)], args := [d] }
  | _ => none }
def FnParentsWrongFalsely : Prop := fnParentsRow.holds Try.pinned (OpenSpec.ofChange fnParentsWrong)

/-- 'laws.FnChanges': WHATEVER THE INPUT: true; the input reads as it did. -/
def fnChangesSpec : ChangeSpec := { name := "fnChanges", fn := fun _ => fun
  | [d] => { results := [.lit (.bool true)], args := [d] }
  | _ => none }
def fnChangesRow : OpenClaim := { program := "ytjhjedfnjimflaa", sum := "8548bc466e340feda13932f53fec7db96aa21f4d4171bc3605b491ea1636703d", func := "loop.example/g03407/laws.FnChanges", spec := "fnChanges", recurses := true, apart := false }
def FnChangesSaid : Prop := fnChangesRow.holds Try.pinned (OpenSpec.ofChange fnChangesSpec)

/-- ITS FALSE NEIGHBOUR: 'it returns false'. Refute it at one input. -/
def fnChangesWrong : ChangeSpec := { name := "fnChanges", fn := fun _ => fun
  | [d] => { results := [.lit (.bool false)], args := [d] }
  | _ => none }
def FnChangesWrongFalsely : Prop := fnChangesRow.holds Try.pinned (OpenSpec.ofChange fnChangesWrong)

/-- 'laws.FnChangesJoined': WHATEVER THE INPUT: true; the input reads as it did. -/
def fnChangesJoinedSpec : ChangeSpec := { name := "fnChangesJoined", fn := fun _ => fun
  | [d] => { results := [.lit (.bool true)], args := [d] }
  | _ => none }
def fnChangesJoinedRow : OpenClaim := { program := "ytjhjedfnjimflaa", sum := "8548bc466e340feda13932f53fec7db96aa21f4d4171bc3605b491ea1636703d", func := "loop.example/g03407/laws.FnChangesJoined", spec := "fnChangesJoined", recurses := true, apart := false }
def FnChangesJoinedSaid : Prop := fnChangesJoinedRow.holds Try.pinned (OpenSpec.ofChange fnChangesJoinedSpec)

/-- ITS FALSE NEIGHBOUR: 'it returns false'. Refute it at one input. -/
def fnChangesJoinedWrong : ChangeSpec := { name := "fnChangesJoined", fn := fun _ => fun
  | [d] => { results := [.lit (.bool false)], args := [d] }
  | _ => none }
def FnChangesJoinedWrongFalsely : Prop := fnChangesJoinedRow.holds Try.pinned (OpenSpec.ofChange fnChangesJoinedWrong)

/-- 'laws.FnLinear': WHATEVER THE INPUT: true; the input reads as it did. -/
def fnLinearSpec : ChangeSpec := { name := "fnLinear", fn := fun _ => fun
  | [d] => { results := [.lit (.bool true)], args := [d] }
  | _ => none }
def fnLinearRow : OpenClaim := { program := "ytjhjedfnjimflaa", sum := "8548bc466e340feda13932f53fec7db96aa21f4d4171bc3605b491ea1636703d", func := "loop.example/g03407/laws.FnLinear", spec := "fnLinear", unfollowed := true, recurses := true, apart := false }
def FnLinearSaid : Prop := fnLinearRow.holds Try.pinned (OpenSpec.ofChange fnLinearSpec)

/-- ITS FALSE NEIGHBOUR: 'it returns false'. Refute it at one input. -/
def fnLinearWrong : ChangeSpec := { name := "fnLinear", fn := fun _ => fun
  | [d] => { results := [.lit (.bool false)], args := [d] }
  | _ => none }
def FnLinearWrongFalsely : Prop := fnLinearRow.holds Try.pinned (OpenSpec.ofChange fnLinearWrong)

/-- 'laws.FnPhantoms': WHATEVER THE INPUT: true; the input reads as it did. -/
def fnPhantomsSpec : ChangeSpec := { name := "fnPhantoms", fn := fun _ => fun
  | [d] => { results := [.lit (.bool true)], args := [d] }
  | _ => none }
def fnPhantomsRow : OpenClaim := { program := "ytjhjedfnjimflaa", sum := "8548bc466e340feda13932f53fec7db96aa21f4d4171bc3605b491ea1636703d", func := "loop.example/g03407/laws.FnPhantoms", spec := "fnPhantoms", unfollowed := true, recurses := true, apart := false }
def FnPhantomsSaid : Prop := fnPhantomsRow.holds Try.pinned (OpenSpec.ofChange fnPhantomsSpec)

/-- ITS FALSE NEIGHBOUR: 'it returns false'. Refute it at one input. -/
def fnPhantomsWrong : ChangeSpec := { name := "fnPhantoms", fn := fun _ => fun
  | [d] => { results := [.lit (.bool false)], args := [d] }
  | _ => none }
def FnPhantomsWrongFalsely : Prop := fnPhantomsRow.holds Try.pinned (OpenSpec.ofChange fnPhantomsWrong)

/-- 'laws.FnExactQuantityIn': WHATEVER THE INPUT: true; the input reads as it did. -/
def fnExactQuantityInSpec : ChangeSpec := { name := "fnExactQuantityIn", fn := fun _ => fun
  | [d1, d2, d3, d4, d5, d6] => { results := [.lit (.bool true)], args := [d1, d2, d3, d4, d5, d6] }
  | _ => none }
def fnExactQuantityInRow : OpenClaim := { program := "ytjhjedfnjimflaa", sum := "8548bc466e340feda13932f53fec7db96aa21f4d4171bc3605b491ea1636703d", func := "loop.example/g03407/laws.FnExactQuantityIn", spec := "fnExactQuantityIn", apart := false }
def FnExactQuantityInSaid : Prop := fnExactQuantityInRow.holds Try.pinned (OpenSpec.ofChange fnExactQuantityInSpec)

/-- ITS FALSE NEIGHBOUR: 'it returns false'. Refute it at one input. -/
def fnExactQuantityInWrong : ChangeSpec := { name := "fnExactQuantityIn", fn := fun _ => fun
  | [d1, d2, d3, d4, d5, d6] => { results := [.lit (.bool false)], args := [d1, d2, d3, d4, d5, d6] }
  | _ => none }
def FnExactQuantityInWrongFalsely : Prop := fnExactQuantityInRow.holds Try.pinned (OpenSpec.ofChange fnExactQuantityInWrong)

/-- 'laws.FnExplosion': WHATEVER THE INPUT: true; the input reads as it did. -/
def fnExplosionSpec : ChangeSpec := { name := "fnExplosion", fn := fun _ => fun
  | [d] => { results := [.lit (.bool true)], args := [d] }
  | _ => none }
def fnExplosionRow : OpenClaim := { program := "ytjhjedfnjimflaa", sum := "8548bc466e340feda13932f53fec7db96aa21f4d4171bc3605b491ea1636703d", func := "loop.example/g03407/laws.FnExplosion", spec := "fnExplosion", unfollowed := true, recurses := true, apart := false }
def FnExplosionSaid : Prop := fnExplosionRow.holds Try.pinned (OpenSpec.ofChange fnExplosionSpec)

/-- ITS FALSE NEIGHBOUR: 'it returns false'. Refute it at one input. -/
def fnExplosionWrong : ChangeSpec := { name := "fnExplosion", fn := fun _ => fun
  | [d] => { results := [.lit (.bool false)], args := [d] }
  | _ => none }
def FnExplosionWrongFalsely : Prop := fnExplosionRow.holds Try.pinned (OpenSpec.ofChange fnExplosionWrong)

/- THE SECOND FORM. 'bulk': how many values and letters a reading holds, each counted each time it is reached (what is shared counts as often as it is met; a slice's spare places count too). A statement '..UptoSaid' is the law's where the arguments, and the package variables that the reading takes, are together of bulk at most 1048576: NARROWER than '..Said'. Prove '..Said' where nothing that the law and all that it calls make is longer than what came in: it says more and counts as full. Else prove '..UptoSaid'. A law counts once. -/
mutual
def uptoBulk {H : Type} : DataW H → Nat
  | .lit (.string bytes) => bytes.length + 1
  | .lit _ => 1
  | .nil => 1
  | .ptr d => uptoBulk d + 1
  | .slice elems spare => uptoBulkAll elems + uptoBulkAll spare + 1
  | .agg parts => uptoBulkAll parts + 1
  | .iface _ d => uptoBulk d + 1
  | .map entries => uptoBulkEntries entries + 1
  | .held _ => 1
def uptoBulkAll {H : Type} : List (DataW H) → Nat
  | [] => 0
  | d :: r => uptoBulk d + uptoBulkAll r
def uptoBulkEntries {H : Type} : List (Lit × DataW H) → Nat
  | [] => 0
  | x :: r => uptoBulkEntry x + uptoBulkEntries r
def uptoBulkEntry {H : Type} : Lit × DataW H → Nat
  | (.string bytes, d) => bytes.length + uptoBulk d + 1
  | (_, d) => uptoBulk d + 1
 end
def uptoSmall : (H : Type) → List (DataW H) → Bool := fun _ ds => decide (uptoBulkAll ds ≤ 1048576)
def OpenSpec.upto (s : _root_.Go.ChangeSpec) : _root_.Go.OpenSpec := { _root_.Go.OpenSpec.ofChange s with cond := some uptoSmall }

/-- 'laws.FnConflicts', WHERE WHAT IT READS IS OF BULK AT MOST 1048576: true; the input reads as it did. -/
def fnConflictsUptoRow : OpenClaim := { program := "ytjhjedfnjimflaa", sum := "8548bc466e340feda13932f53fec7db96aa21f4d4171bc3605b491ea1636703d", func := "loop.example/g03407/laws.FnConflicts", spec := "fnConflicts", recurses := true, apart := false, narrowed := true }
def FnConflictsUptoSaid : Prop := fnConflictsUptoRow.holds Try.pinned (OpenSpec.upto fnConflictsSpec)

/-- 'laws.FnOpen', WHERE WHAT IT READS IS OF BULK AT MOST 1048576: true; the input reads as it did. -/
def fnOpenUptoRow : OpenClaim := { program := "ytjhjedfnjimflaa", sum := "8548bc466e340feda13932f53fec7db96aa21f4d4171bc3605b491ea1636703d", func := "loop.example/g03407/laws.FnOpen", spec := "fnOpen", recurses := true, apart := false, narrowed := true }
def FnOpenUptoSaid : Prop := fnOpenUptoRow.holds Try.pinned (OpenSpec.upto fnOpenSpec)

/-- 'laws.FnExactIsChoice', WHERE WHAT IT READS IS OF BULK AT MOST 1048576: true; the input reads as it did. -/
def fnExactIsChoiceUptoRow : OpenClaim := { program := "ytjhjedfnjimflaa", sum := "8548bc466e340feda13932f53fec7db96aa21f4d4171bc3605b491ea1636703d", func := "loop.example/g03407/laws.FnExactIsChoice", spec := "fnExactIsChoice", apart := false, narrowed := true }
def FnExactIsChoiceUptoSaid : Prop := fnExactIsChoiceUptoRow.holds Try.pinned (OpenSpec.upto fnExactIsChoiceSpec)

/-- 'laws.FnTidy', WHERE WHAT IT READS IS OF BULK AT MOST 1048576: true; the input reads as it did. -/
def fnTidyUptoRow : OpenClaim := { program := "ytjhjedfnjimflaa", sum := "8548bc466e340feda13932f53fec7db96aa21f4d4171bc3605b491ea1636703d", func := "loop.example/g03407/laws.FnTidy", spec := "fnTidy", recurses := true, apart := false, narrowed := true }
def FnTidyUptoSaid : Prop := fnTidyUptoRow.holds Try.pinned (OpenSpec.upto fnTidySpec)

/-- 'laws.FnLevels', WHERE WHAT IT READS IS OF BULK AT MOST 1048576: true; the input reads as it did. -/
def fnLevelsUptoRow : OpenClaim := { program := "ytjhjedfnjimflaa", sum := "8548bc466e340feda13932f53fec7db96aa21f4d4171bc3605b491ea1636703d", func := "loop.example/g03407/laws.FnLevels", spec := "fnLevels", recurses := true, apart := false, narrowed := true }
def FnLevelsUptoSaid : Prop := fnLevelsUptoRow.holds Try.pinned (OpenSpec.upto fnLevelsSpec)

/-- 'laws.FnParents', WHERE WHAT IT READS IS OF BULK AT MOST 1048576: true; the input reads as it did. -/
def fnParentsUptoRow : OpenClaim := { program := "ytjhjedfnjimflaa", sum := "8548bc466e340feda13932f53fec7db96aa21f4d4171bc3605b491ea1636703d", func := "loop.example/g03407/laws.FnParents", spec := "fnParents", recurses := true, apart := false, narrowed := true }
def FnParentsUptoSaid : Prop := fnParentsUptoRow.holds Try.pinned (OpenSpec.upto fnParentsSpec)

/-- 'laws.FnChanges', WHERE WHAT IT READS IS OF BULK AT MOST 1048576: true; the input reads as it did. -/
def fnChangesUptoRow : OpenClaim := { program := "ytjhjedfnjimflaa", sum := "8548bc466e340feda13932f53fec7db96aa21f4d4171bc3605b491ea1636703d", func := "loop.example/g03407/laws.FnChanges", spec := "fnChanges", recurses := true, apart := false, narrowed := true }
def FnChangesUptoSaid : Prop := fnChangesUptoRow.holds Try.pinned (OpenSpec.upto fnChangesSpec)

/-- 'laws.FnChangesJoined', WHERE WHAT IT READS IS OF BULK AT MOST 1048576: true; the input reads as it did. -/
def fnChangesJoinedUptoRow : OpenClaim := { program := "ytjhjedfnjimflaa", sum := "8548bc466e340feda13932f53fec7db96aa21f4d4171bc3605b491ea1636703d", func := "loop.example/g03407/laws.FnChangesJoined", spec := "fnChangesJoined", recurses := true, apart := false, narrowed := true }
def FnChangesJoinedUptoSaid : Prop := fnChangesJoinedUptoRow.holds Try.pinned (OpenSpec.upto fnChangesJoinedSpec)

/-- 'laws.FnLinear', WHERE WHAT IT READS IS OF BULK AT MOST 1048576: true; the input reads as it did. -/
def fnLinearUptoRow : OpenClaim := { program := "ytjhjedfnjimflaa", sum := "8548bc466e340feda13932f53fec7db96aa21f4d4171bc3605b491ea1636703d", func := "loop.example/g03407/laws.FnLinear", spec := "fnLinear", unfollowed := true, recurses := true, apart := false, narrowed := true }
def FnLinearUptoSaid : Prop := fnLinearUptoRow.holds Try.pinned (OpenSpec.upto fnLinearSpec)

/-- 'laws.FnPhantoms', WHERE WHAT IT READS IS OF BULK AT MOST 1048576: true; the input reads as it did. -/
def fnPhantomsUptoRow : OpenClaim := { program := "ytjhjedfnjimflaa", sum := "8548bc466e340feda13932f53fec7db96aa21f4d4171bc3605b491ea1636703d", func := "loop.example/g03407/laws.FnPhantoms", spec := "fnPhantoms", unfollowed := true, recurses := true, apart := false, narrowed := true }
def FnPhantomsUptoSaid : Prop := fnPhantomsUptoRow.holds Try.pinned (OpenSpec.upto fnPhantomsSpec)

/-- 'laws.FnExactQuantityIn', WHERE WHAT IT READS IS OF BULK AT MOST 1048576: true; the input reads as it did. -/
def fnExactQuantityInUptoRow : OpenClaim := { program := "ytjhjedfnjimflaa", sum := "8548bc466e340feda13932f53fec7db96aa21f4d4171bc3605b491ea1636703d", func := "loop.example/g03407/laws.FnExactQuantityIn", spec := "fnExactQuantityIn", apart := false, narrowed := true }
def FnExactQuantityInUptoSaid : Prop := fnExactQuantityInUptoRow.holds Try.pinned (OpenSpec.upto fnExactQuantityInSpec)

/-- 'laws.FnExplosion', WHERE WHAT IT READS IS OF BULK AT MOST 1048576: true; the input reads as it did. -/
def fnExplosionUptoRow : OpenClaim := { program := "ytjhjedfnjimflaa", sum := "8548bc466e340feda13932f53fec7db96aa21f4d4171bc3605b491ea1636703d", func := "loop.example/g03407/laws.FnExplosion", spec := "fnExplosion", unfollowed := true, recurses := true, apart := false, narrowed := true }
def FnExplosionUptoSaid : Prop := fnExplosionUptoRow.holds Try.pinned (OpenSpec.upto fnExplosionSpec)

end Rows
end Go.Proofs.Ytjhjedfnjimflaa
