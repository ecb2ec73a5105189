/- Contracts of functions of the program, at this seat: what each call returns, by its arguments as data; each states its own conditions. -/
import Derived.Test.YtamhoddnnifbiaaK
namespace Go.DL
set_option maxRecDepth 100000
set_option maxHeartbeats 2000000
set_option linter.unusedSimpArgs false
set_option linter.unusedVariables false
open Go.RowKit Go.Proofs Go.Proofs.Ytamhoddnnifbiaa

def pickAt (m : ModelV) (p : PickV) : Prop := ∃ (k : Nat) (o : OptV), optIdx m p.option = (k : Int) ∧ m.options[k]? = some o ∧ 0 ≤ findP (fun x => x = p.value) o.values
def isPickAt (m : ModelV) (l : List PickV) (i : Nat) (p : PickV) : Prop := pickAt m p ∧ AllB l (fun _ q => ¬ q.option = p.option) i
def isPartialP (m : ModelV) (l : List PickV) : Prop := isModelP m ∧ allP l (isPickAt m l)
theorem optIdx_nat {m : ModelV} {s : ByteArray} (h : 0 ≤ optIdx m s) : ∃ (k : Nat) (o : OptV), optIdx m s = (k : Int) ∧ m.options[k]? = some o ∧ o.name = s := by
  rcases findP_cases (fun o : OptV => o.name = s) m.options with ⟨h1, _⟩ | ⟨i, x, h1, h2, h3, _⟩
  · unfold optIdx at h; omega
  · exact ⟨i, x, h1, h2, h3⟩

end Go.DL
