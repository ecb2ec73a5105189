/- Contracts of functions of the program, at this seat: what each call returns, by its arguments as data; each states its own conditions. -/
import Derived.Test.YtamhoddnnifbiaaP1
import Derived.Test.YtamhoddnnifbiaaG
namespace Go.DL
set_option maxRecDepth 100000
set_option maxHeartbeats 2000000
set_option linter.unusedSimpArgs false
set_option linter.unusedVariables false
open Go.RowKit Go.Proofs Go.Proofs.Ytamhoddnnifbiaa

theorem okI_of {v n : Int} (h0 : 0 < n) (h : 0 < n → 0 ≤ v ∧ v < n) (hn : n ≤ 1000000) : okI v ∧ okI (1 + v) := by
  have := h h0; unfold okI; omega
def intsB : List D → Bool
  | [] => true
  | .sc (.int .i64 n) :: r => decide (-9223372036854775808 ≤ n) && decide (n ≤ 9223372036854775807) && intsB r
  | _ :: _ => false
theorem intsB_spec : ∀ {ds : List D}, intsB ds = true → ∃ l : List Int, ds = l.map iD ∧ ∀ n ∈ l, okI n
  | [], _ => ⟨[], rfl, fun n h => by simp at h⟩
  | d :: r, h => by
    unfold intsB at h
    split at h
    · rename_i e; cases e
    · rename_i n s e
      cases e
      simp only [Bool.and_eq_true, decide_eq_true_eq] at h
      obtain ⟨l, rfl, hl⟩ := intsB_spec h.2
      refine ⟨n :: l, rfl, fun m hm => ?_⟩
      rcases List.mem_cons.1 hm with rfl | hm
      · exact h.1
      · exact hl m hm
    · cases h
def strsB : List D → Bool
  | [] => true
  | .sc (.string s) :: r => Nat.ble s.size 1000 && strsB r
  | _ :: _ => false
theorem strsB_spec : ∀ {ds : List D}, strsB ds = true → ∃ l : List ByteArray, ds = l.map sD ∧ ∀ s ∈ l, s.size ≤ 1000
  | [], _ => ⟨[], rfl, fun n h => by simp at h⟩
  | d :: r, h => by
    unfold strsB at h
    split at h
    · rename_i e; cases e
    · rename_i n s e
      cases e
      simp only [Bool.and_eq_true] at h
      obtain ⟨l, rfl, hl⟩ := strsB_spec h.2
      refine ⟨n :: l, rfl, fun m hm => ?_⟩
      rcases List.mem_cons.1 hm with rfl | hm
      · exact Nat.le_of_ble_eq_true h.1
      · exact hl m hm
    · cases h
def lenB (ds : List D) : Bool := Nat.ble 1 ds.length && Nat.ble ds.length 1000
theorem lenB_spec {ds : List D} (h : lenB ds = true) : 0 < ds.length ∧ ds.length ≤ 1000 := by
  unfold lenB at h
  rw [Bool.and_eq_true] at h
  exact ⟨Nat.le_of_ble_eq_true h.1, Nat.le_of_ble_eq_true h.2⟩

end Go.DL
