/- Contracts of functions of the program, at this seat: what each call returns, by its arguments as data; each states its own conditions. -/
import Derived.Test.YthifncefbpmdiaaP8
namespace Go.DL
set_option maxRecDepth 100000
set_option maxHeartbeats 2000000
set_option linter.unusedSimpArgs false
set_option linter.unusedVariables false
open Go.RowKit Go.Proofs Go.Proofs.Ythifncefbpmdiaa

/-! Changes. -/
def stopB (x : ChangeV) (l : LineV) : LineV := { l with stop := x.day - 1 }
open Classical in
noncomputable def newL (x : ChangeV) (l : LineV) : LineV := { l with start := Max.max l.start x.day, part := x.new, quantity := if x.quantity = 0 then l.quantity else x.quantity }
def offP (x : ChangeV) (l : LineV) : Prop := l.parent ≠ x.parent ∨ l.part ≠ x.old ∨ l.stop < x.day
open Classical in
noncomputable def changeN (x : ChangeV) (l : LineV) : List LineV := if offP x l then [l] else (if l.start < x.day then [stopB x l] else []) ++ (if x.new = ⟨#[]⟩ then [] else [newL x l])
noncomputable def appN (x : ChangeV) (lines : List LineV) : List LineV := lines.flatMap (changeN x)
def applyP (cat : List ItemV) (lines : List LineV) (x : ChangeV) : Prop := isBillsP cat lines ∧ isChangeP cat x ∧ isBillsP cat (appN x lines)
theorem change_len (x : ChangeV) (l : LineV) : (changeN x l).length ≤ 2 := by
  unfold changeN
  split
  · simp
  · split <;> split <;> simp
theorem changeN_off {x : ChangeV} {l : LineV} (h : offP x l) : changeN x l = [l] := by unfold changeN; rw [if_pos h]
theorem changeN_on {x : ChangeV} {l : LineV} (h : ¬ offP x l) : (l.start < x.day → x.new = ⟨#[]⟩ → changeN x l = [stopB x l]) ∧ (l.start < x.day → x.new ≠ ⟨#[]⟩ → changeN x l = [stopB x l, newL x l]) ∧ (¬ l.start < x.day → x.new = ⟨#[]⟩ → changeN x l = []) ∧ (¬ l.start < x.day → x.new ≠ ⟨#[]⟩ → changeN x l = [newL x l]) := by
  unfold changeN
  rw [if_neg h]
  refine ⟨fun h1 h2 => ?_, fun h1 h2 => ?_, fun h1 h2 => ?_, fun h1 h2 => ?_⟩
  · rw [if_pos h1, if_pos h2]; rfl
  · rw [if_pos h1, if_neg h2]; rfl
  · rw [if_neg h1, if_pos h2]; rfl
  · rw [if_neg h1, if_neg h2]; rfl
theorem stopB_ok {x : ChangeV} {l : LineV} (h : l.ok) (hd : inP x.day 0 999) : (stopB x l).ok := by
  have h1 := hd.1
  have h2 := hd.2
  exact ⟨h.1, h.2.1, h.2.2.1, h.2.2.2.1, by show okI (x.day - 1); unfold okI; omega, h.2.2.2.2.2⟩
theorem newL_ok {x : ChangeV} {l : LineV} (h : l.ok) (hx : x.ok) (hd : inP x.day 0 999) : (newL x l).ok := by
  have h1 := hd.1
  have h2 := hd.2
  have h3 := h.2.2.2.1
  unfold okI at h3
  refine ⟨h.1, hx.2.2.2.1, ?_, ?_, h.2.2.2.2⟩
  · show okI (newL x l).quantity
    unfold newL
    dsimp only
    split
    · exact h.2.2.1
    · exact hx.2.2.2.2
  · show okI (Max.max l.start x.day); unfold okI; omega
theorem change_ok {x : ChangeV} {l : LineV} (h : l.ok) (hx : x.ok) (hd : inP x.day 0 999) : ∀ y ∈ changeN x l, y.ok := by
  intro y hy
  unfold changeN at hy
  split at hy
  · simp at hy; subst hy; exact h
  · rcases List.mem_append.1 hy with hy | hy
    · split at hy
      · simp at hy; subst hy; exact stopB_ok h hd
      · simp at hy
    · split at hy
      · simp at hy
      · simp at hy; subst hy; exact newL_ok h hx hd
theorem app_len (x : ChangeV) (lines : List LineV) : (appN x lines).length ≤ lines.length * 2 := flat_bound fun l _ => change_len x l
theorem app_ok {x : ChangeV} {lines : List LineV} (h : okL LineV.ok lines) (hn : lines.length ≤ 1000) (hx : x.ok) (hd : inP x.day 0 999) : okL LineV.ok (appN x lines) := by
  have h2 := app_len x lines
  refine ⟨by omega, fun y hy => ?_⟩
  obtain ⟨l, h3, h4⟩ := List.mem_flatMap.1 hy
  exact change_ok (h.2 l h3) hx hd y h4
theorem appN_take_len (x : ChangeV) (lines : List LineV) (i : Nat) : (appN x (lines.take i)).length ≤ lines.length * 2 := Nat.le_trans (app_len x _) (by simp; omega)
theorem appN_snoc {x : ChangeV} {lines : List LineV} {i : Nat} {l : LineV} (h : lines[i]? = some l) : appN x (lines.take (i + 1)) = appN x (lines.take i) ++ changeN x l := flat_snoc h
theorem sl_of {x : LineV} (h : isCondP x.when) : x.when.length ≤ 30 := h.1

end Go.DL
