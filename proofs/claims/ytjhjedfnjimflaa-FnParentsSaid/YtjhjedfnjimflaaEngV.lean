/- Part of an evaluator of Go code on plain data, proved sound for the model: lemmas alone, for every program; each states its own conditions. -/
import Derived.Test.YtjhjedfnjimflaaEngU
import Derived.Laws.Strings
namespace Go.DL
open Go.RowKit

/-! ### Facts for the walks -/
theorem ltB_eq (a b : Int) : ltB a b = decide (a < b) := by unfold ltB; rfl
theorem leB_eq (a b : Int) : leB a b = decide (a ≤ b) := by unfold leB; rfl
theorem eqB_eq (a b : Int) : eqB a b = decide (a = b) := by
  unfold eqB
  by_cases h : a = b
  · simp [h]
  · simp [h]
theorem strEq_eq (a b : ByteArray) : strEq a b = decide (a = b) := by
  unfold strEq
  by_cases h : a = b
  · simp [h]
  · have : a.toList ≠ b.toList := fun e => h (by
      cases a with | mk a =>
      cases b with | mk b =>
      congr
      rw [ByteArray.toList_eq, ByteArray.toList_eq] at e
      exact Array.toList_inj.1 e)
    simp [h, this]
theorem sc_bool {b c : Bool} (h : b = c) : D.sc (.bool b) = D.sc (.bool c) := by rw [h]
theorem sc_dec {b : Bool} {p : Prop} [Decidable p] (h : b = true ↔ p) : D.sc (.bool b) = D.sc (.bool (decide p)) := by
  congr
  cases b <;> simp_all

abbrev iD (n : Int) : D := .sc (.int .i64 n)
abbrev bD (b : Bool) : D := .sc (.bool b)
abbrev sD (s : ByteArray) : D := .sc (.string s)

theorem brLt {a b : Int} {A B : Prop} (h1 : a < b → A) (h2 : b ≤ a → B) : brM (ltB a b) A B := brM_intro (fun h => h1 (by simpa [ltB_eq] using h)) (fun h => h2 (by simpa [ltB_eq] using h))
theorem brLe {a b : Int} {A B : Prop} (h1 : a ≤ b → A) (h2 : b < a → B) : brM (leB a b) A B := brM_intro (fun h => h1 (by simpa [leB_eq] using h)) (fun h => h2 (by simpa [leB_eq] using h))
theorem brEq {a b : Int} {A B : Prop} (h1 : a = b → A) (h2 : a ≠ b → B) : brM (eqB a b) A B := brM_intro (fun h => h1 (by simpa [eqB_eq] using h)) (fun h => h2 (by simpa [eqB_eq] using h))
theorem brStr {a b : ByteArray} {A B : Prop} (h1 : a = b → A) (h2 : a ≠ b → B) : brM (strEq a b) A B := brM_intro (fun h => h1 (by simpa [strEq_eq] using h)) (fun h => h2 (by simpa [strEq_eq] using h))
theorem brNLt {a b : Int} {A B : Prop} (h1 : a < b → B) (h2 : b ≤ a → A) : brM (!ltB a b) A B := brM_intro (fun h => h2 (by simpa [ltB_eq] using h)) (fun h => h1 (by simpa [ltB_eq] using h))
theorem brNLe {a b : Int} {A B : Prop} (h1 : a ≤ b → B) (h2 : b < a → A) : brM (!leB a b) A B := brM_intro (fun h => h2 (by simpa [leB_eq] using h)) (fun h => h1 (by simpa [leB_eq] using h))
theorem brNEq {a b : Int} {A B : Prop} (h1 : a = b → B) (h2 : a ≠ b → A) : brM (!eqB a b) A B := brM_intro (fun h => h2 (by simpa [eqB_eq] using h)) (fun h => h1 (by simpa [eqB_eq] using h))
theorem brNStr {a b : ByteArray} {A B : Prop} (h1 : a = b → B) (h2 : a ≠ b → A) : brM (!strEq a b) A B := brM_intro (fun h => h2 (by simpa [strEq_eq] using h)) (fun h => h1 (by simpa [strEq_eq] using h))
theorem brDec {p : Prop} [Decidable p] {A B : Prop} (h1 : p → A) (h2 : ¬p → B) : brM (decide p) A B := brM_intro (fun h => h1 (by simpa using h)) (fun h => h2 (by simpa using h))
theorem brNDec {p : Prop} [Decidable p] {A B : Prop} (h1 : p → B) (h2 : ¬p → A) : brM (!decide p) A B := brM_intro (fun h => h2 (by simpa using h)) (fun h => h1 (by simpa using h))

theorem StrK_lt {s : ByteArray} {j : Int} {K : UInt8 → Prop} (i : Nat) (hj : j = i) (h : i < s.size) (hK : ∀ b, s[i]? = some b → K b) : StrK s j K :=
  StrK_intro i hj (b := s[i]'h) (by simp [h]) (hK _ (by simp [h]))
theorem IxK_map {α : Type} {f : α → D} {xs : List α} {j : Int} {K : D → Prop} (i : Nat) (hj : j = i) {x : α} (h : xs[i]? = some x) (hK : K (f x)) : IxK (xs.map f) j K :=
  IxK_intro i hj (y := f x) (by simp [h]) hK
theorem IxK_mapLt {α : Type} {f : α → D} {xs : List α} {j : Int} {K : D → Prop} (i : Nat) (hj : j = i) (h : i < xs.length) (hK : ∀ x, xs[i]? = some x → K (f x)) : IxK (xs.map f) j K :=
  IxK_map i hj (x := xs[i]'h) (by simp [h]) (hK _ (by simp [h]))
end Go.DL
