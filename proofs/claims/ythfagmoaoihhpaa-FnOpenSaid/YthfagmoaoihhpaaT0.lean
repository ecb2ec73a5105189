/- Contracts of functions of the program, at this seat: what each call returns, by its arguments as data; each states its own conditions. -/
import Derived.Test.YthfagmoaoihhpaaT
namespace Go.DL
set_option maxRecDepth 100000
set_option maxHeartbeats 2000000
set_option linter.unusedSimpArgs false
set_option linter.unusedVariables false
open Go.RowKit Go.Proofs Go.Proofs.Ythfagmoaoihhpaa

theorem pureD_clean {d : D} (h : PureD d) : Clean d := by
  induction h with
  | sc v => exact .sc v
  | nil => exact .sl []
  | own e sz xs h ih => exact .own e sz xs ih
theorem PureL.clean {xs : List D} (h : PureL xs) : CleanL xs := fun d hd => pureD_clean (h d hd)
theorem pureL_map {α : Type} {f : α → D} (h : ∀ x, ∀ d ∈ (f x).fl, PureD d) (l : List α) : PureL (l.map f) := fun d hd => by
  obtain ⟨x, hx, hd⟩ := List.mem_flatMap.1 hd
  obtain ⟨y, _, rfl⟩ := List.mem_map.1 hx
  exact h y d hd
theorem pureL_append {a b : List D} (h : PureL a) (k : PureL b) : PureL (a ++ b) := fun d hd => by
  rw [fl_append] at hd
  exact (List.mem_append.1 hd).elim (h d) (k d)
theorem pureL_cons {x : D} {b : List D} (h : ∀ d ∈ x.fl, PureD d) (k : PureL b) : PureL (x :: b) := fun d hd => by
  rw [fl_cons] at hd
  exact (List.mem_append.1 hd).elim (h d) (k d)
theorem pureL_nil : PureL [] := fun d hd => by simp [fl] at hd
theorem pureL_rep {z : D} (n : Nat) (h : ∀ d ∈ z.fl, PureD d) : PureL (List.replicate n z) := fun d hd => by
  obtain ⟨x, hx, hd⟩ := List.mem_flatMap.1 hd
  rw [(List.mem_replicate.1 hx).2] at hd
  exact h d hd
theorem erase_flat {x : D} (h : FlatD x) : erase x = x := by
  cases x with
  | sc v => simp [erase]
  | agg fs =>
    have : eraseL fs = fs := by
      rw [eraseL_map]
      conv => rhs; rw [← List.map_id fs]
      refine List.map_congr_left fun f hf => ?_
      obtain ⟨v, rfl⟩ := h f hf
      simp [erase]
    simp [erase, this]
  | sl xs => exact h.elim
  | ref k m => exact h.elim
  | own e sz xs => exact h.elim
  | jk => exact h.elim
theorem eraseL_flat {xs : List D} (h : FlatL xs) : eraseL xs = xs := by
  rw [eraseL_map]
  conv => rhs; rw [← List.map_id xs]
  exact List.map_congr_left fun x hx => erase_flat (h x hx)
theorem eraseL_mapTo {α : Type} {f g : α → D} (h : ∀ x, erase (f x) = g x) (l : List α) : eraseL (l.map f) = l.map g := by
  rw [eraseL_map, List.map_map]
  exact List.map_congr_left fun x _ => h x
theorem flatL_map {α : Type} {f : α → D} (h : ∀ x, FlatD (f x)) (l : List α) : FlatL (l.map f) := fun d hd => by
  obtain ⟨y, _, rfl⟩ := List.mem_map.1 hd
  exact h y
theorem Contract.own_fr {P : Program} {f : FuncId} {as' : List A1} {A : Arr} (h : Contract P f as' (.one (.own A))) (hf : FlatL A.xs) : Contract P f as' (.one (.fr A)) := by
  refine ⟨h.ent, fun w M vs h1 h2 h3 => (h.run w M vs h1 h2 h3).mono fun e w' ⟨v, M', a, b, c, d, g, hp, cs, ho, hc, _⟩ => ⟨v, M', a, b, c, d, g, hp, cs, ho, hf.cells hc⟩⟩
theorem RVs.one {τ : Ab} {d d' : D} {u : List Nat} (h : RVc τ d d' u) : RVs τ [d] [d'] u := by
  have := RVs.cons h .nil
  simpa using this
theorem flat_plain {xs : List D} (h : FlatL xs) : plainL xs := fun d hd => by
  have := h.pure d hd
  cases this with
  | sc v => rfl
  | nil => rfl
  | own e sz ys h2 =>
    obtain ⟨x, hx, hd⟩ := List.mem_flatMap.1 hd
    have hf := h x hx
    cases x with
    | sc v => rw [List.mem_singleton.1 hd]; rfl
    | agg fs => obtain ⟨v, e⟩ := hf _ hd; cases e
    | sl ys => exact hf.elim
    | ref k m => exact hf.elim
    | own e z ys => exact hf.elim
    | jk => exact hf.elim

end Go.DL
