/- Contracts of functions of the program, at this seat: what each call returns, by its arguments as data; each states its own conditions. -/
import Derived.Test.YthifncefbpmdiaaZ1
namespace Go.DL
set_option maxRecDepth 100000
set_option maxHeartbeats 2000000
set_option linter.unusedSimpArgs false
set_option linter.unusedVariables false
open Go.RowKit Go.Proofs Go.Proofs.Ythifncefbpmdiaa

theorem ord_mem {n : Nat} {f : Nat → Int} {i : Nat} : i ∈ ordN n f ↔ i < n ∧ ∃ v < n, f i = (v : Int) := by
  unfold ordN ordRow
  simp only [List.mem_flatMap, List.mem_filter, List.mem_range, tr_iff]
  exact ⟨fun ⟨v, h1, h2, h3⟩ => ⟨h2, v, h1, h3⟩, fun ⟨h2, v, h1, h3⟩ => ⟨v, h1, h2, h3⟩⟩
theorem ord_pair (n : Nat) (f : Nat → Int) : (ordN n f).Pairwise (fun a b => f a ≤ f b ∧ a ≠ b) := by
  unfold ordN
  rw [List.pairwise_flatMap]
  refine ⟨fun v _ => ?_, ?_⟩
  · unfold ordRow
    have h1 : (List.range n).Pairwise (fun a b => a ≠ b) := List.nodup_range
    refine (h1.filter _).imp_of_mem fun {a b} ha hb hab => ⟨?_, hab⟩
    have ha := tr_iff.1 (List.mem_filter.1 ha).2
    have hb := tr_iff.1 (List.mem_filter.1 hb).2
    omega
  · refine (List.pairwise_lt_range (n := n)).imp fun {v w} hvw a ha b hb => ?_
    have ha := tr_iff.1 (List.mem_filter.1 ha).2
    have hb := tr_iff.1 (List.mem_filter.1 hb).2
    refine ⟨by omega, fun e => ?_⟩
    subst e; omega
theorem ord_len (n : Nat) (f : Nat → Int) : (ordN n f).length ≤ n * n := by
  have := flat_bound (f := ordRow n f) (b := n) (l := List.range n) (fun x _ => Nat.le_trans (List.length_filter_le _ _) (by simp))
  rw [List.length_range] at this
  exact this
/-- What stands behind an item in the order. -/
theorem ord_after {n : Nat} {f : Nat → Int} {k p : Nat} (hp : (ordN n f)[k]? = some p) : p ∉ (ordN n f).drop (k + 1) ∧ ∀ q ∈ ordN n f, f p < f q → q ∈ (ordN n f).drop (k + 1) := by
  have hpw := ord_pair n f
  have hk := get_lt hp
  have hs : ordN n f = (ordN n f).take k ++ p :: (ordN n f).drop (k + 1) := by
    rw [show p = (ordN n f)[k]'hk from (by rw [List.getElem?_eq_getElem hk] at hp; exact (Option.some.inj hp).symm), List.getElem_cons_drop, List.take_append_drop]
  generalize (ordN n f).drop (k + 1) = t at hs ⊢
  generalize (ordN n f).take k = r at hs
  rw [hs, List.pairwise_append] at hpw
  obtain ⟨_, h2, h3⟩ := hpw
  rw [List.pairwise_cons] at h2
  refine ⟨fun h => (h2.1 p h).2 rfl, fun q hq hlt => ?_⟩
  rw [hs] at hq
  rcases List.mem_append.1 hq with h | h
  · have := (h3 q h p (by simp)).1; omega
  · rcases List.mem_cons.1 h with rfl | h
    · omega
    · exact h
theorem drop_at {α : Type} {l : List α} {k : Nat} {p : α} (h : l[k]? = some p) : l.drop k = p :: l.drop (k + 1) := by
  have hk := get_lt h
  rw [show p = l[k]'hk from (by rw [List.getElem?_eq_getElem hk] at h; exact (Option.some.inj h).symm), List.getElem_cons_drop]
theorem enc_zero {w : Int} (h : 0 ≤ w) : encN w = 0 ↔ w = 0 := by
  rcases enc_cases w with ⟨_, e⟩ | ⟨_, e⟩ <;> rw [e] <;> omega
/-- What the lines of an item bring, as far as they are in force. -/
noncomputable def partL (cat : List ItemV) (lines : List LineV) (day : Int) (c : List PickV) (S : Nat → Int) (p i : Nat) : Int := partW (edQ cat (activeN day c (lines.take i))) S p
theorem partL_y {cat : List ItemV} {lines : List LineV} {day : Int} {c : List PickV} {S : Nat → Int} {p i : Nat} {x : LineV} (hx : lines[i]? = some x) (h1 : onP day c x) (h2 : (idxOf cat x.parent).toNat = p) : partL cat lines day c S p (i + 1) = partL cat lines day c S p i + x.quantity * S (idxOf cat x.part).toNat := by
  unfold partL activeN partW edQ
  rw [filter_y hx (show onB day c x = true from tr_t h1), List.map_append, sumI_append]
  simp [sumI, h2]
theorem partL_n {cat : List ItemV} {lines : List LineV} {day : Int} {c : List PickV} {S : Nat → Int} {p i : Nat} {x : LineV} (hx : lines[i]? = some x) (h : ¬ (onP day c x ∧ (idxOf cat x.parent).toNat = p)) : partL cat lines day c S p (i + 1) = partL cat lines day c S p i := by
  unfold partL activeN partW edQ
  by_cases h1 : onP day c x
  · rw [filter_y hx (show onB day c x = true from tr_t h1), List.map_append, sumI_append]
    have h2 : (idxOf cat x.parent).toNat ≠ p := fun e => h ⟨h1, e⟩
    simp [sumI, h2]
  · rw [filter_n hx (show onB day c x = false from tr_f h1)]
theorem partL_zero (cat : List ItemV) (lines : List LineV) (day : Int) (c : List PickV) (S : Nat → Int) (p : Nat) : partL cat lines day c S p 0 = 0 := by simp [partL, activeN, edQ, partW, sumI]
theorem partL_nn {cat : List ItemV} {lines act : List LineV} {day : Int} {c : List PickV} (h : ActOK cat lines act) {S : Nat → Int} (hS : ∀ i, 0 ≤ S i) (p i : Nat) : 0 ≤ partL cat lines day c S p i := by
  refine sumI_nonneg fun e he => ?_
  obtain ⟨x, hx, rfl⟩ := List.mem_map.1 he
  have hq := (h.line x (List.mem_of_mem_take (active_sub x hx))).2.2.2.1
  unfold inP at hq
  split
  · exact Int.mul_nonneg (by show 0 ≤ x.quantity; omega) (hS _)
  · omega
theorem partL_full {cat : List ItemV} {lines : List LineV} {day : Int} {c : List PickV} {S : Nat → Int} {p i : Nat} (h : lines.length ≤ i) : partL cat lines day c S p i = partW (edQ cat (activeN day c lines)) S p := by
  unfold partL; rw [List.take_of_length_le h]
theorem sol_self {E : List EQ} {b : Nat} {f S : Nat → Int} (h : SolW E b f S) (hf : ∀ e ∈ E, f e.1 < f e.2.1) : partW E S b = 0 :=
  sumI_zero fun e he => by
    split
    · rename_i e1
      have := hf e he
      rw [h.up e.2.1 (by rw [← e1]; exact this), Int.mul_zero]
    · rfl

end Go.DL
