/- Contracts of functions of the program, at this seat: what each call returns, by its arguments as data; each states its own conditions. -/
import Derived.Test.YthfagmoaoihhpaaXD
namespace Go.DL
set_option maxRecDepth 100000
set_option maxHeartbeats 2000000
set_option linter.unusedSimpArgs false
set_option linter.unusedVariables false
open Go.RowKit Go.Proofs Go.Proofs.Ythfagmoaoihhpaa

/-! What holds of conflicts and of open values. -/
theorem comp_mono {m : ModelV} {a b : List PickV} (hb : isPartialP m b) (h : ∀ x ∈ b, x ∈ a) (hc : compP m a) : compP m b := by
  refine ⟨hb, fun e => hc.2 ?_⟩
  rw [allN_con hb] at e
  rw [allN_con hc.1]
  rw [List.filter_eq_nil_iff] at e ⊢
  intro c hcm ht
  exact e c hcm (tr_t fun p hp => tr_iff.1 ht p (h p hp))
theorem erase_sub {l : List PickV} {i : Nat} {x : PickV} (h : x ∈ l.eraseIdx i) : x ∈ l := List.mem_of_mem_eraseIdx h
theorem erase_two {l : List PickV} {i j : Nat} (h : j < i) : ∀ x ∈ (l.eraseIdx i).eraseIdx j, x ∈ l.eraseIdx j := fun x hx => by
  obtain ⟨k, hk⟩ := List.getElem?_of_mem hx
  rw [List.getElem?_eraseIdx] at hk
  by_cases h1 : k < j
  · rw [if_pos h1, List.getElem?_eraseIdx, if_pos (by omega)] at hk
    exact List.mem_of_getElem? (i := k) (by rw [List.getElem?_eraseIdx, if_pos h1]; exact hk)
  · rw [if_neg h1, List.getElem?_eraseIdx] at hk
    by_cases h2 : k + 1 < i
    · rw [if_pos h2] at hk
      exact List.mem_of_getElem? (i := k) (by rw [List.getElem?_eraseIdx, if_neg h1]; exact hk)
    · rw [if_neg h2] at hk
      exact List.mem_of_getElem? (i := k + 1) (by rw [List.getElem?_eraseIdx, if_neg (by omega)]; exact hk)
theorem conf_inv {m : ModelV} : ∀ (n : Nat) (l : List PickV) (i : Nat), n = l.length - i → i ≤ l.length → isPartialP m l → ¬ compP m l → (∀ j < i, compP m (l.eraseIdx j)) →
    isPartialP m (confF m n l i) ∧ ¬ compP m (confF m n l i) ∧ (∀ x ∈ confF m n l i, x ∈ l) ∧ ∀ j < (confF m n l i).length, compP m ((confF m n l i).eraseIdx j)
  | 0, l, i, hn, hi, hp, hc, ha => ⟨hp, hc, fun x h => h, fun j hj => ha j (by have : j < l.length := hj; omega)⟩
  | n + 1, l, i, hn, hi, hp, hc, ha => by
    by_cases h : compP m (l.eraseIdx i)
    · rw [show confF m (n + 1) l i = _ from ifP_t h]
      refine conf_inv n l (i + 1) (by omega) (by omega) hp hc fun j hj => ?_
      by_cases e : j = i
      · subst e; exact h
      · exact ha j (by omega)
    · rw [show confF m (n + 1) l i = _ from ifP_f h]
      have hl : (l.eraseIdx i).length = l.length - 1 := List.length_eraseIdx_of_lt (by omega)
      obtain ⟨a, b, c, d⟩ := conf_inv n (l.eraseIdx i) i (by omega) (by omega) (partial_erase hp i) h fun j hj =>
        comp_mono (partial_erase (partial_erase hp i) j) (erase_two hj) (ha j hj)
      exact ⟨a, b, fun x hx => erase_sub (c x hx), d⟩
theorem conf_law {m : ModelV} {p : List PickV} (h : conflictP m p) : isPartialP m (confV m p) ∧ ¬ compP m (confV m p) ∧ (∀ x ∈ confV m p, x ∈ p) ∧ ∀ j < (confV m p).length, compP m ((confV m p).eraseIdx j) := by
  rw [show confV m p = _ from ifP_t h]
  exact conf_inv p.length p 0 (by omega) (by omega) h.1 h.2 fun j hj => absurd hj (Nat.not_lt_zero _)

theorem comp_iff {m : ModelV} {p : List PickV} (hp : isPartialP m p) : compP m p ↔ ∃ c ∈ choicesN m, conP p c := by
  constructor
  · intro h
    have h1 := h.2
    rw [allN_con hp] at h1
    obtain ⟨c, hc⟩ := List.exists_mem_of_ne_nil _ h1
    obtain ⟨h2, h3⟩ := List.mem_filter.1 hc
    exact ⟨c, h2, tr_iff.1 h3⟩
  · rintro ⟨c, h2, h3⟩
    refine ⟨hp, fun e => ?_⟩
    rw [allN_con hp, List.filter_eq_nil_iff] at e
    exact e c h2 (tr_t h3)
/-- The first choice that has all picks. -/
theorem comp_first {m : ModelV} {p : List PickV} (hp : isPartialP m p) {i : Nat} {c : List PickV} (hc : (choicesN m)[i]? = some c) (hn : ∀ j < i, ∀ x, (choicesN m)[j]? = some x → ¬ conP p x) (h : conP p c) : compP m p ∧ compV m p = c := by
  refine ⟨(comp_iff hp).2 ⟨c, get_mem hc, h⟩, ?_⟩
  rw [show compV m p = _ from ifP_t hp, allN_con hp, head_at (f := fun c => tr (conP p c)) hc ?_ (tr_t h)]
  · rfl
  · rw [List.filter_eq_nil_iff]
    intro x hx ht
    obtain ⟨j, hj⟩ := List.getElem?_of_mem hx
    obtain ⟨h1, h2⟩ := get_take hj
    exact hn j h2 x h1 (tr_iff.1 ht)
theorem comp_con {m : ModelV} {p : List PickV} (h : compP m p) : conP p (compV m p) := by
  have h1 := h.2
  rw [allN_con h.1] at h1
  rw [show compV m p = _ from ifP_t h.1, allN_con h.1]
  generalize hl : (choicesN m).filter (fun c => tr (conP p c)) = l at h1
  cases l with
  | nil => exact absurd rfl h1
  | cons c l =>
    have : c ∈ (choicesN m).filter (fun c => tr (conP p c)) := by rw [hl]; simp
    exact tr_iff.1 (List.mem_filter.1 this).2
/-- A choice's picks, by option. -/
theorem choice_at {m : ModelV} (hm : isModelP m) {c : List PickV} (hc : c ∈ choicesN m) {k : Nat} {q : PickV} (hq : c[k]? = some q) : ∃ o, m.options[k]? = some o ∧ q.option = o.name ∧ q.value ∈ o.values ∧ optIdx m q.option = (k : Int) := by
  have hf : fullP m.options c := mem_rowsN.1 (List.mem_filter.1 hc).1
  have hkl := get_lt hq
  have ho : m.options[k]? = some (m.options[k]'(by rw [← hf.1]; exact hkl)) := List.getElem?_eq_getElem _
  generalize m.options[k]'(by rw [← hf.1]; exact hkl) = o at ho
  obtain ⟨h1, h2⟩ := hf.2 k o q ho hq
  refine ⟨o, ho, h1, h2, ?_⟩
  rcases findP_cases (fun x : OptV => x.name = q.option) m.options with ⟨h3, h4⟩ | ⟨j, x, h3, h4, h5, _⟩
  · exact absurd h1.symm (h4 o (get_mem ho))
  · have : j = k := names_uniq hm h4 ho (by rw [show x.name = q.option from h5, h1])
    subst this
    exact h3
theorem open_of {m : ModelV} {p : List PickV} {o : ByteArray} (hp : isPartialP m p) {c : List PickV} (hc : c ∈ choicesN m) (hcon : conP p c) {k : Nat} {q : PickV} (hq : c[k]? = some q) (ho : q.option = o) : q.value ∈ openV m p o := by
  obtain ⟨op, h1, h2, h3, h4⟩ := choice_at hp.1 hc hq
  rw [ho] at h4
  have hin : openIn m p o := ⟨hp, by omega⟩
  rw [show openV m p o = _ from ifP_t hin, show (optIdx m o).toNat = k by omega, h1]
  exact List.mem_filter.2 ⟨h3, tr_t ⟨c, hc, hcon, q, hq, rfl⟩⟩
theorem of_open {m : ModelV} {p : List PickV} {o v : ByteArray} (hp : isPartialP m p) (h : v ∈ openV m p o) : ∃ c ∈ choicesN m, conP p c ∧ (⟨o, v⟩ : PickV) ∈ c := by
  by_cases hin : openIn m p o
  · rw [show openV m p o = _ from ifP_t hin] at h
    obtain ⟨k, op, hk, hop, hon⟩ := optIdx_nat hin.2
    rw [show (optIdx m o).toNat = k by omega] at h
    obtain ⟨c, hc, hcon, q, hq, hv⟩ := tr_iff.1 (List.mem_filter.1 h).2
    refine ⟨c, hc, hcon, ?_⟩
    obtain ⟨o', h1, h2, _, _⟩ := choice_at hp.1 hc hq
    rw [hop] at h1; cases h1
    have e : q = ⟨o, v⟩ := by
      obtain ⟨a, b⟩ := q
      simp only at h2 hv
      rw [hv, h2, hon]
    rw [← e]; exact get_mem hq
  · rw [show openV m p o = _ from ifP_f hin] at h; simp at h
/-- A value that is open goes with the picks, or is picked already. -/
theorem open_fits {m : ModelV} {p : List PickV} {o v : ByteArray} (hp : isPartialP m p) (h : v ∈ openV m p o) : compP m (p ++ [⟨o, v⟩]) ∨ (compP m p ∧ (⟨o, v⟩ : PickV) ∈ p) := by
  obtain ⟨c, hc, hcon, hm⟩ := of_open hp h
  have hcp : compP m p := (comp_iff hp).2 ⟨c, hc, hcon⟩
  obtain ⟨k, hk⟩ := List.getElem?_of_mem hm
  obtain ⟨op, h1, h2, h3, h4⟩ := choice_at hp.1 hc hk
  by_cases hx : ∃ q ∈ p, q.option = o
  · right
    refine ⟨hcp, ?_⟩
    obtain ⟨q, hq, hqo⟩ := hx
    have hqc := hcon q hq
    obtain ⟨j, hj⟩ := List.getElem?_of_mem hqc
    obtain ⟨op2, g1, g2, _, g4⟩ := choice_at hp.1 hc hj
    rw [hqo] at g4
    have : j = k := by simp only at h4; omega
    subst this
    rw [hj] at hk
    rw [← Option.some.inj hk]; exact hq
  · left
    have hpart : isPartialP m (p ++ [⟨o, v⟩]) := by
      refine ⟨hp.1, fun j x hj => ?_⟩
      by_cases hjl : j < p.length
      · rw [List.getElem?_append_left hjl] at hj
        obtain ⟨a, b⟩ := hp.2 j x hj
        refine ⟨a, fun i hi y hy => ?_⟩
        rw [List.getElem?_append_left (by omega)] at hy
        exact b i hi y hy
      · rw [List.getElem?_append_right (by omega)] at hj
        have hx2 : x = ⟨o, v⟩ := by
          have := List.mem_of_getElem? hj
          simpa using this
        have hjl2 : j = p.length := by have := get_lt hj; simp at this; omega
        subst hx2
        refine ⟨⟨k, op, h4, h1, ?_⟩, fun i hi y hy he => ?_⟩
        · rcases findP_cases (fun x => x = v) op.values with ⟨g1, g2⟩ | ⟨i, x, g1, _, _, _⟩
          · exact absurd rfl (g2 v h3)
          · simp only at g1 ⊢; omega
        · rw [List.getElem?_append_left (by omega)] at hy
          exact hx ⟨y, get_mem hy, he⟩
    refine (comp_iff hpart).2 ⟨c, hc, fun x hx => ?_⟩
    rcases List.mem_append.1 hx with hx | hx
    · exact hcon x hx
    · rw [List.mem_singleton.1 hx]; exact hm

end Go.DL
