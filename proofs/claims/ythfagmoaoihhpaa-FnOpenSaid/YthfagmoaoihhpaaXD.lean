/- Contracts of functions of the program, at this seat: what each call returns, by its arguments as data; each states its own conditions. -/
import Derived.Test.YthfagmoaoihhpaaXC
namespace Go.DL
set_option maxRecDepth 100000
set_option maxHeartbeats 2000000
set_option linter.unusedSimpArgs false
set_option linter.unusedVariables false
open Go.RowKit Go.Proofs Go.Proofs.Ythfagmoaoihhpaa

/-! What no choice has: the picks left when no more can go. -/
theorem partial_erase {m : ModelV} {l : List PickV} (h : isPartialP m l) (i : Nat) : isPartialP m (l.eraseIdx i) := by
  refine ⟨h.1, fun j p hj => ?_⟩
  rw [List.getElem?_eraseIdx] at hj
  have key : ∀ j', j' < j → ∀ x, (l.eraseIdx i)[j']? = some x → ∀ f, (f = if j < i then j else j + 1) → ∃ k, k < f ∧ l[k]? = some x := fun j' hlt x hx f hf => by
    rw [List.getElem?_eraseIdx] at hx
    subst hf
    by_cases h1 : j' < i
    · rw [if_pos h1] at hx
      exact ⟨j', by split <;> omega, hx⟩
    · rw [if_neg h1] at hx
      exact ⟨j' + 1, by split <;> omega, hx⟩
  have hf : l[if j < i then j else j + 1]? = some p := by
    by_cases h1 : j < i
    · rw [if_pos h1] at hj ⊢; exact hj
    · rw [if_neg h1] at hj ⊢; exact hj
  obtain ⟨h1, h2⟩ := h.2 _ p hf
  refine ⟨h1, fun j' hlt x hx => ?_⟩
  obtain ⟨k, hk, hx2⟩ := key j' hlt x hx _ rfl
  exact h2 k hk x hx2
theorem erase_ok {l : List PickV} (h : okL PickV.ok l) (i : Nat) : okL PickV.ok (l.eraseIdx i) := ⟨Nat.le_trans (List.length_eraseIdx_le l i) h.1, fun x hx => h.2 x (List.mem_of_mem_eraseIdx hx)⟩
noncomputable def confF (m : ModelV) : Nat → List PickV → Nat → List PickV
  | 0, l, _ => l
  | n + 1, l, i => ifP (compP m (l.eraseIdx i)) (confF m n l (i + 1)) (confF m n (l.eraseIdx i) i)
theorem confF_ok (m : ModelV) : ∀ (n : Nat) (l : List PickV) (i : Nat), okL PickV.ok l → okL PickV.ok (confF m n l i) ∧ (confF m n l i).length ≤ l.length
  | 0, l, i, h => ⟨h, Nat.le_refl _⟩
  | n + 1, l, i, h => by
    by_cases hc : compP m (l.eraseIdx i)
    · rw [show confF m (n + 1) l i = _ from ifP_t hc]; exact confF_ok m n l (i + 1) h
    · rw [show confF m (n + 1) l i = _ from ifP_f hc]
      obtain ⟨h1, h2⟩ := confF_ok m n (l.eraseIdx i) i (erase_ok h i)
      exact ⟨h1, Nat.le_trans h2 (List.length_eraseIdx_le l i)⟩
def conflictP (m : ModelV) (picks : List PickV) : Prop := isPartialP m picks ∧ ¬ compP m picks
noncomputable def confV (m : ModelV) (picks : List PickV) : List PickV := ifP (conflictP m picks) (confF m picks.length picks 0) []
theorem confV_ok (m : ModelV) (_ : m.ok) (picks : List PickV) (hp : okL PickV.ok picks) : okL PickV.ok (confV m picks) ∧ (confV m picks).length ≤ picks.length := by
  by_cases h : conflictP m picks
  · rw [show confV m picks = _ from ifP_t h]
    have := confF_ok m picks.length picks 0 hp
    exact this
  · rw [show confV m picks = _ from ifP_f h]; exact ⟨⟨by simp, by simp⟩, by simp⟩
theorem partial_len {m : ModelV} {l : List PickV} (h : isPartialP m l) : l.length ≤ 4 := by
  rcases Nat.lt_or_ge m.options.length l.length with hlt | hle
  · exfalso
    have at' : ∀ i, i ≤ m.options.length → ∃ p k o, l[i]? = some p ∧ optIdx m p.option = ((k : Nat) : Int) ∧ m.options[k]? = some o ∧ o.name = p.option := fun i hi => by
      have hp : l[i]? = some (l[i]'(by omega)) := List.getElem?_eq_getElem _
      generalize l[i]'(by omega) = p at hp
      obtain ⟨⟨k, o, h1, h2, _⟩, _⟩ := h.2 i p hp
      obtain ⟨k', o', h3, h4, h5⟩ := optIdx_nat (m := m) (s := p.option) (by omega)
      have : k' = k := by omega
      subst this
      exact ⟨p, k', o', hp, h3, h4, h5⟩
    refine pigeon m.options.length (fun i => ((l[i]?).map fun p => (optIdx m p.option).toNat).getD 0) (fun i hi => ?_) (fun i j hi hj e => ?_)
    · obtain ⟨p, k, o, h1, h2, h3, _⟩ := at' i hi
      have := get_lt h3
      simp only [h1, Option.map_some, Option.getD_some]
      omega
    · obtain ⟨p, k, o, h1, h2, h3, h4⟩ := at' i hi
      obtain ⟨p', k', o', h1', h2', h3', h4'⟩ := at' j hj
      simp only [h1, h1', Option.map_some, Option.getD_some] at e
      have : k' = k := by omega
      subst this
      rw [h3] at h3'
      cases h3'
      have ho : p.option = p'.option := by rw [← h4, ← h4']
      rcases Nat.lt_trichotomy i j with h5 | h5 | h5
      · exact absurd ho ((h.2 j p' h1').2 i h5 p h1)
      · exact h5
      · exact absurd ho.symm ((h.2 i p h1).2 j h5 p' h1')
  · exact Nat.le_trans hle h.1.1
theorem erase_split {l : List PickV} {i : Nat} : l.take i ++ l.drop (i + 1) = l.eraseIdx i := (List.eraseIdx_eq_take_drop_succ l i).symm
set_option maxHeartbeats 4000000 in
theorem c_impl_ConflictOfV (m : ModelV) (hm : m.ok) (picks : List PickV) (hp : okL PickV.ok picks) : Contract Try.prog 7 [.d m.dat, .d (lD PickV.dat picks)] (.tup (.fr ⟨42, 2, (confV m picks).map PickV.dat⟩) [bD (tr (conflictP m picks))]) := by
  refine contract_byR [7, 12000000, 600000 + 8] hma hTa Try.func7 (by kernel_rfl) (by kernel_rfl) ?_
  conv => whnf
  refine CallK_intro (c_impl_CompleteChoiceV m hm picks hp) ?_
  conv => whnf
  refine brB (fun h0 => ?_) (fun h0 => ?_) <;> conv => whnf
  · have hn : ¬ conflictP m picks := fun h => h.2 (tr_iff.1 h0)
    rw [show confV m picks = [] from ifP_f hn, tr_f hn]
    exact ⟨⟨rfl, by omega⟩, rfl, trivial⟩
  refine CallK_tr (c_impl_IsPartial _ hm _ hp) (fun hpa => ?_) (fun hpa => ?_) <;> conv => whnf
  rotate_left
  · have hn : ¬ conflictP m picks := fun h => hpa h.1
    rw [show confV m picks = [] from ifP_f hn, tr_f hn]
    exact ⟨⟨rfl, by omega⟩, rfl, trivial⟩
  have hcp : conflictP m picks := ⟨hpa, tr_fiff.1 h0⟩
  rw [show confV m picks = _ from ifP_t hcp, tr_t hcp]
  have hl4 := partial_len hpa
  have e0 : (List.map PickV.dat picks).length = picks.length := List.length_map _
  refine AppK_intro (n := picks.length) (xs' := picks.map PickV.dat) (by simp) (by simp) (by omega) (by simp [PickV.dat, D.width, Ty.width]) ?_
  conv => whnf
  refine LoopK2R [7, 12000000, 600000 + 8] hma hTa [(2, .key 2), (8, .key 8), (9, .pl)] (fun (l : List PickV) (i : Nat) => ⟨[(2, .ae 2 0), (8, .av 8 l.length), (9, .d (iD (i : Int)))], [(2, some ⟨27, 2, [m.dat]⟩), (8, some ⟨42, 2, l.map PickV.dat⟩)], []⟩) (fun l i => i ≤ l.length ∧ isPartialP m l ∧ okL PickV.ok l ∧ confF m (l.length - i) l i = confF m picks.length picks 0) (fun l i => l.length - i) (by kernel_rfl) ?_ ?_
  · conv => whnf
    exact ⟨picks, 0, ⟨by omega, hpa, hp, rfl⟩, rfl⟩
  · intro l i ⟨hi, hpl, hl, hf⟩
    have hl4 := partial_len hpl
    have e1 : (List.map PickV.dat l).length = l.length := List.length_map _
    conv => whnf
    refine brLt (fun h1 => ?_) (fun h1 => ?_) <;> conv => whnf
    rotate_left
    · have : l.length - i = 0 := by omega
      rw [this] at hf
      rw [← show l = _ from hf]
      exact ⟨⟨rfl, rfl, by simp, rfl, flatL_map pick_flatD _⟩, rfl, trivial⟩
    have hil : i < l.length := by omega
    have hlE : (l.eraseIdx i).length = l.length - 1 := List.length_eraseIdx_of_lt hil
    have hle := erase_ok hl i
    have hpe := partial_erase hpl i
    have hst : confF m (l.length - i) l i = ifP (compP m (l.eraseIdx i)) (confF m (l.length - (i + 1)) l (i + 1)) (confF m ((l.eraseIdx i).length - i) (l.eraseIdx i) i) := by
      rw [show l.length - i = (l.length - (i + 1)) + 1 by omega, hlE, show l.length - 1 - i = l.length - (i + 1) by omega]
      rfl
    refine SlA_intro i rfl (by omega) ?_
    conv => whnf
    refine takeK_intro (xs' := (l.take i).map PickV.dat) (by rw [List.map_take]) ?_
    conv => whnf
    refine AppK_intro (n := i) (xs' := (l.take i).map PickV.dat) (by simp; omega) (by simp) (by omega) (fun y hy => by obtain ⟨x, _, rfl⟩ := List.mem_map.1 hy; rfl) ?_
    conv => whnf
    refine WrK_i64 (by omega) (by omega) ?_
    conv => whnf
    refine SlW_intro (i + 1) l.length (by simp) rfl (by omega) (Nat.le_refl _) ?_
    conv => whnf
    refine WinK_intro (zs := (l.drop (i + 1)).map PickV.dat) (by rw [List.take_of_length_le (by simp), List.map_drop]) ?_
    conv => whnf
    refine AppK_intro (n := (l.eraseIdx i).length) (xs' := (l.eraseIdx i).map PickV.dat) (by rw [hlE]; simp; omega) (by rw [List.take_of_length_le (by simp; omega), ← List.map_append, erase_split]) (by omega) (fun y hy => by obtain ⟨x, _, rfl⟩ := List.mem_map.1 hy; rfl) ?_
    conv => whnf
    refine KeysK_intro (by kernel_rfl) ?_
    conv => whnf
    refine takeK_full (by simp) ?_
    conv => whnf
    refine CallK_intro (c_impl_CompleteChoiceV m hm _ hle) ?_
    conv => whnf
    refine brB (fun h2 => ?_) (fun h2 => ?_) <;> conv => whnf
    · have h3 := tr_iff.1 h2
      rw [ifP_t h3] at hst
      refine WrK_i64 (by omega) (by omega) ?_
      conv => whnf
      exact ⟨(l, i + 1), ⟨hil, hpl, hl, hst.symm.trans hf⟩, Nat.sub_lt_sub_left hil (Nat.lt_succ_self i), rfl⟩
    · have h3 := tr_fiff.1 h2
      rw [ifP_f h3] at hst
      exact ⟨(l.eraseIdx i, i), ⟨by show i ≤ (l.eraseIdx i).length; omega, hpe, hle, hst.symm.trans hf⟩, by show (l.eraseIdx i).length - i < l.length - i; omega, rfl⟩

end Go.DL
