/- Contracts of functions of the program, at this seat: what each call returns, by its arguments as data; each states its own conditions. -/
import Derived.Test.YthfagmoaoihhpaaQ4
namespace Go.DL
set_option maxRecDepth 100000
set_option maxHeartbeats 2000000
set_option linter.unusedSimpArgs false
set_option linter.unusedVariables false
open Go.RowKit Go.Proofs Go.Proofs.Ythfagmoaoihhpaa

def opR (r : Res) (_ : List D) : Prop := ∃ (m : ModelV) (l : List PickV) (o : ByteArray), m.ok ∧ okL PickV.ok l ∧ l.length ≤ 5 ∧ okS o ∧ r = .tup (.d m.dat) [lD PickV.dat l, sD o]
def O4 : List ByteArray := [⟨#[67, 79, 76, 79, 82]⟩, ⟨#[83, 73, 90, 69]⟩, ⟨#[76, 73, 68]⟩, ⟨#[72, 85, 69]⟩]
theorem c_spec_DrawOpenValues (b : List Int) (hb : b.length ≤ 1048576) (hb2 : ∀ x ∈ b, 0 ≤ x ∧ x ≤ 255) : LContract Try.prog 12 [.d (lD yD b)] none opR := by
  refine contract_byL [4, 200000 + 25, 200000 + 26, 100000 + 27, 100000 + 28] hma hTa Try.func12 (by kernel_rfl) (by kernel_rfl) ?_
  conv => whnf
  refine DCallK_intro (c_spec_l1New b hb hb2) ?_
  rintro r _ ⟨c, hc, rfl⟩
  conv => whnf
  refine DCallK_intro (c_spec_l7Model c hc) ?_
  rintro r _ ⟨m, c1, hm, h4, h3, hc1, rfl, rfl⟩
  conv => whnf
  refine LCallK_intro (c_spec_l7Picks c1 hc1 m hm h4 h3) ?_
  obtain ⟨h5, h6, h7⟩ := pkR_ok hm h4 hc1
  generalize pkR m c1 = q at h5 h6 h7 ⊢
  conv => whnf
  have hpk : okS (q.2.pick O4) := by
    have h1 : ∀ s ∈ O4, ByteArray.size s ≤ 1000 := by decide
    have := h1 _ (q.2.pick_mem (l := O4) (by decide))
    unfold okS; omega
  refine LCallK_intro (c_spec_l1Pick q.2 h7 O4 (by decide) (by decide)) ?_
  generalize q.2.pick O4 = o at hpk ⊢
  generalize q.2.aft O4.length = c3
  conv => whnf
  refine KeysK_intro (by kernel_rfl) ?_
  conv => whnf
  refine ⟨_, ⟨m, q.1, o, hm, h5, h6, hpk, rfl⟩, ?_⟩
  conv => whnf
  refine ⟨rfl, rfl, ?_⟩
  conv => whnf
  refine takeK_full rfl ?_
  conv => whnf
  exact ⟨rfl, rfl, rfl, rfl, trivial⟩

theorem same_at {a b : List PickV} (h : a.length = b.length) (hall : ∀ j < a.length, a[j]? = b[j]?) : a = b := by
  apply List.ext_getElem?
  intro j
  by_cases hj : j < a.length
  · exact hall j hj
  · rw [List.getElem?_eq_none (by omega), List.getElem?_eq_none (by omega)]
theorem c_laws_samePicks (a : List PickV) (ha : okL PickV.ok a) (b : List PickV) (hb : okL PickV.ok b) : Contract Try.prog 15 [.d (lD PickV.dat a), .d (lD PickV.dat b)] (.one (.d (bD (tr (a = b))))) := by
  refine contract_byR [6] hma hTa Try.func15 (by kernel_rfl) (by kernel_rfl) ?_
  have ha1 := ha.1
  have e1 : (List.map PickV.dat a).length = a.length := List.length_map _
  have e2 : (List.map PickV.dat b).length = b.length := List.length_map _
  conv => whnf
  refine brNEq (fun h => ?_) (fun h => ?_) <;> conv => whnf
  rotate_left
  · exact bF (fun e => h (by rw [e]))
  have hlen : a.length = b.length := by omega
  refine LoopK_introR [6] hma hTa [(0, .pl), (1, .pl), (5, .pl)] (fun i : Nat => ⟨[(0, .d (lD PickV.dat a)), (1, .d (lD PickV.dat b)), (5, .d (iD i))], [], []⟩) (fun i => i ≤ a.length ∧ ∀ j < i, a[j]? = b[j]?) (fun i => a.length - i) (by kernel_rfl) ?_ ?_
  · conv => whnf
    exact ⟨0, ⟨by omega, fun j hj => absurd hj (Nat.not_lt_zero _)⟩, rfl⟩
  intro i ⟨hi, hall⟩
  conv => whnf
  refine brLt (fun h1 => ?_) (fun h1 => ?_) <;> conv => whnf
  rotate_left
  · exact bT (same_at hlen fun j hj => hall j (by omega))
  have hil : i < a.length := by omega
  obtain ⟨x, hx⟩ : ∃ x, a[i]? = some x := ⟨a[i], by simp⟩
  obtain ⟨y, hy⟩ : ∃ y, b[i]? = some y := ⟨b[i]'(by omega), by simp⟩
  refine IxK_map i rfl hx ?_
  conv => whnf
  refine IxK_map i rfl hy ?_
  conv => whnf
  refine KeysK_intro (by kernel_rfl) ?_
  conv => whnf
  refine brNB (fun h5 => ?_) (fun h5 => ?_) <;> conv => whnf
  · have exy : x = y := pick_eq.1 h5
    refine WrK_i64 (by omega) (by omega) ?_
    conv => whnf
    refine ⟨i + 1, ⟨hil, fun j hj => ?_⟩, Nat.sub_lt_sub_left hil (Nat.lt_succ_self i), rfl⟩
    by_cases e : j = i
    · subst e; rw [hx, hy, exy]
    · exact hall j (by omega)
  · exact bF (fun e => by
      subst e
      rw [hx] at hy
      cases hy
      rw [pick_eq.2 rfl] at h5
      cases h5)

theorem c_laws_hasText (l : List ByteArray) (hl : okL okS l) (x : ByteArray) : Contract Try.prog 16 [.d (lD sD l), .d (sD x)] (.one (.d (bD (tr (x ∈ l))))) := by
  refine contract_by hma hTa Try.func16 (by kernel_rfl) (by kernel_rfl) ?_
  have hl1 := hl.1
  have e1 : (List.map sD l).length = l.length := List.length_map _
  conv => whnf
  refine LoopK_intro hma hTa [(0, .pl), (1, .pl), (5, .pl)] (fun i : Nat => ⟨[(0, .d (lD sD l)), (1, .d (sD x)), (5, .d (iD i))], [], []⟩) (fun i => i ≤ l.length ∧ x ∉ l.take i) (fun i => l.length - i) (by kernel_rfl) ?_ ?_
  · conv => whnf
    exact ⟨0, ⟨by omega, by simp⟩, rfl⟩
  intro i ⟨hi, hall⟩
  conv => whnf
  refine brLt (fun h1 => ?_) (fun h1 => ?_) <;> conv => whnf
  rotate_left
  · rw [List.take_of_length_le (by omega)] at hall
    exact bF hall
  have hil : i < l.length := by omega
  obtain ⟨y, hy⟩ : ∃ y, l[i]? = some y := ⟨l[i], by simp⟩
  refine IxK_map i rfl hy ?_
  conv => whnf
  refine brStr (fun h2 => ?_) (fun h2 => ?_) <;> conv => whnf
  · exact bT (by rw [← h2]; exact get_mem hy)
  · refine WrK_i64 (by omega) (by omega) ?_
    conv => whnf
    refine ⟨i + 1, ⟨hil, fun hm => ?_⟩, Nat.sub_lt_sub_left hil (Nat.lt_succ_self i), rfl⟩
    rw [take_snoc hy] at hm
    rcases List.mem_append.1 hm with hm | hm
    · exact hall hm
    · rw [List.mem_singleton.1 hm] at h2; exact h2 rfl

theorem allN_nil (m : ModelV) : allN m [] = choicesN m := by
  unfold allN choicesN
  have e : (fun all o => List.flatMap (extF [] o) all) = fun (all : List (List PickV)) (o : OptV) => List.flatMap (extR o) all := by
    funext all o
    congr 1
    funext row
    unfold extF extR
    congr 1
    rw [List.filter_eq_self]
    exact fun v _ => tr_t (fun p hp => by simp at hp)
  unfold rowsF rowsN
  rw [e]
theorem c_spec_ChoicesOfV (m : ModelV) (hm : m.ok) : Contract Try.prog 14 [.d m.dat] (.one (.own ⟨28, 1, (choicesV m).map (lD PickV.dat)⟩)) := by
  refine contract_by hma hTa Try.func14 (by kernel_rfl) (by kernel_rfl) ?_
  conv => whnf
  refine CallK_tr (c_spec_IsModel _ hm) (fun h => ?_) (fun h => ?_) <;> conv => whnf
  · rw [show choicesV m = _ from ifP_t h, ← allN_nil]
    refine CallK_intro (c_spec_l7All m hm h [] ⟨by simp, by simp⟩) ?_
    conv => whnf
    exact ⟨rfl, rfl, rfl, rfl⟩
  · rw [show choicesV m = _ from ifP_f h]
    exact ⟨rfl, rfl, rfl, rfl⟩

end Go.DL
