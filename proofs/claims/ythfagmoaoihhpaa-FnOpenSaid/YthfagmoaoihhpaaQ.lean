/- Contracts of functions of the program, at this seat: what each call returns, by its arguments as data; each states its own conditions. -/
import Derived.Test.YthfagmoaoihhpaaO
namespace Go.DL
set_option maxRecDepth 100000
set_option maxHeartbeats 2000000
set_option linter.unusedSimpArgs false
set_option linter.unusedVariables false
open Go.RowKit Go.Proofs Go.Proofs.Ythfagmoaoihhpaa

theorem bool_getA {s t : List Bool} {j : Nat} (h : j < s.length) : ((s ++ t).map bD)[j]? = some (bD (s.getD j false)) := by
  rw [List.map_append, List.getElem?_append_left (by simpa using h)]
  exact bool_get h
theorem bool_allA {s t r : List Bool} {v : Bool} (hr : r = s ++ [v]) : (r ++ []).map bD = ((s ++ t).map bD).take s.length ++ [D.sc (.bool v)] := by
  rw [hr, List.append_nil, List.map_append (l₁ := s) (l₂ := t), List.take_left' (by simp)]
  simp
theorem bool_setA {s t r : List Bool} {v : Bool} {m : Nat} (hm : m + 1 = s.length) (hr : r = s.take m ++ [v]) : (r ++ t).map bD = ((s ++ t).map bD).set m (D.sc (.bool v)) := by
  rw [List.map_append (l₁ := s) (l₂ := t), List.set_append_left _ _ (by simp; omega), ← bool_set hm hr, List.map_append]
theorem bool_setB {s t r : List Bool} {v : Bool} {m : Nat} (hm : m + 2 = s.length) (hr : r = s.take m ++ [v]) : (r ++ (s.getD (m + 1) false :: t)).map bD = ((s ++ t).map bD).set m (D.sc (.bool v)) := by
  have h1 : s = s.take m ++ [s.getD m false, s.getD (m + 1) false] := by
    apply List.ext_getElem?
    intro j
    rcases Nat.lt_or_ge j m with h | h
    · rw [List.getElem?_append_left (by simp; omega), List.getElem?_take, if_pos h]
    · rw [List.getElem?_append_right (by simp; omega)]
      have e : j - (s.take m).length = j - m := by simp; omega
      rw [e]
      rcases Nat.lt_or_ge j (m + 2) with h2 | h2
      · by_cases e2 : j = m
        · subst e2; simp [List.getElem?_eq_getElem (show j < s.length by omega)]
        · have e3 : j = m + 1 := by omega
          subst e3; simp [List.getElem?_eq_getElem (show m + 1 < s.length by omega)]
      · rw [List.getElem?_eq_none (by omega), List.getElem?_eq_none (by simp; omega)]
  generalize s.getD (m + 1) false = a at h1 ⊢
  generalize s.getD m false = b at h1
  have hl : (s.take m).length = m := by simp; omega
  rw [hr]
  rw [h1]
  generalize s.take m = u at hl ⊢
  subst hl
  simp

theorem c_spec_l6Has (c : List PickV) (hc : okL PickV.ok c) (o v : ByteArray) : Contract Try.prog 44 [.d (lD PickV.dat c), .d (sD o), .d (sD v)] (.one (.d (bD (tr (hasP c o v))))) := by
  refine contract_by hma hTa Try.func44 (by kernel_rfl) (by kernel_rfl) ?_
  obtain ⟨hlen, _⟩ := hc
  conv => whnf
  have e1 : (List.map PickV.dat c).length = c.length := List.length_map _
  refine LoopK_intro hma hTa [(0, .pl), (1, .pl), (2, .pl), (6, .pl), (7, .pl)] (fun i : Nat => ⟨[(0, .d (lD PickV.dat c)), (1, .d (sD o)), (2, .d (sD v)), (6, .d (bD false)), (7, .d (iD i))], [], []⟩) (fun i => i ≤ c.length ∧ ¬ hasP (c.take i) o v) (fun i => c.length - i) (by kernel_rfl) ?_ ?_
  · conv => whnf
    exact ⟨0, ⟨by omega, by simp [hasP]⟩, rfl⟩
  · intro i ⟨hi, hno⟩
    conv => whnf
    repeat' first
      | (refine brLt (fun h => ?_) (fun h => ?_) <;> conv => whnf)
      | (refine brLe (fun h => ?_) (fun h => ?_) <;> conv => whnf)
      | (refine brEq (fun h => ?_) (fun h => ?_) <;> conv => whnf)
      | (refine brTr (fun h => ?_) (fun h => ?_) <;> conv => whnf)
      | (refine brNTr (fun h => ?_) (fun h => ?_) <;> conv => whnf)
      | (refine brNLt (fun h => ?_) (fun h => ?_) <;> conv => whnf)
      | (refine brNLe (fun h => ?_) (fun h => ?_) <;> conv => whnf)
      | (refine brNEq (fun h => ?_) (fun h => ?_) <;> conv => whnf)
      | (refine brStr (fun h => ?_) (fun h => ?_) <;> conv => whnf)
      | (refine brNStr (fun h => ?_) (fun h => ?_) <;> conv => whnf)
      | (refine brStrLt (fun h => ?_) (fun h => ?_) <;> conv => whnf)
      | (refine brNStrLt (fun h => ?_) (fun h => ?_) <;> conv => whnf)
      | (refine brNBEq (fun h => ?_) (fun h => ?_) <;> conv => whnf)
      | (refine brBEq (fun h => ?_) (fun h => ?_) <;> conv => whnf)
      | (refine WrK_i64 (by omega) (by omega) ?_; conv => whnf)
      | (refine takeK_full (by first | exact rfl | exact (List.length_map _).symm | exact List.length_map _ | omega) ?_; conv => whnf)
      | (refine StrK_intro _ rfl (by assumption) ?_; conv => whnf)
      | (refine IxK_map _ rfl (by assumption) ?_; conv => whnf)
      | (refine StrK_lt _ rfl (by omega) (fun b hb => ?_); conv => whnf)
      | (refine IxK_mapLt _ rfl (by (try simp only [List.length_map] at *); omega) (fun x hx => ?_); conv => whnf)
      | (refine IxK_mapI (by omega) (by (try simp only [List.length_map] at *); omega) (fun j x hj hx => ?_); conv => whnf)
      | (refine NeedK_intro (by omega) ?_; conv => whnf)
    all_goals first
      | exact bT ⟨_, get_mem ‹c[i]? = some _›, by assumption, by assumption⟩
      | exact ⟨i + 1, ⟨get_lt ‹c[i]? = some _›, fun h => ((hasP_snoc ‹c[i]? = some _›).1 h).elim hno (fun h => by first | exact absurd h.1 (by assumption) | exact absurd h.2 (by assumption))⟩, Nat.sub_lt_sub_left (get_lt ‹c[i]? = some _›) (Nat.lt_succ_self i), rfl⟩
      | exact bF (by rwa [List.take_of_length_le (by omega)] at hno)

set_option maxHeartbeats 4000000 in
theorem c_spec_l6Eval (l : List NodeV) (hl : okL NodeV.ok l) (hcond : isCondP l) (c : List PickV) (hc : okL PickV.ok c) : Contract Try.prog 36 [.d (lD NodeV.dat l), .d (lD PickV.dat c)] (.one (.d (bD (evalN l c)))) := by
  refine contract_by hma hTa Try.func36 (by kernel_rfl) (by kernel_rfl) ?_
  obtain ⟨hlen, hok⟩ := hl
  conv => whnf
  have e1 : (List.map NodeV.dat l).length = l.length := List.length_map _
  have h30 := hcond.1
  refine LoopK2 hma hTa [(0, .pl), (1, .pl), (4, .pl), (5, .key 5), (6, .pl)] (fun (i : Nat) (t : List Bool) => ⟨[(0, .d (lD NodeV.dat l)), (1, .d (lD PickV.dat c)), (4, .d (bD false)), (5, .av 5 (stackN c (l.take i)).length), (6, .d (iD i))], [(5, some ⟨4, 1, (stackN c (l.take i) ++ t).map bD⟩)], []⟩) (fun i _ => i ≤ l.length) (fun i _ => l.length - i) (by kernel_rfl) ?_ ?_
  · conv => whnf
    exact ⟨0, [], by omega, rfl⟩
  · intro i t hi
    have hall : AllB l (isNodeAt l) i := fun j _ x hx => hcond.2.1 j x hx
    have hsl := stackN_len (c := c) hall hi
    have hb := have_bound hall hi
    conv => whnf
    refine brLt (fun h => ?_) (fun h => ?_) <;> conv => whnf
    rotate_left
    · have et : l.take i = l := List.take_of_length_le (by omega)
      rw [et] at hsl ⊢
      have h1 := hcond.2.2
      refine IxA_intro 0 rfl (by omega) ?_
      conv => whnf
      refine getK_intro (bool_getA (by omega)) ?_
      conv => whnf
      exact rfl
    refine IxK_mapLt _ rfl (by omega) (fun x hx => ?_)
    conv => whnf
    have hil := get_lt hx
    have hnd := hcond.2.1 i x hx
    have hsn := stackN_snoc (c := c) hx
    generalize hS : stackN c (l.take i) = s at hsl hsn ⊢
    refine brEq (fun hk0 => ?_) (fun hk0 => ?_) <;> conv => whnf
    · rw [stackS_0 hk0] at hsn
      refine AppK_intro (n := (stackN c (l.take (i + 1))).length) (by rw [hsn]; simp) (bool_allA hsn) (by rw [hsn]; simp; omega) (by simp [D.width, Ty.width]) ?_
      conv => whnf
      refine WrK_i64 (by omega) (by omega) ?_
      conv => whnf
      exact ⟨(i + 1, []), hil, Nat.sub_lt_sub_left hil (Nat.lt_succ_self i), rfl⟩
    refine brEq (fun hk1 => ?_) (fun hk1 => ?_) <;> conv => whnf
    · rw [stackS_1 hk1] at hsn
      refine IxK_map _ rfl hx ?_
      conv => whnf
      refine IxK_map _ rfl hx ?_
      conv => whnf
      refine CallK_intro (c_spec_l6Has _ hc _ _) ?_
      conv => whnf
      refine AppK_intro (n := (stackN c (l.take (i + 1))).length) (by rw [hsn]; simp) (bool_allA hsn) (by rw [hsn]; simp; omega) (by simp [D.width, Ty.width]) ?_
      conv => whnf
      refine WrK_i64 (by omega) (by omega) ?_
      conv => whnf
      exact ⟨(i + 1, []), hil, Nat.sub_lt_sub_left hil (Nat.lt_succ_self i), rfl⟩
    refine brEq (fun hk2 => ?_) (fun hk2 => ?_) <;> conv => whnf
    · rw [stackS_2 hk2] at hsn
      have hop := hnd.2.1
      rw [opN_2 hk2] at hop
      have hlen2 : (stackN c (l.take (i + 1))).length = s.length := by rw [hsn]; simp; omega
      refine WrK_i64 (by omega) (by omega) ?_
      conv => whnf
      refine WrK_i64 (by omega) (by omega) ?_
      conv => whnf
      refine IxA_intro (s.length - 1) (by omega) (by omega) ?_
      conv => whnf
      refine getK_intro (bool_getA (by omega)) ?_
      conv => whnf
      refine IxA_intro (s.length - 1) (by omega) (by omega) ?_
      conv => whnf
      refine setK_intro (by simp; omega) (bool_setA (by omega) hsn) ?_
      conv => whnf
      refine WrK_i64 (by omega) (by omega) ?_
      conv => whnf
      exact ⟨(i + 1, t), hil, Nat.sub_lt_sub_left hil (Nat.lt_succ_self i), by dsimp only; rw [hlen2]; rfl⟩
    refine brEq (fun hk3 => ?_) (fun hk3 => ?_) <;> conv => whnf
    · rw [stackS_3 hk3] at hsn
      have hop := hnd.2.1
      rw [opN_3 hk3] at hop
      have hlen2 : (stackN c (l.take (i + 1))).length = s.length - 1 := by rw [hsn]; simp; omega
      refine WrK_i64 (by omega) (by omega) ?_
      conv => whnf
      refine WrK_i64 (by omega) (by omega) ?_
      conv => whnf
      refine IxA_intro (s.length - 2) (by omega) (by omega) ?_
      conv => whnf
      refine getK_intro (bool_getA (by omega)) ?_
      conv => whnf
      refine brB (fun h3 => ?_) (fun h3 => ?_) <;> conv => whnf
      · refine WrK_i64 (by omega) (by omega) ?_
        conv => whnf
        refine IxA_intro (s.length - 1) (by omega) (by omega) ?_
        conv => whnf
        refine getK_intro (bool_getA (by omega)) ?_
        conv => whnf
        rw [h3, Bool.true_and] at hsn
        refine IxA_intro (s.length - 2) (by omega) (by omega) ?_
        conv => whnf
        refine setK_intro (by simp; omega) (bool_setB (by omega) hsn) ?_
        conv => whnf
        refine WrK_i64 (by omega) (by omega) ?_
        conv => whnf
        refine SlA_intro (s.length - 1) (by omega) (by omega) ?_
        conv => whnf
        refine WrK_i64 (by omega) (by omega) ?_
        conv => whnf
        exact ⟨(i + 1, _), hil, Nat.sub_lt_sub_left hil (Nat.lt_succ_self i), by dsimp only; rw [hlen2]; rfl⟩
      · rw [h3, Bool.false_and] at hsn
        refine IxA_intro (s.length - 2) (by omega) (by omega) ?_
        conv => whnf
        refine setK_intro (by simp; omega) (bool_setB (by omega) hsn) ?_
        conv => whnf
        refine WrK_i64 (by omega) (by omega) ?_
        conv => whnf
        refine SlA_intro (s.length - 1) (by omega) (by omega) ?_
        conv => whnf
        refine WrK_i64 (by omega) (by omega) ?_
        conv => whnf
        exact ⟨(i + 1, _), hil, Nat.sub_lt_sub_left hil (Nat.lt_succ_self i), by dsimp only; rw [hlen2]; rfl⟩
    · have hk4 : x.kind = 4 := by
        have hop := hnd.1
        rcases opN_facts x.kind with h9 | h9 | h9 | h9 | h9 | h9
        · exact absurd h9.1 hk0
        · exact absurd h9.1 hk1
        · exact absurd h9.1 hk2
        · exact absurd h9.1 hk3
        · exact h9.1
        · omega
      rw [stackS_4 hk4] at hsn
      have hop := hnd.2.1
      rw [opN_4 hk4] at hop
      have hlen2 : (stackN c (l.take (i + 1))).length = s.length - 1 := by rw [hsn]; simp; omega
      refine WrK_i64 (by omega) (by omega) ?_
      conv => whnf
      refine WrK_i64 (by omega) (by omega) ?_
      conv => whnf
      refine IxA_intro (s.length - 2) (by omega) (by omega) ?_
      conv => whnf
      refine getK_intro (bool_getA (by omega)) ?_
      conv => whnf
      refine brB (fun h3 => ?_) (fun h3 => ?_) <;> conv => whnf
      · rw [h3, Bool.true_or] at hsn
        refine IxA_intro (s.length - 2) (by omega) (by omega) ?_
        conv => whnf
        refine setK_intro (by simp; omega) (bool_setB (by omega) hsn) ?_
        conv => whnf
        refine WrK_i64 (by omega) (by omega) ?_
        conv => whnf
        refine SlA_intro (s.length - 1) (by omega) (by omega) ?_
        conv => whnf
        refine WrK_i64 (by omega) (by omega) ?_
        conv => whnf
        exact ⟨(i + 1, _), hil, Nat.sub_lt_sub_left hil (Nat.lt_succ_self i), by dsimp only; rw [hlen2]; rfl⟩
      · refine WrK_i64 (by omega) (by omega) ?_
        conv => whnf
        refine IxA_intro (s.length - 1) (by omega) (by omega) ?_
        conv => whnf
        refine getK_intro (bool_getA (by omega)) ?_
        conv => whnf
        rw [h3, Bool.false_or] at hsn
        refine IxA_intro (s.length - 2) (by omega) (by omega) ?_
        conv => whnf
        refine setK_intro (by simp; omega) (bool_setB (by omega) hsn) ?_
        conv => whnf
        refine WrK_i64 (by omega) (by omega) ?_
        conv => whnf
        refine SlA_intro (s.length - 1) (by omega) (by omega) ?_
        conv => whnf
        refine WrK_i64 (by omega) (by omega) ?_
        conv => whnf
        exact ⟨(i + 1, _), hil, Nat.sub_lt_sub_left hil (Nat.lt_succ_self i), by dsimp only; rw [hlen2]; rfl⟩

end Go.DL
