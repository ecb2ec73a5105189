/- Contracts of functions of the program, at this seat: what each call returns, by its arguments as data; each states its own conditions. -/
import Derived.Test.YtjhjedfnjimflaaPH
namespace Go.DL
set_option maxRecDepth 100000
set_option maxHeartbeats 2000000
set_option linter.unusedSimpArgs false
set_option linter.unusedVariables false
open Go.RowKit Go.Proofs Go.Proofs.Ytjhjedfnjimflaa

/-! What a list of needs says of a code. -/
open Classical in
noncomputable def inN (s : ByteArray) (l : List NeedV) : Int := sumI (fun x : NeedV => if x.code = s then x.quantity else 0) l
theorem in_y {s : ByteArray} {l : List NeedV} {i : Nat} {x : NeedV} (hx : l[i]? = some x) (h : x.code = s) : inN s (l.take (i + 1)) = inN s (l.take i) + x.quantity := by
  unfold inN; rw [sumI_take hx, if_pos h]
theorem in_n {s : ByteArray} {l : List NeedV} {i : Nat} {x : NeedV} (hx : l[i]? = some x) (h : ¬ x.code = s) : inN s (l.take (i + 1)) = inN s (l.take i) := by
  unfold inN; rw [sumI_take hx, if_neg h, Int.add_zero]
def smallL (l : List NeedV) : Prop := l.length ≤ 100 ∧ ∀ x ∈ l, 0 ≤ x.quantity ∧ x.quantity ≤ 1000000000
theorem in_bound {s : ByteArray} {l : List NeedV} (h : smallL l) : ∀ i, i ≤ l.length → 0 ≤ inN s (l.take i) ∧ inN s (l.take i) ≤ i * 1000000000
  | 0, _ => by simp [inN, sumI]
  | i + 1, hi => by
    have ih := in_bound (s := s) h i (by omega)
    have hx : l[i]? = some l[i] := by simp
    have hb := h.2 _ (get_mem hx)
    by_cases e : (l[i]).code = s
    · rw [in_y hx e]; omega
    · rw [in_n hx e]; omega

theorem c_laws_in (l : List NeedV) (hl : smallL l) (s : ByteArray) : Contract Try.prog 58 [.d (lD NeedV.dat l), .d (sD s)] (.one (.d (iD (inN s l)))) := by
  refine contract_by hma hTa Try.func58 (by kernel_rfl) (by kernel_rfl) ?_
  have e1 : (List.map NeedV.dat l).length = l.length := List.length_map _
  have h100 := hl.1
  conv => whnf
  refine LoopK_intro hma hTa [(0, .pl), (1, .pl), (5, .pl), (6, .pl)] (fun i : Nat => ⟨[(0, .d (lD NeedV.dat l)), (1, .d (sD s)), (5, .d (iD (inN s (l.take i)))), (6, .d (iD i))], [], []⟩) (fun i => i ≤ l.length) (fun i => l.length - i) (by kernel_rfl) ?_ ?_
  · conv => whnf
    exact ⟨0, by omega, rfl⟩
  · intro i hi
    conv => whnf
    have hb := in_bound (s := s) hl i hi
    refine brLt (fun h => ?_) (fun h => ?_) <;> conv => whnf
    · refine IxK_mapLt _ rfl (by omega) (fun x hx => ?_)
      conv => whnf
      have hil := get_lt hx
      have hq := hl.2 x (get_mem hx)
      refine brStr (fun h1 => ?_) (fun h1 => ?_) <;> conv => whnf
      · refine IxK_map _ rfl hx ?_
        conv => whnf
        refine WrK_i64 (by omega) (by omega) ?_
        conv => whnf
        refine WrK_i64 (by omega) (by omega) ?_
        conv => whnf
        exact ⟨i + 1, hil, Nat.sub_lt_sub_left hil (Nat.lt_succ_self i), by dsimp only; rw [in_y hx h1]; rfl⟩
      · refine WrK_i64 (by omega) (by omega) ?_
        conv => whnf
        exact ⟨i + 1, hil, Nat.sub_lt_sub_left hil (Nat.lt_succ_self i), by dsimp only; rw [in_n hx h1]; rfl⟩
    · rw [List.take_of_length_le (l := l) (by omega)]

theorem need_mem {cat : List ItemV} {P : ItemV → Prop} {N : Nat → Int} : ∀ {k : Nat} {x : NeedV}, x ∈ needL cat P N k → ∃ j y, j < k ∧ cat[j]? = some y ∧ 0 < N j ∧ P y ∧ x = ⟨y.code, N j⟩
  | 0, x, h => by cases h
  | k + 1, x, h => by
    cases hy : cat[k]? with
    | none =>
      rw [needL, hy] at h
      simp only [List.append_nil] at h
      obtain ⟨j, y, h1, h2⟩ := need_mem h
      exact ⟨j, y, by omega, h2⟩
    | some y =>
      by_cases hp : 0 < N k ∧ P y
      · rw [need_y hy hp] at h
        rcases List.mem_append.1 h with h | h
        · obtain ⟨j, y, h1, h2⟩ := need_mem h
          exact ⟨j, y, by omega, h2⟩
        · exact ⟨k, y, by omega, hy, hp.1, hp.2, List.mem_singleton.1 h⟩
      · rw [need_n hy hp] at h
        obtain ⟨j, y, h1, h2⟩ := need_mem h
        exact ⟨j, y, by omega, h2⟩
theorem in_need {cat : List ItemV} (hc : isCatalogP cat) {P : ItemV → Prop} {N : Nat → Int} {i : Nat} {y : ItemV} (hy : cat[i]? = some y) : ∀ k, inN y.code (needL cat P N k) = if i < k then ifP (0 < N i ∧ P y) (N i) 0 else 0
  | 0 => by rw [if_neg (by omega)]; rfl
  | k + 1 => by
    have ih := in_need hc (P := P) (N := N) hy k
    have hap : ∀ l : List NeedV, ∀ x : NeedV, inN y.code (l ++ [x]) = inN y.code l + (ifP (x.code = y.code) x.quantity 0) := fun l x => by
      unfold inN; rw [sumI_append]
      congr 1
      by_cases e : x.code = y.code
      · rw [ifP_t e]; simp [sumI, e]
      · rw [ifP_f e]; simp [sumI, e]
    cases hz : cat[k]? with
    | none =>
      rw [needL, hz]
      simp only [List.append_nil]
      rw [ih]
      have : i ≠ k := fun e => by rw [e, hz] at hy; cases hy
      by_cases h : i < k
      · rw [if_pos h, if_pos (by omega)]
      · rw [if_neg h, if_neg (by omega)]
    | some z =>
      by_cases e : i = k
      · subst e
        rw [hy] at hz; cases hz
        rw [if_neg (by omega)] at ih
        rw [if_pos (by omega)]
        by_cases hp : 0 < N i ∧ P y
        · rw [need_y hy hp, hap, ih, ifP_t (by rfl), ifP_t hp, Int.zero_add]
        · rw [need_n hy hp, ih, ifP_f hp]
      · have hne : z.code ≠ y.code := fun h => e (cat_inj hc hy hz h.symm)
        have hlt : (i < k + 1) ↔ i < k := by omega
        by_cases hp : 0 < N k ∧ P z
        · rw [need_y hz hp, hap, ih, ifP_f (p := z.code = y.code) hne, Int.add_zero]
          simp only [hlt]
        · rw [need_n hz hp, ih]
          simp only [hlt]

end Go.DL
