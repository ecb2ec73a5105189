/- Contracts of functions of the program, at this seat: what each call returns, by its arguments as data; each states its own conditions. -/
import Derived.Test.YthfagmoaoihhpaaXB
namespace Go.DL
set_option maxRecDepth 100000
set_option maxHeartbeats 2000000
set_option linter.unusedSimpArgs false
set_option linter.unusedVariables false
open Go.RowKit Go.Proofs Go.Proofs.Ythfagmoaoihhpaa

/-! The values that some choice has beside the picks. -/
def opensP (m : ModelV) (picks : List PickV) (k : Nat) (v : ByteArray) : Prop := ∃ c ∈ choicesN m, conP picks c ∧ ∃ q, c[k]? = some q ∧ q.value = v
def openIn (m : ModelV) (picks : List PickV) (o : ByteArray) : Prop := isPartialP m picks ∧ 0 ≤ optIdx m o
noncomputable def openV (m : ModelV) (picks : List PickV) (o : ByteArray) : List ByteArray := ifP (openIn m picks o) (((m.options[(optIdx m o).toNat]?.map OptV.values).getD []).filter fun v => tr (opensP m picks (optIdx m o).toNat v)) []
theorem openV_ok (m : ModelV) (hm : m.ok) (picks : List PickV) (_ : okL PickV.ok picks) (o : ByteArray) : okL okS (openV m picks o) ∧ (openV m picks o).length ≤ 4 := by
  by_cases h : openIn m picks o
  · rw [show openV m picks o = _ from ifP_t h]
    obtain ⟨k, op, h1, h2, _⟩ := optIdx_nat h.2
    have e : (optIdx m o).toNat = k := by omega
    rw [e, h2]
    have hv := (h.1.1.2.2.1 op (get_mem h2)).2.1
    have hl : (op.values.filter fun v => tr (opensP m picks k v)).length ≤ 4 := Nat.le_trans (List.length_filter_le _ _) hv
    refine ⟨⟨by show (op.values.filter _).length ≤ _; omega, fun v hv2 => ?_⟩, hl⟩
    exact (hm.1.2 op (get_mem h2)).2.2 v (List.mem_filter.1 hv2).1
  · rw [show openV m picks o = _ from ifP_f h]; exact ⟨⟨by simp, by simp⟩, by simp⟩
theorem choice_len {m : ModelV} {c : List PickV} (h : c ∈ choicesN m) : c.length = m.options.length := (mem_rowsN.1 (List.mem_filter.1 h).1).1
theorem find_in {l : List ByteArray} {v : ByteArray} : findP (fun x => x = v) l < 0 ↔ v ∉ l := by
  rcases findP_cases (fun x => x = v) l with ⟨h1, h2⟩ | ⟨i, x, h1, h2, h3, _⟩
  · rw [h1]; exact ⟨fun _ hm => h2 v hm rfl, fun _ => by omega⟩
  · rw [h1]; exact ⟨fun h => by omega, fun h => absurd (h3 ▸ get_mem h2) h⟩
set_option maxHeartbeats 4000000 in
theorem c_impl_OpenValuesV (m : ModelV) (hm : m.ok) (picks : List PickV) (hp : okL PickV.ok picks) (o : ByteArray) : Contract Try.prog 13 [.d m.dat, .d (lD PickV.dat picks), .d (sD o)] (.one (.fr ⟨9, 1, (openV m picks o).map sD⟩)) := by
  refine contract_by hma hTa Try.func13 (by kernel_rfl) (by kernel_rfl) ?_
  conv => whnf
  refine CallK_intro (c_impl_optionIn m hm o) ?_
  conv => whnf
  refine CallK_tr (c_impl_IsPartial _ hm _ hp) (fun hpa => ?_) (fun hpa => ?_) <;> conv => whnf
  rotate_left
  · rw [show openV m picks o = [] from ifP_f (fun h => hpa h.1)]
    exact ⟨rfl, by omega⟩
  refine brLt (fun h1 => ?_) (fun h1 => ?_) <;> conv => whnf
  · rw [show openV m picks o = [] from ifP_f (fun h => by have := h.2; omega)]
    exact ⟨rfl, by omega⟩
  obtain ⟨k, op, hk, hop, hon⟩ := optIdx_nat h1
  rw [show openV m picks o = _ from ifP_t ⟨hpa, h1⟩]
  rw [show (optIdx m o).toNat = k by omega, hop, hk]
  have hkl := get_lt hop
  have hvl := (hpa.1.2.2.1 op (get_mem hop)).2.1
  have hopok := (hm.1.2 op (get_mem hop)).2
  rw [show ((Option.map OptV.values (some op)).getD []) = op.values from rfl]
  refine CallK_intro (c_impl_ChoicesOf0 m hm _ ⟨fun _ => rfl, fun h => absurd hpa.1 h⟩) ?_
  conv => whnf
  refine IxK_map k rfl hop ?_
  conv => whnf
  have hcl := fun c (h : c ∈ choicesN m) => choice_len h
  have hcr := choices_row hpa.1 hm
  have hcn := choices_len2 hpa.1
  have hop2 : ∀ v, opensP m picks k v ↔ ∃ c ∈ choicesN m, conP picks c ∧ ∃ q, c[k]? = some q ∧ q.value = v := fun v => Iff.rfl
  generalize opensP m picks k = OP at hop2 ⊢
  generalize choicesN m = l at hcl hcr hcn hop2 ⊢
  have e1 : (List.map (lD PickV.dat) l).length = l.length := List.length_map _
  have e2 : (List.map sD op.values).length = op.values.length := List.length_map _
  refine LoopK_intro hma hTa [(1, .pl), (7, .pl), (8, .key 8), (9, .fz), (33, .pl), (34, .pl), (35, .pl)] (fun i : Nat => ⟨[(1, .d (lD PickV.dat picks)), (7, .d (iD (k : Int))), (8, .av 8 ((op.values.take i).filter fun v => tr (OP v)).length), (9, .d (lD (lD PickV.dat) l)), (33, .d (lD sD op.values)), (34, .d (iD (op.values.map sD).length)), (35, .d (iD i))], [(8, some ⟨9, 1, ((op.values.take i).filter fun v => tr (OP v)).map sD⟩)], []⟩) (fun i => i ≤ op.values.length) (fun i => op.values.length - i) (by kernel_rfl) ?_ ?_
  · conv => whnf
    refine takeK_full rfl ?_
    conv => whnf
    exact ⟨0, by omega, rfl⟩
  · intro i hi
    conv => whnf
    refine brLt (fun h => ?_) (fun h => ?_) <;> conv => whnf
    rotate_left
    · rw [List.take_of_length_le (by omega)]
      exact ⟨rfl, rfl, by simp, rfl, flatL_map (f := sD) (fun _ => trivial) _⟩
    refine IxK_mapLt _ rfl (by omega) (fun v hv => ?_)
    conv => whnf
    have hil := get_lt hv
    have hol : ((op.values.take i).filter fun v => tr (OP v)).length ≤ 4 := Nat.le_trans (List.length_filter_le _ _) (by simp; omega)
    have hy := fun h => filter_y (f := fun v => tr (OP v)) hv h
    have hn := fun h => filter_n (f := fun v => tr (OP v)) hv h
    generalize ((op.values.take i).filter fun v => tr (OP v)) = out at hol hy hn ⊢
    refine LoopK_intro hma hTa [(1, .pl), (7, .pl), (8, .key 8), (9, .pl), (33, .pl), (34, .pl), (35, .pl), (11, .pl), (39, .pl), (40, .pl), (41, .pl)] (fun j : Nat => ⟨[(1, .d (lD PickV.dat picks)), (7, .d (iD (k : Int))), (8, .av 8 out.length), (9, .d (lD (lD PickV.dat) l)), (33, .d (lD sD op.values)), (34, .d (iD (op.values.map sD).length)), (35, .d (iD i)), (11, .d (sD v)), (39, .d (lD (lD PickV.dat) l)), (40, .d (iD (l.map (lD PickV.dat)).length)), (41, .d (iD j))], [(8, some ⟨9, 1, out.map sD⟩)], []⟩) (fun j => j ≤ l.length ∧ ∀ c ∈ l.take j, ¬ (conP picks c ∧ ∃ q, c[k]? = some q ∧ q.value = v)) (fun j => l.length - j) (by kernel_rfl) ?_ ?_
    · conv => whnf
      exact ⟨0, ⟨by omega, fun c hc => by simp at hc⟩, rfl⟩
    · intro j ⟨hj, hall⟩
      conv => whnf
      refine brLt (fun h2 => ?_) (fun h2 => ?_) <;> conv => whnf
      rotate_left
      · rw [List.take_of_length_le (by omega)] at hall
        have hno : ¬ OP v := fun h => by
          obtain ⟨c, hc, h3⟩ := (hop2 v).1 h
          exact hall c hc h3
        refine WrK_i64 (by omega) (by omega) ?_
        conv => whnf
        exact ⟨i + 1, hil, Nat.sub_lt_sub_left hil (Nat.lt_succ_self i), by dsimp only; rw [hn (tr_f hno)]; rfl⟩
      refine IxK_mapLt _ rfl (by omega) (fun c hc => ?_)
      conv => whnf
      have hjl := get_lt hc
      have hclc := hcl c (get_mem hc)
      have hcrc := hcr c (get_mem hc)
      have hq : c[k]? = some (c[k]'(by omega)) := List.getElem?_eq_getElem (by omega)
      generalize c[k]'(by omega) = q at hq
      have hnx : ∀ P : Prop, ¬ P → (conP picks c ∧ (∃ q, c[k]? = some q ∧ q.value = v) → P) → ∀ x ∈ l.take (j + 1), ¬ (conP picks x ∧ ∃ q, x[k]? = some q ∧ q.value = v) := fun P hP h3 x hx => by
        rw [take_snoc hc] at hx
        rcases List.mem_append.1 hx with hx | hx
        · exact hall x hx
        · rw [List.mem_singleton.1 hx]; exact fun h4 => hP (h3 h4)
      refine IxK_map k rfl hq ?_
      conv => whnf
      refine brStr (fun h3 => ?_) (fun h3 => ?_) <;> conv => whnf
      rotate_left
      · refine WrK_i64 (by omega) (by omega) ?_
        conv => whnf
        exact ⟨j + 1, ⟨hjl, hnx _ h3 (fun ⟨_, q', hq', e⟩ => by rw [hq] at hq'; cases hq'; exact e)⟩, Nat.sub_lt_sub_left hjl (Nat.lt_succ_self j), rfl⟩
      refine CallK_tr (c_impl_contains c ⟨by omega, hcrc.2⟩ picks hp) (fun h4 => ?_) (fun h4 => ?_) <;> conv => whnf
      rotate_left
      · refine WrK_i64 (by omega) (by omega) ?_
        conv => whnf
        exact ⟨j + 1, ⟨hjl, hnx _ h4 (fun h => h.1)⟩, Nat.sub_lt_sub_left hjl (Nat.lt_succ_self j), rfl⟩
      have hOP : OP v := (hop2 v).2 ⟨c, get_mem hc, h4, q, hq, h3⟩
      have hyv := hy (tr_t hOP)
      refine AppK_intro (n := out.length + 1) (xs' := (out ++ [v]).map sD) rfl (app_one rfl) (by omega) (by simp [D.width, Ty.width]) ?_
      conv => whnf
      refine WrK_i64 (by omega) (by omega) ?_
      conv => whnf
      exact ⟨i + 1, hil, Nat.sub_lt_sub_left hil (Nat.lt_succ_self i), by dsimp only; rw [hyv, List.length_append]; rfl⟩

end Go.DL
