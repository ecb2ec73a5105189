/- Contracts of functions of the program, at this seat: what each call returns, by its arguments as data; each states its own conditions. -/
import Derived.Test.YthifncefbpmdiaaP7
namespace Go.DL
set_option maxRecDepth 100000
set_option maxHeartbeats 2000000
set_option linter.unusedSimpArgs false
set_option linter.unusedVariables false
open Go.RowKit Go.Proofs Go.Proofs.Ythifncefbpmdiaa

theorem ex_take_succ {α : Type} {l : List α} {i : Nat} {x : α} {p : α → Prop} (h : l[i]? = some x) : (∃ y ∈ l.take (i + 1), p y) ↔ (∃ y ∈ l.take i, p y) ∨ p x := by
  rw [take_snoc h]
  constructor
  · rintro ⟨y, hy, h2⟩
    rcases List.mem_append.1 hy with h3 | h3
    · exact .inl ⟨y, h3, h2⟩
    · simp at h3; subst h3; exact .inr h2
  · rintro (⟨y, hy, h2⟩ | h2)
    · exact ⟨y, List.mem_append_left _ hy, h2⟩
    · exact ⟨x, by simp, h2⟩
theorem ex_take_zero {α : Type} {l : List α} {p : α → Prop} : ¬ ∃ y ∈ l.take 0, p y := fun ⟨y, h, _⟩ => by simp at h

theorem c_spec_ParentsOf_n (cat : List ItemV) (hc : okL ItemV.ok cat) (lines : List LineV) (hl : okL LineV.ok lines) (p : ByteArray) (day : Int) (c : List PickV) (hB : ¬ isBillsP cat lines) : Contract Try.prog 44 [.d (lD ItemV.dat cat), .d (lD LineV.dat lines), .d (sD p), .d (iD day), .d (lD PickV.dat c)] (.one (.own ⟨9, 1, []⟩)) := by
  refine contract_by hma hTa Try.func44 (by kernel_rfl) (by kernel_rfl) ?_
  conv => whnf
  refine LoopK_intro hma hTa [(0, .pl), (1, .pl), (11, .key 11), (12, .pl)] (fun _ : Nat => ⟨[(0, .d (lD ItemV.dat cat)), (1, .d (lD LineV.dat lines)), (11, .av 11 0), (12, .d (iD 0))], [(11, some ⟨9, 1, []⟩)], []⟩) (fun _ => True) (fun i => i) (by kernel_rfl) ?_ ?_
  · conv => whnf
    exact ⟨0, trivial, rfl⟩
  · intro i _
    conv => whnf
    refine brLt (fun h => ?_) (fun h => ?_) <;> conv => whnf
    · refine CallK_tr (c_spec_IsBills _ hc _ hl) (fun h => absurd h hB) (fun _ => ?_)
      conv => whnf
      exact ⟨rfl, rfl, rfl, rfl⟩
    · exact ⟨rfl, rfl, rfl, rfl⟩
set_option maxHeartbeats 4000000 in
theorem c_spec_ParentsOf_y (cat : List ItemV) (hc : okL ItemV.ok cat) (lines : List LineV) (hl : okL LineV.ok lines) (p : ByteArray) (day : Int) (c : List PickV) (hcc : okL PickV.ok c) (hB : isBillsP cat lines) : Contract Try.prog 44 [.d (lD ItemV.dat cat), .d (lD LineV.dat lines), .d (sD p), .d (iD day), .d (lD PickV.dat c)] (.one (.own ⟨9, 1, (parentsN cat lines p day c).map sD⟩)) := by
  refine contract_by hma hTa Try.func44 (by kernel_rfl) (by kernel_rfl) ?_
  conv => whnf
  have hlen := hB.2.1
  have hcl : cat.length ≤ 12 := hB.1.2
  unfold parentsN
  generalize hQ : parP lines p day c = Q
  have hQ2 : ∀ it, Q it ↔ ∃ x ∈ lines, x.parent = it.code ∧ x.part = p ∧ onP day c x := fun it => by rw [← hQ]; exact Iff.rfl
  have e1 : (List.map ItemV.dat cat).length = cat.length := List.length_map _
  have e2 : (List.map LineV.dat lines).length = lines.length := List.length_map _
  refine LoopK_intro hma hTa [(0, .pl), (1, .pl), (2, .pl), (3, .pl), (4, .pl), (11, .key 11), (12, .pl)] (fun i : Nat => ⟨[(0, .d (lD ItemV.dat cat)), (1, .d (lD LineV.dat lines)), (2, .d (sD p)), (3, .d (iD day)), (4, .d (lD PickV.dat c)), (11, .av 11 (keepN Q (cat.take i)).length), (12, .d (iD i))], [(11, some ⟨9, 1, ((keepN Q (cat.take i)).map ItemV.code).map sD⟩)], []⟩) (fun i => i ≤ cat.length) (fun i => cat.length - i) (by kernel_rfl) ?_ ?_
  · conv => whnf
    exact ⟨0, by omega, rfl⟩
  · intro i hi
    have hkl := keep_len_take Q cat i
    conv => whnf
    refine brLt (fun h => ?_) (fun h => ?_) <;> conv => whnf
    · refine CallK_tr (c_spec_IsBills _ hc _ hl) (fun _ => ?_) (fun h => absurd hB h)
      conv => whnf
      have hil : i < cat.length := by omega
      obtain ⟨it, hit⟩ : ∃ it, cat[i]? = some it := ⟨cat[i], by simp [hil]⟩
      refine LoopK_intro hma hTa [(0, .pl), (1, .pl), (2, .pl), (3, .pl), (4, .pl), (11, .key 11), (12, .pl), (13, .pl), (14, .pl)] (fun k : Nat => ⟨[(0, .d (lD ItemV.dat cat)), (1, .d (lD LineV.dat lines)), (2, .d (sD p)), (3, .d (iD day)), (4, .d (lD PickV.dat c)), (11, .av 11 (keepN Q (cat.take i)).length), (12, .d (iD i)), (13, .d (bD (tr (∃ x ∈ lines.take k, x.parent = it.code ∧ x.part = p ∧ onP day c x)))), (14, .d (iD k))], [(11, some ⟨9, 1, ((keepN Q (cat.take i)).map ItemV.code).map sD⟩)], []⟩) (fun k => k ≤ lines.length) (fun k => lines.length - k) (by kernel_rfl) ?_ ?_
      · conv => whnf
        exact ⟨0, by omega, by rw [tr_f ex_take_zero]; rfl⟩
      · intro k hk
        conv => whnf
        refine brLt (fun h2 => ?_) (fun h2 => ?_) <;> conv => whnf
        · have hkl2 : k < lines.length := by omega
          obtain ⟨x, hx⟩ : ∃ x, lines[k]? = some x := ⟨lines[k], by simp [hkl2]⟩
          have hs := ex_take_succ (p := fun x : LineV => x.parent = it.code ∧ x.part = p ∧ onP day c x) hx
          have next : ∀ b : Bool, (b = true ↔ ∃ y ∈ lines.take (k + 1), y.parent = it.code ∧ y.part = p ∧ onP day c y) → ∃ a : Nat, a ≤ lines.length ∧ lines.length - a < lines.length - k ∧ (⟨[(0, .d (lD ItemV.dat cat)), (1, .d (lD LineV.dat lines)), (2, .d (sD p)), (3, .d (iD day)), (4, .d (lD PickV.dat c)), (11, .av 11 (keepN Q (cat.take i)).length), (12, .d (iD i)), (13, .d (bD b)), (14, .d (iD ((k : Int) + 1)))], [(11, some ⟨9, 1, ((keepN Q (cat.take i)).map ItemV.code).map sD⟩)], []⟩ : St) = ⟨[(0, .d (lD ItemV.dat cat)), (1, .d (lD LineV.dat lines)), (2, .d (sD p)), (3, .d (iD day)), (4, .d (lD PickV.dat c)), (11, .av 11 (keepN Q (cat.take i)).length), (12, .d (iD i)), (13, .d (bD (tr (∃ x ∈ lines.take a, x.parent = it.code ∧ x.part = p ∧ onP day c x)))), (14, .d (iD a))], [(11, some ⟨9, 1, ((keepN Q (cat.take i)).map ItemV.code).map sD⟩)], []⟩ :=
            fun b hb => ⟨k + 1, hkl2, Nat.sub_lt_sub_left hkl2 (Nat.lt_succ_self k), by rw [tr_bool hb]; rfl⟩
          refine brTr (fun h3 => ?_) (fun h3 => ?_) <;> conv => whnf
          · refine WrK_i64 (by omega) (by omega) ?_
            conv => whnf
            exact next true ⟨fun _ => hs.2 (.inl h3), fun _ => rfl⟩
          · refine IxK_map k rfl hx ?_
            conv => whnf
            refine IxK_map i rfl hit ?_
            conv => whnf
            refine brStr (fun h4 => ?_) (fun h4 => ?_) <;> conv => whnf
            · refine IxK_map k rfl hx ?_
              conv => whnf
              refine brStr (fun h5 => ?_) (fun h5 => ?_) <;> conv => whnf
              · refine IxK_map k rfl hx ?_
                conv => whnf
                refine CallK_tr (c_spec_l9On x (hl.2 x (get_mem hx)) (cond_of hB (get_mem hx)) day c hcc) (fun h6 => ?_) (fun h6 => ?_) <;> conv => whnf
                · refine WrK_i64 (by omega) (by omega) ?_
                  conv => whnf
                  exact next true ⟨fun _ => hs.2 (.inr ⟨h4, h5, h6⟩), fun _ => rfl⟩
                · refine WrK_i64 (by omega) (by omega) ?_
                  conv => whnf
                  exact next false ⟨(fun h => by cases h), fun h => ((hs.1 h).elim h3 (fun h => h6 h.2.2)).elim⟩
              · refine WrK_i64 (by omega) (by omega) ?_
                conv => whnf
                exact next false ⟨(fun h => by cases h), fun h => ((hs.1 h).elim h3 (fun h => h5 h.2.1)).elim⟩
            · refine WrK_i64 (by omega) (by omega) ?_
              conv => whnf
              exact next false ⟨(fun h => by cases h), fun h => ((hs.1 h).elim h3 (fun h => h4 h.1)).elim⟩
        · rw [List.take_of_length_le (l := lines) (by omega)]
          refine brTr (fun h3 => ?_) (fun h3 => ?_) <;> conv => whnf
          · have hy := keep_y (p := Q) hit ((hQ2 it).2 h3)
            refine IxK_map i rfl hit ?_
            conv => whnf
            refine AppK_intro (n := (keepN Q (cat.take i)).length + 1) (xs' := ((keepN Q (cat.take (i + 1))).map ItemV.code).map sD) rfl (by rw [hy]; exact app_two rfl) (by omega) (by simp [D.width, Ty.width]) ?_
            conv => whnf
            refine WrK_i64 (by omega) (by omega) ?_
            conv => whnf
            exact ⟨i + 1, hil, Nat.sub_lt_sub_left hil (Nat.lt_succ_self i), by dsimp only; rw [hy, List.length_append]; rfl⟩
          · have hy := keep_n (p := Q) hit (fun h => h3 ((hQ2 it).1 h))
            refine WrK_i64 (by omega) (by omega) ?_
            conv => whnf
            exact ⟨i + 1, hil, Nat.sub_lt_sub_left hil (Nat.lt_succ_self i), by dsimp only; rw [hy]; rfl⟩
    · rw [List.take_of_length_le (l := cat) (by omega)]
      exact ⟨rfl, rfl, by simp, rfl⟩

end Go.DL
