/- Contracts of functions of the program, at this seat: what each call returns, by its arguments as data; each states its own conditions. -/
import Derived.Test.YthifncefbpmdiaaI
namespace Go.DL
set_option maxRecDepth 100000
set_option maxHeartbeats 2000000
set_option linter.unusedSimpArgs false
set_option linter.unusedVariables false
open Go.RowKit Go.Proofs Go.Proofs.Ythifncefbpmdiaa

def isLineP (cat : List ItemV) (x : LineV) : Prop := 0 ≤ idxOf cat x.parent ∧ 0 ≤ idxOf cat x.part ∧ (∀ y, cat[(idxOf cat x.parent).toNat]? = some y → y.kind ≠ 0) ∧ inP x.quantity 1 1000 ∧ inP x.start 0 999 ∧ inP x.stop x.start 999 ∧ isCondP x.when
def isBillsP (cat : List ItemV) (lines : List LineV) : Prop := isCatalogP cat ∧ lines.length ≤ 24 ∧ (∀ x ∈ lines, isLineP cat x) ∧ acycP cat lines
theorem linesIn_of {cat : List ItemV} {lines : List LineV} (h : ∀ x ∈ lines, isLineP cat x) : linesIn cat lines := fun x hx => ⟨(h x hx).1, (h x hx).2.1⟩
theorem bills_not {cat : List ItemV} {lines : List LineV} {i : Nat} {x : LineV} (hx : lines[i]? = some x) (h : ¬ isLineP cat x) : ¬ isBillsP cat lines := fun hp => h (hp.2.2.1 x (get_mem hx))

theorem c_impl_levels_y (cat : List ItemV) (hc : okL ItemV.ok cat) (lines : List LineV) (hl : okL LineV.ok lines) (hn : cat.length ≤ 12) (hm : lines.length ≤ 24) (hin : linesIn cat lines) (ha : acycP cat lines) : Contract Try.prog 97 [.d (lD ItemV.dat cat), .d (lD LineV.dat lines)] (.tup (.own ⟨3, 1, arrF cat.length (levOf cat lines)⟩) [bD true]) :=
  c_impl_levels0 cat hc lines hl hn hm hin _ ⟨fun _ => rfl, fun h => absurd ha h⟩
theorem c_impl_levels_n (cat : List ItemV) (hc : okL ItemV.ok cat) (lines : List LineV) (hl : okL LineV.ok lines) (hn : cat.length ≤ 12) (hm : lines.length ≤ 24) (hin : linesIn cat lines) (ha : ¬ acycP cat lines) : Contract Try.prog 97 [.d (lD ItemV.dat cat), .d (lD LineV.dat lines)] (.tup (.d (.sl [])) [bD false]) :=
  c_impl_levels0 cat hc lines hl hn hm hin _ ⟨fun h => absurd h ha, fun _ => rfl⟩

theorem c_spec_l9Levels_y (cat : List ItemV) (hc : okL ItemV.ok cat) (lines : List LineV) (hl : okL LineV.ok lines) (hn : cat.length ≤ 12) (hm : lines.length ≤ 24) (hin : linesIn cat lines) (ha : acycP cat lines) : Contract Try.prog 93 [.d (lD ItemV.dat cat), .d (lD LineV.dat lines)] (.one (.own ⟨3, 1, arrF cat.length (levOf cat lines)⟩)) :=
  c_spec_l9Levels0 cat hc lines hl hn hm hin _ ⟨fun _ => rfl, fun h => absurd ha h⟩
theorem c_spec_l9Levels_n (cat : List ItemV) (hc : okL ItemV.ok cat) (lines : List LineV) (hl : okL LineV.ok lines) (hn : cat.length ≤ 12) (hm : lines.length ≤ 24) (hin : linesIn cat lines) (ha : ¬ acycP cat lines) : Contract Try.prog 93 [.d (lD ItemV.dat cat), .d (lD LineV.dat lines)] (.one (.own ⟨3, 1, []⟩)) :=
  c_spec_l9Levels0 cat hc lines hl hn hm hin _ ⟨fun h => absurd h ha, fun _ => rfl⟩

set_option maxHeartbeats 4000000 in
theorem c_impl_IsBills (cat : List ItemV) (hc : okL ItemV.ok cat) (lines : List LineV) (hl : okL LineV.ok lines) : Contract Try.prog 96 [.d (lD ItemV.dat cat), .d (lD LineV.dat lines)] (.one (.d (bD (tr (isBillsP cat lines))))) := by
  refine contract_by hma hTa Try.func96 (by kernel_rfl) (by kernel_rfl) ?_
  have hl2 := hl
  obtain ⟨hlen, hok⟩ := hl2
  conv => whnf
  have e2 : (List.map LineV.dat lines).length = lines.length := List.length_map _
  refine CallK_tr (c_impl_IsCatalog _ hc) (fun hcat => ?_) (fun hcat => ?_) <;> conv => whnf
  rotate_left
  · exact bF (fun hp => hcat hp.1)
  refine brLt (fun h => ?_) (fun h => ?_) <;> conv => whnf
  · exact bF (fun hp => by have := hp.2.1; omega)
  have h24 : lines.length ≤ 24 := by omega
  refine LoopK_intro hma hTa [(0, .pl), (1, .pl), (4, .pl), (19, .pl), (20, .pl), (21, .pl)] (fun i : Nat => ⟨[(0, .d (lD ItemV.dat cat)), (1, .d (lD LineV.dat lines)), (4, .d (bD false)), (19, .d (lD LineV.dat lines)), (20, .d (iD (lines.map LineV.dat).length)), (21, .d (iD i))], [], []⟩) (fun i => i ≤ lines.length ∧ AllB lines (fun _ x => isLineP cat x) i) (fun i => lines.length - i) (by kernel_rfl) ?_ ?_
  · conv => whnf
    exact ⟨0, ⟨by omega, AllB_zero⟩, rfl⟩
  · intro i ⟨hi, hall⟩
    conv => whnf
    refine brLt (fun h => ?_) (fun h => ?_) <;> conv => whnf
    · refine IxK_mapLt _ rfl (by omega) (fun x hx => ?_)
      conv => whnf
      obtain ⟨k0, k1, k2, k3, k4, k5⟩ := hok _ (get_mem hx)
      have hil := get_lt hx
      refine CallK_intro (c_impl_FindItem _ hc _) ?_
      conv => whnf
      refine CallK_intro (c_impl_FindItem _ hc _) ?_
      conv => whnf
      refine brLt (fun h1 => ?_) (fun h1 => ?_) <;> conv => whnf
      · exact bF (bills_not hx (fun hp => by have := hp.1; unfold idxOf at this; omega))
      refine brLt (fun h2 => ?_) (fun h2 => ?_) <;> conv => whnf
      · exact bF (bills_not hx (fun hp => by have := hp.2.1; unfold idxOf at this; omega))
      obtain ⟨hp, hpl⟩ := idx_nat (c := x.parent) (cat := cat) h1
      refine IxK_map _ hp (x := cat[(idxOf cat x.parent).toNat]) (by simp) ?_
      conv => whnf
      have hy : cat[(idxOf cat x.parent).toNat]? = some cat[(idxOf cat x.parent).toNat] := by simp
      refine brEq (fun h3 => ?_) (fun h3 => ?_) <;> conv => whnf
      · exact bF (bills_not hx (fun hp => hp.2.2.1 _ hy h3))
      repeat' first
        | (refine brLt (fun h => ?_) (fun h => ?_) <;> conv => whnf)
        | (refine brLe (fun h => ?_) (fun h => ?_) <;> conv => whnf)
        | (refine brEq (fun h => ?_) (fun h => ?_) <;> conv => whnf)
        | (refine brTr (fun h => ?_) (fun h => ?_) <;> conv => whnf)
        | (refine brNTr (fun h => ?_) (fun h => ?_) <;> conv => whnf)
        | (refine brNLt (fun h => ?_) (fun h => ?_) <;> conv => whnf)
        | (refine brNLe (fun h => ?_) (fun h => ?_) <;> conv => whnf)
        | (refine brNEq (fun h => ?_) (fun h => ?_) <;> conv => whnf)
        | (refine brStr (fun h => ?_) (fun h => ?_) <;> conv => whnf)
        | (refine brNStr (fun h => ?_) (fun h => ?_) <;> conv => whnf)
        | (refine brStrLt (fun h => ?_) (fun h => ?_) <;> conv => whnf)
        | (refine brNStrLt (fun h => ?_) (fun h => ?_) <;> conv => whnf)
        | (refine brNBEq (fun h => ?_) (fun h => ?_) <;> conv => whnf)
        | (refine brBEq (fun h => ?_) (fun h => ?_) <;> conv => whnf)
        | (refine CallK_intro (c_impl_in _ _ _) ?_; conv => whnf)
        | (refine CallK_intro (c_impl_IsCond _ (by assumption)) ?_; conv => whnf)
        | (refine WrK_i64 (by omega) (by omega) ?_; conv => whnf)
        | (refine takeK_full (by first | exact rfl | exact (List.length_map _).symm | exact List.length_map _ | omega) ?_; conv => whnf)
        | (refine StrK_intro _ rfl (by assumption) ?_; conv => whnf)
        | (refine IxK_map _ rfl (by assumption) ?_; conv => whnf)
        | (refine StrK_lt _ rfl (by omega) (fun b hb => ?_); conv => whnf)
        | (refine IxK_mapLt _ rfl (by (try simp only [List.length_map] at *); omega) (fun x hx => ?_); conv => whnf)
        | (refine IxK_mapI (by omega) (by (try simp only [List.length_map] at *); omega) (fun j x hj hx => ?_); conv => whnf)
        | (refine NeedK_intro (by omega) ?_; conv => whnf)
      all_goals first
        | exact bF (bills_not hx (fun hp => ‹¬ inP x.quantity _ _› hp.2.2.2.1))
        | exact bF (bills_not hx (fun hp => ‹¬ inP x.start _ _› hp.2.2.2.2.1))
        | exact bF (bills_not hx (fun hp => ‹¬ inP x.stop _ _› hp.2.2.2.2.2.1))
        | exact bF (bills_not hx (fun hp => ‹¬ isCondP _› hp.2.2.2.2.2.2))
        | exact ⟨i + 1, ⟨hil, AllB_succ hx hall ⟨h1, h2, fun y hy2 => (by rw [hy] at hy2; cases hy2; exact h3), by assumption, by assumption, by assumption, by assumption⟩⟩, Nat.sub_lt_sub_left hil (Nat.lt_succ_self i), rfl⟩
    · have hlines := all_of hall (by omega)
      by_cases ha : acycP cat lines
      · refine CallK_intro (c_impl_levels_y cat hc lines hl hcat.2 h24 (linesIn_of hlines) ha) ?_
        conv => whnf
        exact bT ⟨hcat, h24, hlines, ha⟩
      · refine CallK_intro (c_impl_levels_n cat hc lines hl hcat.2 h24 (linesIn_of hlines) ha) ?_
        conv => whnf
        exact bF (fun hp => ha hp.2.2.2)

set_option maxHeartbeats 4000000 in
theorem c_spec_IsBills (cat : List ItemV) (hc : okL ItemV.ok cat) (lines : List LineV) (hl : okL LineV.ok lines) : Contract Try.prog 92 [.d (lD ItemV.dat cat), .d (lD LineV.dat lines)] (.one (.d (bD (tr (isBillsP cat lines))))) := by
  refine contract_by hma hTa Try.func92 (by kernel_rfl) (by kernel_rfl) ?_
  have hl2 := hl
  obtain ⟨hlen, hok⟩ := hl2
  conv => whnf
  have e1 : (List.map ItemV.dat cat).length = cat.length := List.length_map _
  have e2 : (List.map LineV.dat lines).length = lines.length := List.length_map _
  refine CallK_tr (c_spec_IsCatalog _ hc) (fun hcat => ?_) (fun hcat => ?_) <;> conv => whnf
  rotate_left
  · exact bF (fun hp => hcat hp.1)
  refine brLt (fun h => ?_) (fun h => ?_) <;> conv => whnf
  · exact bF (fun hp => by have := hp.2.1; omega)
  have h24 : lines.length ≤ 24 := by omega
  refine LoopK_intro hma hTa [(0, .pl), (1, .pl), (4, .pl), (5, .pl)] (fun i : Nat => ⟨[(0, .d (lD ItemV.dat cat)), (1, .d (lD LineV.dat lines)), (4, .d (bD false)), (5, .d (iD i))], [], []⟩) (fun i => i ≤ lines.length ∧ AllB lines (fun _ x => isLineP cat x) i) (fun i => lines.length - i) (by kernel_rfl) ?_ ?_
  · conv => whnf
    exact ⟨0, ⟨by omega, AllB_zero⟩, rfl⟩
  · intro i ⟨hi, hall⟩
    conv => whnf
    refine brLt (fun h => ?_) (fun h => ?_) <;> conv => whnf
    · refine IxK_mapLt _ rfl (by omega) (fun x hx => ?_)
      conv => whnf
      obtain ⟨k0, k1, k2, k3, k4, k5⟩ := hok _ (get_mem hx)
      have hil := get_lt hx
      refine CallK_intro (c_spec_FindItem _ hc _) ?_
      conv => whnf
      refine CallK_intro (c_spec_FindItem _ hc _) ?_
      conv => whnf
      refine brLt (fun h1 => ?_) (fun h1 => ?_) <;> conv => whnf
      · exact bF (bills_not hx (fun hp => by have := hp.1; unfold idxOf at this; omega))
      refine brLt (fun h2 => ?_) (fun h2 => ?_) <;> conv => whnf
      · exact bF (bills_not hx (fun hp => by have := hp.2.1; unfold idxOf at this; omega))
      obtain ⟨hp, hpl⟩ := idx_nat (c := x.parent) (cat := cat) h1
      refine IxK_map _ hp (x := cat[(idxOf cat x.parent).toNat]) (by simp) ?_
      conv => whnf
      have hy : cat[(idxOf cat x.parent).toNat]? = some cat[(idxOf cat x.parent).toNat] := by simp
      refine brEq (fun h3 => ?_) (fun h3 => ?_) <;> conv => whnf
      · exact bF (bills_not hx (fun hp => hp.2.2.1 _ hy h3))
      repeat' first
        | (refine brLt (fun h => ?_) (fun h => ?_) <;> conv => whnf)
        | (refine brLe (fun h => ?_) (fun h => ?_) <;> conv => whnf)
        | (refine brEq (fun h => ?_) (fun h => ?_) <;> conv => whnf)
        | (refine brTr (fun h => ?_) (fun h => ?_) <;> conv => whnf)
        | (refine brNTr (fun h => ?_) (fun h => ?_) <;> conv => whnf)
        | (refine brNLt (fun h => ?_) (fun h => ?_) <;> conv => whnf)
        | (refine brNLe (fun h => ?_) (fun h => ?_) <;> conv => whnf)
        | (refine brNEq (fun h => ?_) (fun h => ?_) <;> conv => whnf)
        | (refine brStr (fun h => ?_) (fun h => ?_) <;> conv => whnf)
        | (refine brNStr (fun h => ?_) (fun h => ?_) <;> conv => whnf)
        | (refine brStrLt (fun h => ?_) (fun h => ?_) <;> conv => whnf)
        | (refine brNStrLt (fun h => ?_) (fun h => ?_) <;> conv => whnf)
        | (refine brNBEq (fun h => ?_) (fun h => ?_) <;> conv => whnf)
        | (refine brBEq (fun h => ?_) (fun h => ?_) <;> conv => whnf)
        | (refine CallK_intro (c_spec_l1In _ _ _) ?_; conv => whnf)
        | (refine CallK_intro (c_spec_IsCond _ (by assumption)) ?_; conv => whnf)
        | (refine WrK_i64 (by omega) (by omega) ?_; conv => whnf)
        | (refine takeK_full (by first | exact rfl | exact (List.length_map _).symm | exact List.length_map _ | omega) ?_; conv => whnf)
        | (refine StrK_intro _ rfl (by assumption) ?_; conv => whnf)
        | (refine IxK_map _ rfl (by assumption) ?_; conv => whnf)
        | (refine StrK_lt _ rfl (by omega) (fun b hb => ?_); conv => whnf)
        | (refine IxK_mapLt _ rfl (by (try simp only [List.length_map] at *); omega) (fun x hx => ?_); conv => whnf)
        | (refine IxK_mapI (by omega) (by (try simp only [List.length_map] at *); omega) (fun j x hj hx => ?_); conv => whnf)
        | (refine NeedK_intro (by omega) ?_; conv => whnf)
      all_goals first
        | exact bF (bills_not hx (fun hp => ‹¬ inP x.quantity _ _› hp.2.2.2.1))
        | exact bF (bills_not hx (fun hp => ‹¬ inP x.start _ _› hp.2.2.2.2.1))
        | exact bF (bills_not hx (fun hp => ‹¬ inP x.stop _ _› hp.2.2.2.2.2.1))
        | exact bF (bills_not hx (fun hp => ‹¬ isCondP _› hp.2.2.2.2.2.2))
        | exact ⟨i + 1, ⟨hil, AllB_succ hx hall ⟨h1, h2, fun y hy2 => (by rw [hy] at hy2; cases hy2; exact h3), by assumption, by assumption, by assumption, by assumption⟩⟩, Nat.sub_lt_sub_left hil (Nat.lt_succ_self i), rfl⟩
    · have hlines := all_of hall (by omega)
      by_cases ha : acycP cat lines
      · refine CallK_intro (c_spec_l9Levels_y cat hc lines hl hcat.2 h24 (linesIn_of hlines) ha) ?_
        conv => whnf
        exact bB ⟨fun _ => ⟨hcat, h24, hlines, ha⟩, fun _ => by rw [eqB_iff, arrF_len, e1]⟩
      · refine CallK_intro (c_spec_l9Levels_n cat hc lines hl hcat.2 h24 (linesIn_of hlines) ha) ?_
        conv => whnf
        refine bB ⟨fun h3 => ?_, fun hp => absurd hp.2.2.2 ha⟩
        rw [eqB_iff] at h3
        simp at h3
        exfalso
        have h0 : lines = [] := by
          cases lines with
          | nil => rfl
          | cons x r =>
            have := findP_lt (fun y : ItemV => y.code = x.parent) cat
            have h4 := (hlines x (by simp)).1
            unfold idxOf at h4
            omega
        subst h0
        exact ha rfl

end Go.DL
