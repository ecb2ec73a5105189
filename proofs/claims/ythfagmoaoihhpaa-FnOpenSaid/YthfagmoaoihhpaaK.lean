/- Contracts of functions of the program, at this seat: what each call returns, by its arguments as data; each states its own conditions. -/
import Derived.Test.YthfagmoaoihhpaaJ
namespace Go.DL
set_option maxRecDepth 100000
set_option maxHeartbeats 2000000
set_option linter.unusedSimpArgs false
set_option linter.unusedVariables false
open Go.RowKit Go.Proofs Go.Proofs.Ythfagmoaoihhpaa

def distinctP (l : List ByteArray) : Prop := allP l (fun i x => isCodeP x ∧ AllB l (fun _ y => ¬ y = x) i)
theorem find_here {l : List ByteArray} {i : Nat} {x : ByteArray} (h : l[i]? = some x) : findP (fun y => y = x) l = (i : Int) ↔ AllB l (fun _ y => ¬ y = x) i := by
  constructor
  · intro e
    rcases findP_cases (fun y => y = x) l with ⟨h1, _⟩ | ⟨j, y, h1, h2, h3, h4⟩
    · omega
    · have : j = i := by omega
      subst this; exact h4
  · intro ha; exact findP_at h rfl ha
def isModelP (m : ModelV) : Prop := m.options.length ≤ 4 ∧ m.rules.length ≤ 6 ∧ (∀ o ∈ m.options, 1 ≤ o.values.length ∧ o.values.length ≤ 4 ∧ distinctP o.values) ∧ (∀ r ∈ m.rules, isCondP r) ∧ distinctP (m.options.map OptV.name)
theorem snoc_map {α β : Type} {f : α → β} {l : List α} {i : Nat} {x : α} (h : l[i]? = some x) : (l.take (i + 1)).map f = ((l.take i).map f).take i ++ [f x] := by
  rw [take_snoc h, List.map_append, List.take_of_length_le (l := (l.take i).map f) (by simp; omega)]
  rfl
noncomputable def optIdx (m : ModelV) (s : ByteArray) : Int := findP (fun o => o.name = s) m.options

theorem c_impl_indexOf (l : List ByteArray) (hl : okL okS l) (s : ByteArray) : Contract Try.prog 31 [.d (lD sD l), .d (sD s)] (.one (.d (iD (findP (fun x => x = s) l)))) := by
  refine contract_by hma hTa Try.func31 (by kernel_rfl) (by kernel_rfl) ?_
  obtain ⟨hlen, hok⟩ := hl
  conv => whnf
  have e1 : (List.map sD l).length = l.length := List.length_map _
  refine LoopK_intro hma hTa [(0, .pl), (1, .pl), (4, .pl), (7, .pl), (8, .pl), (9, .pl)] (fun i : Nat => ⟨[(0, .d (lD sD l)), (1, .d (sD s)), (4, .d (iD 0)), (7, .d (lD sD l)), (8, .d (iD (l.map sD).length)), (9, .d (iD i))], [], []⟩) (fun i => i ≤ l.length ∧ AllB l (fun _ y => ¬ y = s) i) (fun i => l.length - i) (by kernel_rfl) ?_ ?_
  · conv => whnf
    exact ⟨0, ⟨by omega, AllB_zero⟩, rfl⟩
  · intro i ⟨hi, hall⟩
    conv => whnf
    repeat' first
      | (refine brLt (fun h => ?_) (fun h => ?_) <;> conv => whnf)
      | (refine brLe (fun h => ?_) (fun h => ?_) <;> conv => whnf)
      | (refine brEq (fun h => ?_) (fun h => ?_) <;> conv => whnf)
      | (refine brTr (fun h => ?_) (fun h => ?_) <;> conv => whnf)
      | (refine brNTr (fun h => ?_) (fun h => ?_) <;> conv => whnf)
      | (refine brNLt (fun h => ?_) (fun h => ?_) <;> conv => whnf)
      | (refine brNLe (fun h => ?_) (fun h => ?_) <;> conv => whnf)
      | (refine brNEq (fun h => ?_) (fun h => ?_) <;> conv => whnf)
      | (refine brStr (fun h => ?_) (fun h => ?_) <;> conv => whnf)
      | (refine brNStr (fun h => ?_) (fun h => ?_) <;> conv => whnf)
      | (refine brStrLt (fun h => ?_) (fun h => ?_) <;> conv => whnf)
      | (refine brNStrLt (fun h => ?_) (fun h => ?_) <;> conv => whnf)
      | (refine brNBEq (fun h => ?_) (fun h => ?_) <;> conv => whnf)
      | (refine brBEq (fun h => ?_) (fun h => ?_) <;> conv => whnf)
      | (refine WrK_i64 (by omega) (by omega) ?_; conv => whnf)
      | (refine takeK_full (by first | exact rfl | exact (List.length_map _).symm | exact List.length_map _ | omega) ?_; conv => whnf)
      | (refine StrK_intro _ rfl (by assumption) ?_; conv => whnf)
      | (refine IxK_map _ rfl (by assumption) ?_; conv => whnf)
      | (refine StrK_lt _ rfl (by omega) (fun b hb => ?_); conv => whnf)
      | (refine IxK_mapLt _ rfl (by (try simp only [List.length_map] at *); omega) (fun x hx => ?_); conv => whnf)
      | (refine IxK_mapI (by omega) (by (try simp only [List.length_map] at *); omega) (fun j x hj hx => ?_); conv => whnf)
      | (refine NeedK_intro (by omega) ?_; conv => whnf)
    all_goals first
      | exact iE (findP_at ‹l[i]? = some _› (by assumption) hall).symm
      | exact ⟨i + 1, ⟨get_lt ‹l[i]? = some _›, AllB_succ ‹l[i]? = some _› hall (by assumption)⟩, (by show l.length - (i + 1) < l.length - i; omega), rfl⟩
      | exact iE (findP_none (by omega) hall).symm

theorem c_spec_l1Find (l : List ByteArray) (hl : okL okS l) (s : ByteArray) : Contract Try.prog 22 [.d (lD sD l), .d (sD s)] (.one (.d (iD (findP (fun x => x = s) l)))) := by
  refine contract_by hma hTa Try.func22 (by kernel_rfl) (by kernel_rfl) ?_
  obtain ⟨hlen, hok⟩ := hl
  conv => whnf
  have e1 : (List.map sD l).length = l.length := List.length_map _
  refine LoopK_intro hma hTa [(0, .pl), (1, .pl), (4, .pl), (5, .pl)] (fun i : Nat => ⟨[(0, .d (lD sD l)), (1, .d (sD s)), (4, .d (iD 0)), (5, .d (iD i))], [], []⟩) (fun i => i ≤ l.length ∧ AllB l (fun _ y => ¬ y = s) i) (fun i => l.length - i) (by kernel_rfl) ?_ ?_
  · conv => whnf
    exact ⟨0, ⟨by omega, AllB_zero⟩, rfl⟩
  · intro i ⟨hi, hall⟩
    conv => whnf
    repeat' first
      | (refine brLt (fun h => ?_) (fun h => ?_) <;> conv => whnf)
      | (refine brLe (fun h => ?_) (fun h => ?_) <;> conv => whnf)
      | (refine brEq (fun h => ?_) (fun h => ?_) <;> conv => whnf)
      | (refine brTr (fun h => ?_) (fun h => ?_) <;> conv => whnf)
      | (refine brNTr (fun h => ?_) (fun h => ?_) <;> conv => whnf)
      | (refine brNLt (fun h => ?_) (fun h => ?_) <;> conv => whnf)
      | (refine brNLe (fun h => ?_) (fun h => ?_) <;> conv => whnf)
      | (refine brNEq (fun h => ?_) (fun h => ?_) <;> conv => whnf)
      | (refine brStr (fun h => ?_) (fun h => ?_) <;> conv => whnf)
      | (refine brNStr (fun h => ?_) (fun h => ?_) <;> conv => whnf)
      | (refine brStrLt (fun h => ?_) (fun h => ?_) <;> conv => whnf)
      | (refine brNStrLt (fun h => ?_) (fun h => ?_) <;> conv => whnf)
      | (refine brNBEq (fun h => ?_) (fun h => ?_) <;> conv => whnf)
      | (refine brBEq (fun h => ?_) (fun h => ?_) <;> conv => whnf)
      | (refine WrK_i64 (by omega) (by omega) ?_; conv => whnf)
      | (refine takeK_full (by first | exact rfl | exact (List.length_map _).symm | exact List.length_map _ | omega) ?_; conv => whnf)
      | (refine StrK_intro _ rfl (by assumption) ?_; conv => whnf)
      | (refine IxK_map _ rfl (by assumption) ?_; conv => whnf)
      | (refine StrK_lt _ rfl (by omega) (fun b hb => ?_); conv => whnf)
      | (refine IxK_mapLt _ rfl (by (try simp only [List.length_map] at *); omega) (fun x hx => ?_); conv => whnf)
      | (refine IxK_mapI (by omega) (by (try simp only [List.length_map] at *); omega) (fun j x hj hx => ?_); conv => whnf)
      | (refine NeedK_intro (by omega) ?_; conv => whnf)
    all_goals first
      | exact iE (findP_at ‹l[i]? = some _› (by assumption) hall).symm
      | exact ⟨i + 1, ⟨get_lt ‹l[i]? = some _›, AllB_succ ‹l[i]? = some _› hall (by assumption)⟩, (by show l.length - (i + 1) < l.length - i; omega), rfl⟩
      | exact iE (findP_none (by omega) hall).symm

theorem c_impl_optionIn (m : ModelV) (hm : m.ok) (s : ByteArray) : Contract Try.prog 29 [.d m.dat, .d (sD s)] (.one (.d (iD (optIdx m s)))) := by
  refine contract_by hma hTa Try.func29 (by kernel_rfl) (by kernel_rfl) ?_
  obtain ⟨⟨hlen, hok⟩, _⟩ := hm
  conv => whnf
  have e1 : (List.map OptV.dat m.options).length = m.options.length := List.length_map _
  refine LoopK_intro hma hTa [(1, .pl), (4, .pl), (8, .pl), (9, .pl), (10, .pl)] (fun i : Nat => ⟨[(1, .d (sD s)), (4, .d (iD 0)), (8, .d (lD OptV.dat m.options)), (9, .d (iD (m.options.map OptV.dat).length)), (10, .d (iD i))], [], []⟩) (fun i => i ≤ m.options.length ∧ AllB m.options (fun _ (y : OptV) => ¬ y.name = s) i) (fun i => m.options.length - i) (by kernel_rfl) ?_ ?_
  · conv => whnf
    exact ⟨0, ⟨by omega, AllB_zero⟩, rfl⟩
  · intro i ⟨hi, hall⟩
    conv => whnf
    repeat' first
      | (refine brLt (fun h => ?_) (fun h => ?_) <;> conv => whnf)
      | (refine brLe (fun h => ?_) (fun h => ?_) <;> conv => whnf)
      | (refine brEq (fun h => ?_) (fun h => ?_) <;> conv => whnf)
      | (refine brTr (fun h => ?_) (fun h => ?_) <;> conv => whnf)
      | (refine brNTr (fun h => ?_) (fun h => ?_) <;> conv => whnf)
      | (refine brNLt (fun h => ?_) (fun h => ?_) <;> conv => whnf)
      | (refine brNLe (fun h => ?_) (fun h => ?_) <;> conv => whnf)
      | (refine brNEq (fun h => ?_) (fun h => ?_) <;> conv => whnf)
      | (refine brStr (fun h => ?_) (fun h => ?_) <;> conv => whnf)
      | (refine brNStr (fun h => ?_) (fun h => ?_) <;> conv => whnf)
      | (refine brStrLt (fun h => ?_) (fun h => ?_) <;> conv => whnf)
      | (refine brNStrLt (fun h => ?_) (fun h => ?_) <;> conv => whnf)
      | (refine brNBEq (fun h => ?_) (fun h => ?_) <;> conv => whnf)
      | (refine brBEq (fun h => ?_) (fun h => ?_) <;> conv => whnf)
      | (refine WrK_i64 (by omega) (by omega) ?_; conv => whnf)
      | (refine takeK_full (by first | exact rfl | exact (List.length_map _).symm | exact List.length_map _ | omega) ?_; conv => whnf)
      | (refine StrK_intro _ rfl (by assumption) ?_; conv => whnf)
      | (refine IxK_map _ rfl (by assumption) ?_; conv => whnf)
      | (refine StrK_lt _ rfl (by omega) (fun b hb => ?_); conv => whnf)
      | (refine IxK_mapLt _ rfl (by (try simp only [List.length_map] at *); omega) (fun x hx => ?_); conv => whnf)
      | (refine IxK_mapI (by omega) (by (try simp only [List.length_map] at *); omega) (fun j x hj hx => ?_); conv => whnf)
      | (refine NeedK_intro (by omega) ?_; conv => whnf)
    all_goals first
      | exact iE (findP_at ‹m.options[i]? = some _› (by assumption) hall).symm
      | exact ⟨i + 1, ⟨get_lt ‹m.options[i]? = some _›, AllB_succ ‹m.options[i]? = some _› hall (by assumption)⟩, (by show m.options.length - (i + 1) < m.options.length - i; omega), rfl⟩
      | exact iE (findP_none (by omega) hall).symm

theorem c_spec_l7Option (m : ModelV) (hm : m.ok) (s : ByteArray) : Contract Try.prog 21 [.d m.dat, .d (sD s)] (.one (.d (iD (optIdx m s)))) := by
  refine contract_by hma hTa Try.func21 (by kernel_rfl) (by kernel_rfl) ?_
  obtain ⟨⟨hlen, hok⟩, _⟩ := hm
  conv => whnf
  have e1 : (List.map OptV.dat m.options).length = m.options.length := List.length_map _
  refine LoopK_intro hma hTa [(1, .pl), (2, .key 2), (4, .pl), (5, .pl)] (fun i : Nat => ⟨[(1, .d (sD s)), (2, .ae 2 0), (4, .d (iD 0)), (5, .d (iD i))], [(2, some ⟨27, 2, [m.dat]⟩)], []⟩) (fun i => i ≤ m.options.length ∧ AllB m.options (fun _ (y : OptV) => ¬ y.name = s) i) (fun i => m.options.length - i) (by kernel_rfl) ?_ ?_
  · conv => whnf
    exact ⟨0, ⟨by omega, AllB_zero⟩, rfl⟩
  · intro i ⟨hi, hall⟩
    conv => whnf
    repeat' first
      | (refine brLt (fun h => ?_) (fun h => ?_) <;> conv => whnf)
      | (refine brLe (fun h => ?_) (fun h => ?_) <;> conv => whnf)
      | (refine brEq (fun h => ?_) (fun h => ?_) <;> conv => whnf)
      | (refine brTr (fun h => ?_) (fun h => ?_) <;> conv => whnf)
      | (refine brNTr (fun h => ?_) (fun h => ?_) <;> conv => whnf)
      | (refine brNLt (fun h => ?_) (fun h => ?_) <;> conv => whnf)
      | (refine brNLe (fun h => ?_) (fun h => ?_) <;> conv => whnf)
      | (refine brNEq (fun h => ?_) (fun h => ?_) <;> conv => whnf)
      | (refine brStr (fun h => ?_) (fun h => ?_) <;> conv => whnf)
      | (refine brNStr (fun h => ?_) (fun h => ?_) <;> conv => whnf)
      | (refine brStrLt (fun h => ?_) (fun h => ?_) <;> conv => whnf)
      | (refine brNStrLt (fun h => ?_) (fun h => ?_) <;> conv => whnf)
      | (refine brNBEq (fun h => ?_) (fun h => ?_) <;> conv => whnf)
      | (refine brBEq (fun h => ?_) (fun h => ?_) <;> conv => whnf)
      | (refine WrK_i64 (by omega) (by omega) ?_; conv => whnf)
      | (refine takeK_full (by first | exact rfl | exact (List.length_map _).symm | exact List.length_map _ | omega) ?_; conv => whnf)
      | (refine StrK_intro _ rfl (by assumption) ?_; conv => whnf)
      | (refine IxK_map _ rfl (by assumption) ?_; conv => whnf)
      | (refine StrK_lt _ rfl (by omega) (fun b hb => ?_); conv => whnf)
      | (refine IxK_mapLt _ rfl (by (try simp only [List.length_map] at *); omega) (fun x hx => ?_); conv => whnf)
      | (refine IxK_mapI (by omega) (by (try simp only [List.length_map] at *); omega) (fun j x hj hx => ?_); conv => whnf)
      | (refine NeedK_intro (by omega) ?_; conv => whnf)
    all_goals first
      | exact iE (findP_at ‹m.options[i]? = some _› (by assumption) hall).symm
      | exact ⟨i + 1, ⟨get_lt ‹m.options[i]? = some _›, AllB_succ ‹m.options[i]? = some _› hall (by assumption)⟩, (by show m.options.length - (i + 1) < m.options.length - i; omega), rfl⟩
      | exact iE (findP_none (by omega) hall).symm

theorem c_impl_different (l : List ByteArray) (hl : okL okS l) : Contract Try.prog 42 [.d (lD sD l)] (.one (.d (bD (tr (distinctP l))))) := by
  refine contract_by hma hTa Try.func42 (by kernel_rfl) (by kernel_rfl) ?_
  have hl2 := hl
  obtain ⟨hlen, hok⟩ := hl2
  conv => whnf
  have e1 : (List.map sD l).length = l.length := List.length_map _
  refine LoopK_intro hma hTa [(0, .pl), (2, .pl), (5, .pl), (6, .pl), (7, .pl)] (fun i : Nat => ⟨[(0, .d (lD sD l)), (2, .d (bD false)), (5, .d (lD sD l)), (6, .d (iD (l.map sD).length)), (7, .d (iD i))], [], []⟩) (fun i => i ≤ l.length ∧ AllB l (fun i x => isCodeP x ∧ AllB l (fun _ y => ¬ y = x) i) i) (fun i => l.length - i) (by kernel_rfl) ?_ ?_
  · conv => whnf
    exact ⟨0, ⟨by omega, AllB_zero⟩, rfl⟩
  · intro i ⟨hi, hall⟩
    conv => whnf
    repeat' first
      | (refine brLt (fun h => ?_) (fun h => ?_) <;> conv => whnf)
      | (refine brLe (fun h => ?_) (fun h => ?_) <;> conv => whnf)
      | (refine brEq (fun h => ?_) (fun h => ?_) <;> conv => whnf)
      | (refine brTr (fun h => ?_) (fun h => ?_) <;> conv => whnf)
      | (refine brNTr (fun h => ?_) (fun h => ?_) <;> conv => whnf)
      | (refine brNLt (fun h => ?_) (fun h => ?_) <;> conv => whnf)
      | (refine brNLe (fun h => ?_) (fun h => ?_) <;> conv => whnf)
      | (refine brNEq (fun h => ?_) (fun h => ?_) <;> conv => whnf)
      | (refine brStr (fun h => ?_) (fun h => ?_) <;> conv => whnf)
      | (refine brNStr (fun h => ?_) (fun h => ?_) <;> conv => whnf)
      | (refine brStrLt (fun h => ?_) (fun h => ?_) <;> conv => whnf)
      | (refine brNStrLt (fun h => ?_) (fun h => ?_) <;> conv => whnf)
      | (refine brNBEq (fun h => ?_) (fun h => ?_) <;> conv => whnf)
      | (refine brBEq (fun h => ?_) (fun h => ?_) <;> conv => whnf)
      | (refine CallK_intro (c_impl_IsCode _ (hok _ (get_mem ‹_›))) ?_; conv => whnf)
      | (refine CallK_intro (c_impl_indexOf _ hl _) ?_; conv => whnf)
      | (refine WrK_i64 (by omega) (by omega) ?_; conv => whnf)
      | (refine takeK_full (by first | exact rfl | exact (List.length_map _).symm | exact List.length_map _ | omega) ?_; conv => whnf)
      | (refine StrK_intro _ rfl (by assumption) ?_; conv => whnf)
      | (refine IxK_map _ rfl (by assumption) ?_; conv => whnf)
      | (refine StrK_lt _ rfl (by omega) (fun b hb => ?_); conv => whnf)
      | (refine IxK_mapLt _ rfl (by (try simp only [List.length_map] at *); omega) (fun x hx => ?_); conv => whnf)
      | (refine IxK_mapI (by omega) (by (try simp only [List.length_map] at *); omega) (fun j x hj hx => ?_); conv => whnf)
      | (refine NeedK_intro (by omega) ?_; conv => whnf)
    all_goals first
      | exact bF (allP_not ‹l[i]? = some _› (fun hp => ‹¬ isCodeP _› hp.1))
      | exact bF (allP_not ‹l[i]? = some _› (fun hp => ‹findP _ _ ≠ _› ((find_here ‹l[i]? = some _›).2 hp.2)))
      | exact ⟨i + 1, ⟨get_lt ‹l[i]? = some _›, AllB_succ ‹l[i]? = some _› hall ⟨by assumption, (find_here ‹l[i]? = some _›).1 (by assumption)⟩⟩, (by have := get_lt ‹l[i]? = some _›; show l.length - (i + 1) < l.length - i; omega), rfl⟩
      | exact bT (allP_of hall (by omega))

theorem c_spec_l7Codes (l : List ByteArray) (hl : okL okS l) (n : Int) : Contract Try.prog 34 [.d (lD sD l), .d (iD n)] (.one (.d (bD (tr (distinctP l ∧ 1 ≤ l.length ∧ (l.length : Int) ≤ n))))) := by
  refine contract_by hma hTa Try.func34 (by kernel_rfl) (by kernel_rfl) ?_
  have hl2 := hl
  obtain ⟨hlen, hok⟩ := hl2
  conv => whnf
  have e1 : (List.map sD l).length = l.length := List.length_map _
  refine LoopK_intro hma hTa [(0, .pl), (1, .pl), (4, .pl), (5, .pl)] (fun i : Nat => ⟨[(0, .d (lD sD l)), (1, .d (iD n)), (4, .d (bD false)), (5, .d (iD i))], [], []⟩) (fun i => i ≤ l.length ∧ AllB l (fun i x => isCodeP x ∧ AllB l (fun _ y => ¬ y = x) i) i) (fun i => l.length - i) (by kernel_rfl) ?_ ?_
  · conv => whnf
    exact ⟨0, ⟨by omega, AllB_zero⟩, rfl⟩
  · intro i ⟨hi, hall⟩
    conv => whnf
    repeat' first
      | (refine brLt (fun h => ?_) (fun h => ?_) <;> conv => whnf)
      | (refine brLe (fun h => ?_) (fun h => ?_) <;> conv => whnf)
      | (refine brEq (fun h => ?_) (fun h => ?_) <;> conv => whnf)
      | (refine brTr (fun h => ?_) (fun h => ?_) <;> conv => whnf)
      | (refine brNTr (fun h => ?_) (fun h => ?_) <;> conv => whnf)
      | (refine brNLt (fun h => ?_) (fun h => ?_) <;> conv => whnf)
      | (refine brNLe (fun h => ?_) (fun h => ?_) <;> conv => whnf)
      | (refine brNEq (fun h => ?_) (fun h => ?_) <;> conv => whnf)
      | (refine brStr (fun h => ?_) (fun h => ?_) <;> conv => whnf)
      | (refine brNStr (fun h => ?_) (fun h => ?_) <;> conv => whnf)
      | (refine brStrLt (fun h => ?_) (fun h => ?_) <;> conv => whnf)
      | (refine brNStrLt (fun h => ?_) (fun h => ?_) <;> conv => whnf)
      | (refine brNBEq (fun h => ?_) (fun h => ?_) <;> conv => whnf)
      | (refine brBEq (fun h => ?_) (fun h => ?_) <;> conv => whnf)
      | (refine CallK_intro (c_spec_IsCode _ (hok _ (get_mem ‹_›))) ?_; conv => whnf)
      | (refine CallK_intro (c_spec_l1Find _ hl _) ?_; conv => whnf)
      | (refine WrK_i64 (by omega) (by omega) ?_; conv => whnf)
      | (refine takeK_full (by first | exact rfl | exact (List.length_map _).symm | exact List.length_map _ | omega) ?_; conv => whnf)
      | (refine StrK_intro _ rfl (by assumption) ?_; conv => whnf)
      | (refine IxK_map _ rfl (by assumption) ?_; conv => whnf)
      | (refine StrK_lt _ rfl (by omega) (fun b hb => ?_); conv => whnf)
      | (refine IxK_mapLt _ rfl (by (try simp only [List.length_map] at *); omega) (fun x hx => ?_); conv => whnf)
      | (refine IxK_mapI (by omega) (by (try simp only [List.length_map] at *); omega) (fun j x hj hx => ?_); conv => whnf)
      | (refine NeedK_intro (by omega) ?_; conv => whnf)
    all_goals first
      | exact bF (fun hp => allP_not ‹l[i]? = some _› (fun hp => ‹¬ isCodeP _› hp.1) hp.1)
      | exact bF (fun hp => allP_not ‹l[i]? = some _› (fun hp => ‹findP _ _ ≠ _› ((find_here ‹l[i]? = some _›).2 hp.2)) hp.1)
      | exact ⟨i + 1, ⟨get_lt ‹l[i]? = some _›, AllB_succ ‹l[i]? = some _› hall ⟨by assumption, (find_here ‹l[i]? = some _›).1 (by assumption)⟩⟩, (by have := get_lt ‹l[i]? = some _›; show l.length - (i + 1) < l.length - i; omega), rfl⟩
      | exact bF (fun hp => by have := hp.2; omega)
      | exact bB ⟨fun h => ⟨allP_of hall (by omega), by rw [leB_iff] at h; omega⟩, fun h => by rw [leB_iff]; have := h.2; omega⟩

set_option maxHeartbeats 4000000 in
theorem c_impl_IsModel (m : ModelV) (hm : m.ok) : Contract Try.prog 30 [.d m.dat] (.one (.d (bD (tr (isModelP m))))) := by
  refine contract_by hma hTa Try.func30 (by kernel_rfl) (by kernel_rfl) ?_
  obtain ⟨⟨hlen, hok⟩, ⟨hlen2, hok2⟩⟩ := hm
  conv => whnf
  have e1 : (List.map OptV.dat m.options).length = m.options.length := List.length_map _
  have e2 : (List.map (lD NodeV.dat) m.rules).length = m.rules.length := List.length_map _
  refine brLt (fun h => ?_) (fun h => ?_) <;> conv => whnf
  · exact bF (fun hp => by have := hp.1; omega)
  refine brLt (fun h2 => ?_) (fun h2 => ?_) <;> conv => whnf
  · exact bF (fun hp => by have := hp.2.1; omega)
  refine LoopK_intro hma hTa [(1, .key 1), (2, .pl), (3, .key 3), (20, .pl), (21, .pl), (22, .pl)] (fun i : Nat => ⟨[(1, .ae 1 0), (2, .d (bD false)), (3, .av 3 i), (20, .d (lD OptV.dat m.options)), (21, .d (iD (m.options.map OptV.dat).length)), (22, .d (iD i))], [(1, some ⟨27, 2, [m.dat]⟩), (3, some ⟨9, 1, ((m.options.map OptV.name).take i).map sD⟩)], []⟩) (fun i => i ≤ m.options.length ∧ AllB m.options (fun _ o => 1 ≤ o.values.length ∧ o.values.length ≤ 4 ∧ distinctP o.values) i) (fun i => m.options.length - i) (by kernel_rfl) ?_ ?_
  · conv => whnf
    exact ⟨0, ⟨by omega, AllB_zero⟩, rfl⟩
  · intro i ⟨hi, hall⟩
    conv => whnf
    refine brLt (fun h3 => ?_) (fun h3 => ?_) <;> conv => whnf
    · refine IxK_mapLt _ rfl (by omega) (fun o ho => ?_)
      conv => whnf
      have hil := get_lt ho
      obtain ⟨k0, k1⟩ := hok _ (get_mem ho)
      have e3 : (List.map sD o.values).length = o.values.length := List.length_map _
      have hnm : (m.options.map OptV.name)[i]? = some o.name := by simp [ho]
      refine AppK_intro (n := i + 1) (xs' := ((m.options.map OptV.name).take (i + 1)).map sD) rfl (snoc_map hnm) (by omega) (by simp [D.width, Ty.width]) ?_
      conv => whnf
      repeat' first
        | (refine brLt (fun h => ?_) (fun h => ?_) <;> conv => whnf)
        | (refine brLe (fun h => ?_) (fun h => ?_) <;> conv => whnf)
        | (refine brEq (fun h => ?_) (fun h => ?_) <;> conv => whnf)
        | (refine brTr (fun h => ?_) (fun h => ?_) <;> conv => whnf)
        | (refine brNTr (fun h => ?_) (fun h => ?_) <;> conv => whnf)
        | (refine brNLt (fun h => ?_) (fun h => ?_) <;> conv => whnf)
        | (refine brNLe (fun h => ?_) (fun h => ?_) <;> conv => whnf)
        | (refine brNEq (fun h => ?_) (fun h => ?_) <;> conv => whnf)
        | (refine brStr (fun h => ?_) (fun h => ?_) <;> conv => whnf)
        | (refine brNStr (fun h => ?_) (fun h => ?_) <;> conv => whnf)
        | (refine brStrLt (fun h => ?_) (fun h => ?_) <;> conv => whnf)
        | (refine brNStrLt (fun h => ?_) (fun h => ?_) <;> conv => whnf)
        | (refine brNBEq (fun h => ?_) (fun h => ?_) <;> conv => whnf)
        | (refine brBEq (fun h => ?_) (fun h => ?_) <;> conv => whnf)
        | (refine CallK_intro (c_impl_in _ _ _) ?_; conv => whnf)
        | (refine CallK_intro (c_impl_different _ (by assumption)) ?_; conv => whnf)
        | (refine WrK_i64 (by omega) (by omega) ?_; conv => whnf)
        | (refine takeK_full (by first | exact rfl | exact (List.length_map _).symm | exact List.length_map _ | omega) ?_; conv => whnf)
        | (refine StrK_intro _ rfl (by assumption) ?_; conv => whnf)
        | (refine IxK_map _ rfl (by assumption) ?_; conv => whnf)
        | (refine StrK_lt _ rfl (by omega) (fun b hb => ?_); conv => whnf)
        | (refine IxK_mapLt _ rfl (by (try simp only [List.length_map] at *); omega) (fun x hx => ?_); conv => whnf)
        | (refine IxK_mapI (by omega) (by (try simp only [List.length_map] at *); omega) (fun j x hj hx => ?_); conv => whnf)
        | (refine NeedK_intro (by omega) ?_; conv => whnf)
      all_goals first
        | exact bF (fun hp => by have h5 := hp.2.2.1 o (get_mem ho); have h6 : ¬ inP _ _ _ := (by assumption); rw [e3] at h6; omega)
        | exact bF (fun hp => ‹¬ distinctP _› (hp.2.2.1 o (get_mem ho)).2.2)
        | exact ⟨i + 1, ⟨hil, AllB_succ ho hall ⟨by have h6 : inP _ _ _ := (by assumption); rw [e3] at h6; omega, by have h6 : inP _ _ _ := (by assumption); rw [e3] at h6; omega, by assumption⟩⟩, Nat.sub_lt_sub_left hil (Nat.lt_succ_self i), rfl⟩
    · have hopts := all_of hall (by omega)
      refine LoopK_intro hma hTa [(2, .pl), (3, .key 3), (44, .pl), (45, .pl), (46, .pl)] (fun j : Nat => ⟨[(2, .d (bD false)), (3, .av 3 i), (44, .d (lD (lD NodeV.dat) m.rules)), (45, .d (iD (m.rules.map (lD NodeV.dat)).length)), (46, .d (iD j))], [(3, some ⟨9, 1, ((m.options.map OptV.name).take i).map sD⟩)], []⟩) (fun j => j ≤ m.rules.length ∧ AllB m.rules (fun _ r => isCondP r) j) (fun j => m.rules.length - j) (by kernel_rfl) ?_ ?_
      · conv => whnf
        exact ⟨0, ⟨by omega, AllB_zero⟩, rfl⟩
      · intro j ⟨hj, hall2⟩
        conv => whnf
        repeat' first
          | (refine brLt (fun h => ?_) (fun h => ?_) <;> conv => whnf)
          | (refine brLe (fun h => ?_) (fun h => ?_) <;> conv => whnf)
          | (refine brEq (fun h => ?_) (fun h => ?_) <;> conv => whnf)
          | (refine brTr (fun h => ?_) (fun h => ?_) <;> conv => whnf)
          | (refine brNTr (fun h => ?_) (fun h => ?_) <;> conv => whnf)
          | (refine brNLt (fun h => ?_) (fun h => ?_) <;> conv => whnf)
          | (refine brNLe (fun h => ?_) (fun h => ?_) <;> conv => whnf)
          | (refine brNEq (fun h => ?_) (fun h => ?_) <;> conv => whnf)
          | (refine brStr (fun h => ?_) (fun h => ?_) <;> conv => whnf)
          | (refine brNStr (fun h => ?_) (fun h => ?_) <;> conv => whnf)
          | (refine brStrLt (fun h => ?_) (fun h => ?_) <;> conv => whnf)
          | (refine brNStrLt (fun h => ?_) (fun h => ?_) <;> conv => whnf)
          | (refine brNBEq (fun h => ?_) (fun h => ?_) <;> conv => whnf)
          | (refine brBEq (fun h => ?_) (fun h => ?_) <;> conv => whnf)
          | (refine CallK_intro (c_impl_IsCond _ (hok2 _ (get_mem ‹_›))) ?_; conv => whnf)
          | (refine WrK_i64 (by omega) (by omega) ?_; conv => whnf)
          | (refine takeK_full (by first | exact rfl | exact (List.length_map _).symm | exact List.length_map _ | omega) ?_; conv => whnf)
          | (refine StrK_intro _ rfl (by assumption) ?_; conv => whnf)
          | (refine IxK_map _ rfl (by assumption) ?_; conv => whnf)
          | (refine StrK_lt _ rfl (by omega) (fun b hb => ?_); conv => whnf)
          | (refine IxK_mapLt _ rfl (by (try simp only [List.length_map] at *); omega) (fun x hx => ?_); conv => whnf)
          | (refine IxK_mapI (by omega) (by (try simp only [List.length_map] at *); omega) (fun j x hj hx => ?_); conv => whnf)
          | (refine NeedK_intro (by omega) ?_; conv => whnf)
        all_goals first
          | exact bF (fun hp => ‹¬ isCondP _› (hp.2.2.2.1 _ (get_mem ‹m.rules[j]? = some _›)))
          | exact ⟨j + 1, ⟨get_lt ‹m.rules[j]? = some _›, AllB_succ ‹m.rules[j]? = some _› hall2 (by assumption)⟩, Nat.sub_lt_sub_left (get_lt ‹m.rules[j]? = some _›) (Nat.lt_succ_self j), rfl⟩
          | skip
        have hrules := all_of hall2 (by omega)
        have ei : i = m.options.length := by omega
        refine takeK_full (by simp; omega) ?_
        conv => whnf
        have en : (m.options.map OptV.name).take i = m.options.map OptV.name := List.take_of_length_le (by simp; omega)
        rw [en]
        refine CallK_intro (c_impl_different (m.options.map OptV.name) ⟨by simp; omega, fun v hv => ?_⟩) ?_
        · obtain ⟨o, ho, rfl⟩ := List.mem_map.1 hv
          exact (hok o ho).1
        · conv => whnf
          exact bP ⟨fun h5 => ⟨by omega, by omega, hopts, hrules, h5⟩, fun h5 => h5.2.2.2.2⟩

theorem distinct_of {m : ModelV} (h : allP m.options (fun i o => isCodeP o.name ∧ AllB m.options (fun _ y => ¬ y.name = o.name) i)) : distinctP (m.options.map OptV.name) := fun i x hx => by
  rw [List.getElem?_map, Option.map_eq_some_iff] at hx
  obtain ⟨o, ho, rfl⟩ := hx
  refine ⟨(h i o ho).1, fun j hj y hy => ?_⟩
  rw [List.getElem?_map, Option.map_eq_some_iff] at hy
  obtain ⟨o2, ho2, rfl⟩ := hy
  exact (h i o ho).2 j hj o2 ho2
theorem distinct_at {m : ModelV} (h : distinctP (m.options.map OptV.name)) {i : Nat} {o : OptV} (ho : m.options[i]? = some o) : isCodeP o.name ∧ AllB m.options (fun _ y => ¬ y.name = o.name) i := by
  have := h i o.name (by simp [ho])
  exact ⟨this.1, fun j hj y hy => this.2 j hj y.name (by simp [hy])⟩

set_option maxHeartbeats 4000000 in
theorem c_spec_IsModel (m : ModelV) (hm : m.ok) : Contract Try.prog 23 [.d m.dat] (.one (.d (bD (tr (isModelP m))))) := by
  refine contract_by hma hTa Try.func23 (by kernel_rfl) (by kernel_rfl) ?_
  obtain ⟨⟨hlen, hok⟩, ⟨hlen2, hok2⟩⟩ := hm
  conv => whnf
  have e1 : (List.map OptV.dat m.options).length = m.options.length := List.length_map _
  have e2 : (List.map (lD NodeV.dat) m.rules).length = m.rules.length := List.length_map _
  refine brLt (fun h => ?_) (fun h => ?_) <;> conv => whnf
  · exact bF (fun hp => by have := hp.1; omega)
  refine brLt (fun h2 => ?_) (fun h2 => ?_) <;> conv => whnf
  · exact bF (fun hp => by have := hp.2.1; omega)
  refine LoopK_intro hma hTa [(1, .key 1), (2, .pl), (3, .pl)] (fun i : Nat => ⟨[(1, .ae 1 0), (2, .d (bD false)), (3, .d (iD i))], [(1, some ⟨27, 2, [m.dat]⟩)], []⟩) (fun i => i ≤ m.options.length ∧ AllB m.options (fun i o => (1 ≤ o.values.length ∧ o.values.length ≤ 4 ∧ distinctP o.values) ∧ isCodeP o.name ∧ AllB m.options (fun _ y => ¬ y.name = o.name) i) i) (fun i => m.options.length - i) (by kernel_rfl) ?_ ?_
  · conv => whnf
    exact ⟨0, ⟨by omega, AllB_zero⟩, rfl⟩
  · intro i ⟨hi, hall⟩
    conv => whnf
    refine brLt (fun h3 => ?_) (fun h3 => ?_) <;> conv => whnf
    · refine IxK_mapLt _ rfl (by omega) (fun o ho => ?_)
      conv => whnf
      have hil := get_lt ho
      obtain ⟨k0, k1⟩ := hok _ (get_mem ho)
      refine CallK_tr (c_spec_IsCode _ k0) (fun hcd => ?_) (fun hcd => ?_) <;> conv => whnf
      rotate_left
      · exact bF (fun hp => hcd (distinct_at hp.2.2.2.2 ho).1)
      refine IxK_map _ rfl ho ?_
      conv => whnf
      refine CallK_tr (c_spec_l7Codes _ k1 _) (fun hv => ?_) (fun hv => ?_) <;> conv => whnf
      rotate_left
      · exact bF (fun hp => hv (by have h5 := hp.2.2.1 o (get_mem ho); exact ⟨h5.2.2, h5.1, by omega⟩))
      refine LoopK_intro hma hTa [(1, .key 1), (2, .pl), (3, .pl), (4, .pl)] (fun k : Nat => ⟨[(1, .ae 1 0), (2, .d (bD false)), (3, .d (iD i)), (4, .d (iD k))], [(1, some ⟨27, 2, [m.dat]⟩)], []⟩) (fun k => k ≤ i ∧ AllB m.options (fun _ y => ¬ y.name = o.name) k) (fun k => i - k) (by kernel_rfl) ?_ ?_
      · conv => whnf
        exact ⟨0, ⟨by omega, AllB_zero⟩, rfl⟩
      · intro k ⟨hk, hall2⟩
        conv => whnf
        refine brLt (fun h4 => ?_) (fun h4 => ?_) <;> conv => whnf
        · refine IxK_mapLt _ rfl (by omega) (fun o2 ho2 => ?_)
          conv => whnf
          refine IxK_map _ rfl ho ?_
          conv => whnf
          refine brStr (fun h5 => ?_) (fun h5 => ?_) <;> conv => whnf
          · exact bF (fun hp => (distinct_at hp.2.2.2.2 ho).2 k (by omega) o2 ho2 h5)
          · refine WrK_i64 (by omega) (by omega) ?_
            conv => whnf
            exact ⟨k + 1, ⟨by omega, AllB_succ ho2 hall2 h5⟩, (by show i - (k + 1) < i - k; omega), rfl⟩
        · have ek : k = i := by omega
          rw [ek] at hall2
          refine WrK_i64 (by omega) (by omega) ?_
          conv => whnf
          exact ⟨i + 1, ⟨hil, AllB_succ ho hall ⟨⟨hv.2.1, by have := hv.2.2; omega, hv.1⟩, hcd, hall2⟩⟩, Nat.sub_lt_sub_left hil (Nat.lt_succ_self i), rfl⟩
    · have hopts := allP_of hall (by omega)
      refine LoopK_intro hma hTa [(1, .key 1), (2, .pl), (5, .pl)] (fun j : Nat => ⟨[(1, .ae 1 0), (2, .d (bD false)), (5, .d (iD j))], [(1, some ⟨27, 2, [m.dat]⟩)], []⟩) (fun j => j ≤ m.rules.length ∧ AllB m.rules (fun _ r => isCondP r) j) (fun j => m.rules.length - j) (by kernel_rfl) ?_ ?_
      · conv => whnf
        exact ⟨0, ⟨by omega, AllB_zero⟩, rfl⟩
      · intro j ⟨hj, hall2⟩
        conv => whnf
        repeat' first
          | (refine brLt (fun h => ?_) (fun h => ?_) <;> conv => whnf)
          | (refine brLe (fun h => ?_) (fun h => ?_) <;> conv => whnf)
          | (refine brEq (fun h => ?_) (fun h => ?_) <;> conv => whnf)
          | (refine brTr (fun h => ?_) (fun h => ?_) <;> conv => whnf)
          | (refine brNTr (fun h => ?_) (fun h => ?_) <;> conv => whnf)
          | (refine brNLt (fun h => ?_) (fun h => ?_) <;> conv => whnf)
          | (refine brNLe (fun h => ?_) (fun h => ?_) <;> conv => whnf)
          | (refine brNEq (fun h => ?_) (fun h => ?_) <;> conv => whnf)
          | (refine brStr (fun h => ?_) (fun h => ?_) <;> conv => whnf)
          | (refine brNStr (fun h => ?_) (fun h => ?_) <;> conv => whnf)
          | (refine brStrLt (fun h => ?_) (fun h => ?_) <;> conv => whnf)
          | (refine brNStrLt (fun h => ?_) (fun h => ?_) <;> conv => whnf)
          | (refine brNBEq (fun h => ?_) (fun h => ?_) <;> conv => whnf)
          | (refine brBEq (fun h => ?_) (fun h => ?_) <;> conv => whnf)
          | (refine CallK_intro (c_spec_IsCond _ (hok2 _ (get_mem ‹_›))) ?_; conv => whnf)
          | (refine WrK_i64 (by omega) (by omega) ?_; conv => whnf)
          | (refine takeK_full (by first | exact rfl | exact (List.length_map _).symm | exact List.length_map _ | omega) ?_; conv => whnf)
          | (refine StrK_intro _ rfl (by assumption) ?_; conv => whnf)
          | (refine IxK_map _ rfl (by assumption) ?_; conv => whnf)
          | (refine StrK_lt _ rfl (by omega) (fun b hb => ?_); conv => whnf)
          | (refine IxK_mapLt _ rfl (by (try simp only [List.length_map] at *); omega) (fun x hx => ?_); conv => whnf)
          | (refine IxK_mapI (by omega) (by (try simp only [List.length_map] at *); omega) (fun j x hj hx => ?_); conv => whnf)
          | (refine NeedK_intro (by omega) ?_; conv => whnf)
        all_goals first
          | exact bF (fun hp => ‹¬ isCondP _› (hp.2.2.2.1 _ (get_mem ‹m.rules[j]? = some _›)))
          | exact ⟨j + 1, ⟨get_lt ‹m.rules[j]? = some _›, AllB_succ ‹m.rules[j]? = some _› hall2 (by assumption)⟩, Nat.sub_lt_sub_left (get_lt ‹m.rules[j]? = some _›) (Nat.lt_succ_self j), rfl⟩
          | exact bT ⟨by omega, by omega, fun o ho => (by obtain ⟨n, hn⟩ := List.getElem?_of_mem ho; exact (hopts n o hn).1), all_of hall2 (by omega), distinct_of (fun n o hn => (hopts n o hn).2)⟩

end Go.DL
