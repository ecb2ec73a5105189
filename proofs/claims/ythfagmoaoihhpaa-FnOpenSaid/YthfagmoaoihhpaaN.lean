/- Contracts of functions of the program, at this seat: what each call returns, by its arguments as data; each states its own conditions. -/
import Derived.Test.YthfagmoaoihhpaaK
namespace Go.DL
set_option maxRecDepth 100000
set_option maxHeartbeats 2000000
set_option linter.unusedSimpArgs false
set_option linter.unusedVariables false
open Go.RowKit Go.Proofs Go.Proofs.Ythfagmoaoihhpaa

def pickAt (m : ModelV) (p : PickV) : Prop := ∃ (k : Nat) (o : OptV), optIdx m p.option = (k : Int) ∧ m.options[k]? = some o ∧ 0 ≤ findP (fun x => x = p.value) o.values
def isPickAt (m : ModelV) (l : List PickV) (i : Nat) (p : PickV) : Prop := pickAt m p ∧ AllB l (fun _ q => ¬ q.option = p.option) i
def isPartialP (m : ModelV) (l : List PickV) : Prop := isModelP m ∧ allP l (isPickAt m l)
theorem optIdx_nat {m : ModelV} {s : ByteArray} (h : 0 ≤ optIdx m s) : ∃ (k : Nat) (o : OptV), optIdx m s = (k : Int) ∧ m.options[k]? = some o ∧ o.name = s := by
  rcases findP_cases (fun o : OptV => o.name = s) m.options with ⟨h1, _⟩ | ⟨i, x, h1, h2, h3, _⟩
  · unfold optIdx at h; omega
  · exact ⟨i, x, h1, h2, h3⟩

set_option maxHeartbeats 4000000 in
theorem c_impl_IsPartial (m : ModelV) (hm : m.ok) (l : List PickV) (hl : okL PickV.ok l) : Contract Try.prog 18 [.d m.dat, .d (lD PickV.dat l)] (.one (.d (bD (tr (isPartialP m l))))) := by
  refine contract_by hma hTa Try.func18 (by kernel_rfl) (by kernel_rfl) ?_
  have hm2 := hm
  obtain ⟨⟨hlen, hok⟩, _⟩ := hm2
  obtain ⟨hlen2, hok2⟩ := hl
  conv => whnf
  have e1 : (List.map OptV.dat m.options).length = m.options.length := List.length_map _
  have e2 : (List.map PickV.dat l).length = l.length := List.length_map _
  refine CallK_tr (c_impl_IsModel _ hm) (fun hmod => ?_) (fun hmod => ?_) <;> conv => whnf
  rotate_left
  · exact bF (fun hp => hmod hp.1)
  refine LoopK_intro hma hTa [(1, .pl), (2, .key 2), (4, .pl), (13, .pl), (14, .pl), (15, .pl)] (fun i : Nat => ⟨[(1, .d (lD PickV.dat l)), (2, .ae 2 0), (4, .d (bD false)), (13, .d (lD PickV.dat l)), (14, .d (iD (l.map PickV.dat).length)), (15, .d (iD i))], [(2, some ⟨27, 2, [m.dat]⟩)], []⟩) (fun i => i ≤ l.length ∧ AllB l (isPickAt m l) i) (fun i => l.length - i) (by kernel_rfl) ?_ ?_
  · conv => whnf
    exact ⟨0, ⟨by omega, AllB_zero⟩, rfl⟩
  · intro i ⟨hi, hall⟩
    conv => whnf
    refine brLt (fun h => ?_) (fun h => ?_) <;> conv => whnf
    rotate_left
    · exact bT ⟨hmod, allP_of hall (by omega)⟩
    refine IxK_mapLt _ rfl (by omega) (fun p hp => ?_)
    conv => whnf
    obtain ⟨k0, k1⟩ := hok2 _ (get_mem hp)
    have hil := get_lt hp
    refine CallK_intro (c_impl_optionIn _ hm _) ?_
    conv => whnf
    refine brLt (fun h1 => ?_) (fun h1 => ?_) <;> conv => whnf
    · exact bF (fun hq => allP_not hp (fun h2 => by obtain ⟨⟨k, o, h3, _⟩, _⟩ := h2; omega) hq.2)
    obtain ⟨k, o, h2, h3, h4⟩ := optIdx_nat h1
    refine IxK_map k h2 h3 ?_
    conv => whnf
    refine CallK_intro (c_impl_indexOf _ (hok _ (get_mem h3)).2 _) ?_
    conv => whnf
    refine brLt (fun h5 => ?_) (fun h5 => ?_) <;> conv => whnf
    · exact bF (fun hq => allP_not hp (fun h6 => by
        obtain ⟨⟨k', o', h7, h8, h9⟩, _⟩ := h6
        have ek : k' = k := by omega
        subst ek
        rw [h3] at h8; cases h8
        omega) hq.2)
    refine SlK_intro 0 i rfl rfl (by omega) (by omega) (wd fun _ => rfl) (zs := (l.take i).map PickV.dat) (by simp) ?_
    conv => whnf
    have e4 : ((l.take i).map PickV.dat).length = i := by simp; omega
    have e5 : (l.take i).length = i := by simp; omega
    refine LoopK_intro hma hTa [(1, .pl), (2, .key 2), (4, .pl), (13, .pl), (14, .pl), (15, .pl), (6, .key 6), (40, .pl), (41, .pl), (42, .pl)] (fun j : Nat => ⟨[(1, .d (lD PickV.dat l)), (2, .ae 2 0), (4, .d (bD false)), (13, .d (lD PickV.dat l)), (14, .d (iD (l.map PickV.dat).length)), (15, .d (iD i)), (6, .ae 6 0), (40, .d (lD PickV.dat (l.take i))), (41, .d (iD ((l.take i).map PickV.dat).length)), (42, .d (iD j))], [(2, some ⟨27, 2, [m.dat]⟩), (6, some ⟨42, 2, [p.dat]⟩)], []⟩) (fun j => j ≤ i ∧ AllB l (fun _ q => ¬ q.option = p.option) j) (fun j => i - j) (by kernel_rfl) ?_ ?_
    · conv => whnf
      exact ⟨0, ⟨by omega, AllB_zero⟩, rfl⟩
    · intro j ⟨hj, hall2⟩
      conv => whnf
      refine brLt (fun h6 => ?_) (fun h6 => ?_) <;> conv => whnf
      · refine IxK_mapLt _ rfl (by omega) (fun q hq => ?_)
        conv => whnf
        have hq2 := (get_take hq).1
        refine brStr (fun h7 => ?_) (fun h7 => ?_) <;> conv => whnf
        · exact bF (fun hq3 => allP_not hp (fun h8 => h8.2 j (by omega) q hq2 h7) hq3.2)
        · refine WrK_i64 (by omega) (by omega) ?_
          conv => whnf
          exact ⟨j + 1, ⟨by omega, AllB_succ hq2 hall2 h7⟩, (by show i - (j + 1) < i - j; omega), rfl⟩
      · have ej : j = i := by omega
        rw [ej] at hall2
        refine WrK_i64 (by omega) (by omega) ?_
        conv => whnf
        exact ⟨i + 1, ⟨hil, AllB_succ hp hall ⟨⟨k, o, h2, h3, h5⟩, hall2⟩⟩, Nat.sub_lt_sub_left hil (Nat.lt_succ_self i), rfl⟩

set_option maxHeartbeats 4000000 in
theorem c_spec_IsPartial (m : ModelV) (hm : m.ok) (l : List PickV) (hl : okL PickV.ok l) : Contract Try.prog 9 [.d m.dat, .d (lD PickV.dat l)] (.one (.d (bD (tr (isPartialP m l))))) := by
  refine contract_by hma hTa Try.func9 (by kernel_rfl) (by kernel_rfl) ?_
  have hm2 := hm
  obtain ⟨⟨hlen, hok⟩, _⟩ := hm2
  obtain ⟨hlen2, hok2⟩ := hl
  conv => whnf
  have e1 : (List.map OptV.dat m.options).length = m.options.length := List.length_map _
  have e2 : (List.map PickV.dat l).length = l.length := List.length_map _
  refine LoopK_intro hma hTa [(1, .pl), (2, .key 2), (4, .pl), (5, .pl)] (fun i : Nat => ⟨[(1, .d (lD PickV.dat l)), (2, .ae 2 0), (4, .d (bD false)), (5, .d (iD i))], [(2, some ⟨27, 2, [m.dat]⟩)], []⟩) (fun i => i ≤ l.length ∧ AllB l (isPickAt m l) i) (fun i => l.length - i) (by kernel_rfl) ?_ ?_
  · conv => whnf
    exact ⟨0, ⟨by omega, AllB_zero⟩, rfl⟩
  · intro i ⟨hi, hall⟩
    conv => whnf
    refine brLt (fun h => ?_) (fun h => ?_) <;> conv => whnf
    rotate_left
    · refine CallK_intro (c_spec_IsModel _ hm) ?_
      conv => whnf
      exact bP ⟨fun h1 => ⟨h1, allP_of hall (by omega)⟩, fun h1 => h1.1⟩
    refine IxK_mapLt _ rfl (by omega) (fun p hp => ?_)
    conv => whnf
    obtain ⟨k0, k1⟩ := hok2 _ (get_mem hp)
    have hil := get_lt hp
    refine CallK_intro (c_spec_l7Option _ hm _) ?_
    conv => whnf
    refine brLt (fun h1 => ?_) (fun h1 => ?_) <;> conv => whnf
    · exact bF (fun hq => allP_not hp (fun h2 => by obtain ⟨⟨k, o, h3, _⟩, _⟩ := h2; omega) hq.2)
    obtain ⟨k, o, h2, h3, h4⟩ := optIdx_nat h1
    refine IxK_map k h2 h3 ?_
    conv => whnf
    refine IxK_map _ rfl hp ?_
    conv => whnf
    refine CallK_intro (c_spec_l1Find _ (hok _ (get_mem h3)).2 _) ?_
    conv => whnf
    refine brLt (fun h5 => ?_) (fun h5 => ?_) <;> conv => whnf
    · exact bF (fun hq => allP_not hp (fun h6 => by
        obtain ⟨⟨k', o', h7, h8, h9⟩, _⟩ := h6
        have ek : k' = k := by omega
        subst ek
        rw [h3] at h8; cases h8
        omega) hq.2)
    refine LoopK_intro hma hTa [(1, .pl), (2, .key 2), (4, .pl), (5, .pl), (7, .pl)] (fun j : Nat => ⟨[(1, .d (lD PickV.dat l)), (2, .ae 2 0), (4, .d (bD false)), (5, .d (iD i)), (7, .d (iD j))], [(2, some ⟨27, 2, [m.dat]⟩)], []⟩) (fun j => j ≤ i ∧ AllB l (fun _ q => ¬ q.option = p.option) j) (fun j => i - j) (by kernel_rfl) ?_ ?_
    · conv => whnf
      exact ⟨0, ⟨by omega, AllB_zero⟩, rfl⟩
    · intro j ⟨hj, hall2⟩
      conv => whnf
      refine brLt (fun h6 => ?_) (fun h6 => ?_) <;> conv => whnf
      · refine IxK_mapLt _ rfl (by omega) (fun q hq2 => ?_)
        conv => whnf
        refine IxK_map _ rfl hp ?_
        conv => whnf
        refine brStr (fun h7 => ?_) (fun h7 => ?_) <;> conv => whnf
        · exact bF (fun hq3 => allP_not hp (fun h8 => h8.2 j (by omega) q hq2 h7) hq3.2)
        · refine WrK_i64 (by omega) (by omega) ?_
          conv => whnf
          exact ⟨j + 1, ⟨by omega, AllB_succ hq2 hall2 h7⟩, (by show i - (j + 1) < i - j; omega), rfl⟩
      · have ej : j = i := by omega
        rw [ej] at hall2
        refine WrK_i64 (by omega) (by omega) ?_
        conv => whnf
        exact ⟨i + 1, ⟨hil, AllB_succ hp hall ⟨⟨k, o, h2, h3, h5⟩, hall2⟩⟩, Nat.sub_lt_sub_left hil (Nat.lt_succ_self i), rfl⟩

end Go.DL
