/- Contracts of functions of the program, at this seat: what each call returns, by its arguments as data; each states its own conditions. -/
import Derived.Test.YtamhoddnnifbiaaUB
namespace Go.DL
set_option maxRecDepth 100000
set_option maxHeartbeats 2000000
set_option linter.unusedSimpArgs false
set_option linter.unusedVariables false
open Go.RowKit Go.Proofs Go.Proofs.Ytamhoddnnifbiaa

noncomputable def billsV (cat : List ItemV) (lines : List LineV) (day : Int) : List LineV := ifP (isBillsP cat lines) (billsN day lines) []
theorem c_impl_BillsOn_t (cat : List ItemV) (hc : okL ItemV.ok cat) (lines : List LineV) (hl : okL LineV.ok lines) (day : Int) (hB : isBillsP cat lines) : Contract Try.prog 34 [.d (lD ItemV.dat cat), .d (lD LineV.dat lines), .d (iD day)] (.one (.tr (.own 107 6 ((billsN day lines).map LineV.trd)))) := by
  refine contract_byR [400000 + 45, 400000 + 107, 600000 + 77] hma hTa Try.func34 (by kernel_rfl) (by kernel_rfl) ?_
  conv => whnf
  refine CallK_tr (c_impl_IsBills _ hc _ hl) (fun _ => ?_) (fun h => absurd hB h)
  conv => whnf
  have hlen := hB.2.1
  have e2 : (List.map LineV.dat lines).length = lines.length := List.length_map _
  refine LoopK_introR [400000 + 45, 400000 + 107, 600000 + 77] hma hTa [(2, .pl), (7, .tree 7), (17, .pl), (18, .pl), (19, .pl)] (fun i : Nat => ⟨[(2, .d (iD day)), (7, .fv 7 (billsN day (lines.take i)).length), (1000000 + 7, .fa ⟨107, 6, (billsN day (lines.take i)).map LineV.trd⟩), (17, .d (lD LineV.dat lines)), (18, .d (iD (lines.map LineV.dat).length)), (19, .d (iD i))], [(7, none)], []⟩) (fun i => i ≤ lines.length) (fun i => lines.length - i) (by kernel_rfl) ?_ ?_
  · conv => whnf
    refine ResK_same (pureL_nil).noRef ?_
    conv => whnf
    refine NoRefK_intro (pureL_nil).noRef ?_
    conv => whnf
    exact ⟨0, by omega, rfl⟩
  · intro i hi
    have hkl : (billsN day (lines.take i)).length ≤ lines.length := Nat.le_trans (bills_len _ _) (by simp; omega)
    conv => whnf
    refine brLt (fun h => ?_) (fun h => ?_) <;> conv => whnf
    · refine IxK_mapLt _ rfl (by omega) (fun x hx => ?_)
      conv => whnf
      have hil := get_lt hx
      have hyes := fun h => bills_y (day := day) hx h
      have hno := fun h => bills_n (day := day) hx h
      generalize billsN day (lines.take i) = pre at hkl hyes hno ⊢
      refine brLe (fun h1 => ?_) (fun h1 => ?_) <;> conv => whnf
      rotate_left
      · refine WrK_i64 (by omega) (by omega) ?_
        conv => whnf
        refine ResK_same (pureL_map trd_pure _).noRef ?_
        conv => whnf
        refine NoRefK_intro (pureL_map trd_pure _).noRef ?_
        conv => whnf
        exact ⟨i + 1, hil, Nat.sub_lt_sub_left hil (Nat.lt_succ_self i), by dsimp only; rw [hno (fun h => by have := h.1; omega)]; rfl⟩
      refine brLe (fun h2 => ?_) (fun h2 => ?_) <;> conv => whnf
      rotate_left
      · refine WrK_i64 (by omega) (by omega) ?_
        conv => whnf
        refine ResK_same (pureL_map trd_pure _).noRef ?_
        conv => whnf
        refine NoRefK_intro (pureL_map trd_pure _).noRef ?_
        conv => whnf
        exact ⟨i + 1, hil, Nat.sub_lt_sub_left hil (Nat.lt_succ_self i), by dsimp only; rw [hno (fun h => by have := h.2; omega)]; rfl⟩
      refine CallK_intro (c_impl_copyLineT x (by have := (cond_of hB (get_mem hx)).1; omega)) ?_
      conv => whnf
      refine NeedK_intro (trd_ok x) ?_
      conv => whnf
      refine NeedK_intro (by simp) ?_
      conv => whnf
      refine NeedK_intro (by simp) ?_
      conv => whnf
      refine NeedK_intro okLine ?_
      conv => whnf
      refine apLine rfl (by omega) rfl ?_
      conv => whnf
      refine WrK_i64 (by omega) (by omega) ?_
      conv => whnf
      refine resLine pre (dayL day x) rfl (by decide) ?_
      conv => whnf
      refine NoRefK_intro (pureL_map trd_pure _).noRef ?_
      conv => whnf
      exact ⟨i + 1, hil, Nat.sub_lt_sub_left hil (Nat.lt_succ_self i), by dsimp only; rw [hyes ⟨h1, h2⟩, List.length_append]; rfl⟩
    · rw [List.take_of_length_le (l := lines) (by omega)]
      exact ⟨rfl, rfl, by simp, rfl, pureL_map trd_pure _⟩
theorem c_impl_BillsOnT (cat : List ItemV) (hc : okL ItemV.ok cat) (lines : List LineV) (hl : okL LineV.ok lines) (day : Int) : Contract Try.prog 34 [.d (lD ItemV.dat cat), .d (lD LineV.dat lines), .d (iD day)] (.one (.tr (.own 107 6 ((billsV cat lines day).map LineV.trd)))) := by
  by_cases hB : isBillsP cat lines
  · rw [show billsV cat lines day = billsN day lines from ifP_t hB]
    exact c_impl_BillsOn_t cat hc lines hl day hB
  · rw [show billsV cat lines day = [] from ifP_f hB]
    refine contract_byR [400000 + 45] hma hTa Try.func34 (by kernel_rfl) (by kernel_rfl) ?_
    conv => whnf
    refine CallK_tr (c_impl_IsBills _ hc _ hl) (fun h => absurd h hB) (fun _ => ?_)
    conv => whnf
    exact ⟨rfl, rfl, rfl, rfl, pureL_nil⟩

theorem c_spec_BillsOnV (cat : List ItemV) (hc : okL ItemV.ok cat) (lines : List LineV) (hl : okL LineV.ok lines) (day : Int) : Contract Try.prog 33 [.d (lD ItemV.dat cat), .d (lD LineV.dat lines), .d (iD day)] (.one (.own ⟨107, 6, (billsV cat lines day).map LineV.dat⟩)) := by
  by_cases hB : isBillsP cat lines
  · rw [show billsV cat lines day = billsN day lines from ifP_t hB]
    exact c_spec_BillsOn_y cat hc lines hl day hB
  · rw [show billsV cat lines day = [] from ifP_f hB]
    refine contract_by hma hTa Try.func33 (by kernel_rfl) (by kernel_rfl) ?_
    conv => whnf
    refine LoopK_intro hma hTa [(0, .pl), (1, .pl), (2, .pl), (7, .key 7), (8, .pl)] (fun _ : Unit => ⟨[(0, .d (lD ItemV.dat cat)), (1, .d (lD LineV.dat lines)), (2, .d (iD day)), (7, .av 7 0), (8, .d (iD 0))], [(7, some ⟨107, 6, []⟩)], []⟩) (fun _ => True) (fun _ => 0) (by kernel_rfl) ?_ ?_
    · conv => whnf
      exact ⟨(), trivial, rfl⟩
    · intro _ _
      conv => whnf
      refine brLt (fun h => ?_) (fun h => ?_) <;> conv => whnf
      · refine CallK_tr (c_spec_IsBills _ hc _ hl) (fun h => absurd h hB) (fun _ => ?_)
        conv => whnf
        exact ⟨rfl, rfl, rfl, rfl⟩
      · exact ⟨rfl, rfl, rfl, rfl⟩

theorem c_spec_l11Same (a b : List NodeV) (ha : okL NodeV.ok a) (hb : okL NodeV.ok b) : Contract Try.prog 78 [.d (lD NodeV.dat a), .d (lD NodeV.dat b)] (.one (.d (bD (tr (a = b))))) := by
  refine contract_by hma hTa Try.func78 (by kernel_rfl) (by kernel_rfl) ?_
  have e1 : (List.map NodeV.dat a).length = a.length := List.length_map _
  have e2 : (List.map NodeV.dat b).length = b.length := List.length_map _
  have ha1 := ha.1
  conv => whnf
  refine brNEq (fun h => ?_) (fun h => ?_) <;> conv => whnf
  rotate_left
  · exact bF (fun e => h (by rw [e]))
  refine LoopK_intro hma hTa [(0, .pl), (1, .pl), (5, .pl)] (fun i : Nat => ⟨[(0, .d (lD NodeV.dat a)), (1, .d (lD NodeV.dat b)), (5, .d (iD i))], [], []⟩) (fun i => i ≤ a.length ∧ a.take i = b.take i) (fun i => a.length - i) (by kernel_rfl) ?_ ?_
  · conv => whnf
    exact ⟨0, ⟨by omega, rfl⟩, rfl⟩
  · intro i ⟨hi, he⟩
    conv => whnf
    refine brLt (fun h1 => ?_) (fun h1 => ?_) <;> conv => whnf
    rotate_left
    · refine bT ?_
      rw [List.take_of_length_le (by omega), List.take_of_length_le (by omega)] at he
      exact he
    have hil : i < a.length := by omega
    have hib : i < b.length := by omega
    have hx : a[i]? = some a[i] := List.getElem?_eq_getElem hil
    have hy : b[i]? = some b[i] := List.getElem?_eq_getElem hib
    have hne : ∀ x y : NodeV, a[i]? = some x → b[i]? = some y → a = b → x = y := fun x y h1 h2 e => by rw [e, h2] at h1; exact (Option.some.inj h1).symm
    have hco : ∀ x y : NodeV, a[i]? = some x → b[i]? = some y → x = y → a.take (i + 1) = b.take (i + 1) := fun x y h1 h2 e => by rw [take_snoc h1, take_snoc h2, he, e]
    generalize a[i] = x at hx
    generalize b[i] = y at hy
    refine IxK_map i rfl hx ?_
    conv => whnf
    refine IxK_map i rfl hy ?_
    conv => whnf
    refine brNB (fun h2 => ?_) (fun h2 => ?_) <;> conv => whnf
    · have hxy : x = y := by
        obtain ⟨x1, x2, x3⟩ := x
        obtain ⟨y1, y2, y3⟩ := y
        simp only [Bool.and_eq_true, eqB_iff, strEq_iff] at h2
        obtain ⟨rfl, rfl, rfl, _⟩ := h2
        rfl
      refine WrK_i64 (by omega) (by omega) ?_
      conv => whnf
      exact ⟨i + 1, ⟨hil, hco x y hx hy hxy⟩, Nat.sub_lt_sub_left hil (Nat.lt_succ_self i), rfl⟩
    · refine bF (fun e => ?_)
      have := hne x y hx hy e
      subst this
      have h3 : ∀ n : Int, eqB n n = true := fun n => eqB_iff.2 rfl
      have h4 : ∀ s : ByteArray, strEq s s = true := fun s => strEq_iff.2 rfl
      simp [h3, h4] at h2

end Go.DL
