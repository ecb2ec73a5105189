/- Contracts of functions of the program, at this seat: what each call returns, by its arguments as data; each states its own conditions. -/
import Derived.Test.YtpobkpenfdibkaaA
namespace Go.DL
set_option maxRecDepth 100000
set_option maxHeartbeats 2000000
set_option linter.unusedSimpArgs false
set_option linter.unusedVariables false
open Go.RowKit Go.Proofs Go.Proofs.Ytpobkpenfdibkaa

theorem floor_eq {n d : Int} (hd : 1 ≤ d) : (if n.tmod d < 0 then n.tdiv d - 1 else n.tdiv d) = n / d := by
  have h1 := Int.mul_tdiv_add_tmod n d
  have h2 : n.tmod d < d := Int.tmod_lt_of_pos n (by omega)
  have h3 : -d < n.tmod d := by
    have := Int.lt_tmod_of_pos n (b := d) (by omega)
    omega
  symm
  split
  · rename_i h
    apply Int.le_antisymm
    · refine Int.lt_add_one_iff.1 ((Int.ediv_lt_iff_lt_mul (by omega)).2 ?_)
      rw [show n.tdiv d - 1 + 1 = n.tdiv d from by omega, Int.mul_comm]; omega
    · refine (Int.le_ediv_iff_mul_le (by omega)).2 ?_
      rw [Int.sub_mul, Int.mul_comm, Int.one_mul]; omega
  · apply Int.le_antisymm
    · refine Int.lt_add_one_iff.1 ((Int.ediv_lt_iff_lt_mul (by omega)).2 ?_)
      rw [Int.add_mul, Int.mul_comm, Int.one_mul]; omega
    · refine (Int.le_ediv_iff_mul_le (by omega)).2 ?_
      rw [Int.mul_comm]; omega
theorem tdiv_abs (n d : Int) : -n.natAbs ≤ n.tdiv d ∧ n.tdiv d ≤ n.natAbs := by
  have h := Int.natAbs_tdiv n d
  have h2 : n.natAbs.div d.natAbs ≤ n.natAbs := Nat.div_le_self _ _
  rw [← h] at h2
  omega

theorem c_impl_floorOf (n d : Int) (hn : -200000000000000 ≤ n ∧ n ≤ 200000000000000) (hd : 1 ≤ d) : Contract Try.prog 124 [.d (iD n), .d (iD d)] (.one (.d (iD (n / d)))) := by
  refine contract_by hma hTa Try.func124 (by kernel_rfl) (by kernel_rfl) ?_
  rw [← floor_eq hd]
  have hb := tdiv_abs n d
  conv => whnf
  repeat' first
    | (refine brLt (fun h => ?_) (fun h => ?_) <;> conv => whnf)
    | (refine brLe (fun h => ?_) (fun h => ?_) <;> conv => whnf)
    | (refine brEq (fun h => ?_) (fun h => ?_) <;> conv => whnf)
    | (refine brTr (fun h => ?_) (fun h => ?_) <;> conv => whnf)
    | (refine brNTr (fun h => ?_) (fun h => ?_) <;> conv => whnf)
    | (refine brNLt (fun h => ?_) (fun h => ?_) <;> conv => whnf)
    | (refine brNLe (fun h => ?_) (fun h => ?_) <;> conv => whnf)
    | (refine brNEq (fun h => ?_) (fun h => ?_) <;> conv => whnf)
    | (refine brStr (fun h => ?_) (fun h => ?_) <;> conv => whnf)
    | (refine brNStr (fun h => ?_) (fun h => ?_) <;> conv => whnf)
    | (refine brStrLt (fun h => ?_) (fun h => ?_) <;> conv => whnf)
    | (refine brNStrLt (fun h => ?_) (fun h => ?_) <;> conv => whnf)
    | (refine brNBEq (fun h => ?_) (fun h => ?_) <;> conv => whnf)
    | (refine brBEq (fun h => ?_) (fun h => ?_) <;> conv => whnf)
    | (refine WrK_i64 (by omega) (by omega) ?_; conv => whnf)
    | (refine takeK_full (by first | exact rfl | exact (List.length_map _).symm | exact List.length_map _ | omega) ?_; conv => whnf)
    | (refine StrK_intro _ rfl (by assumption) ?_; conv => whnf)
    | (refine IxK_map _ rfl (by assumption) ?_; conv => whnf)
    | (refine StrK_lt _ rfl (by omega) (fun b hb => ?_); conv => whnf)
    | (refine IxK_mapLt _ rfl (by (try simp only [List.length_map] at *); omega) (fun x hx => ?_); conv => whnf)
    | (refine IxK_mapI (by omega) (by (try simp only [List.length_map] at *); omega) (fun j x hj hx => ?_); conv => whnf)
    | (refine NeedK_intro (by omega) ?_; conv => whnf)
  all_goals first
    | exact iE (by rw [if_pos (by omega)])
    | exact iE (by rw [if_neg (by omega)])

theorem c_impl_ceilOf (n d : Int) (hn : -200000000000000 ≤ n ∧ n ≤ 200000000000000) (hd : 1 ≤ d) : Contract Try.prog 76 [.d (iD n), .d (iD d)] (.one (.d (iD (-(-n / d))))) := by
  refine contract_by hma hTa Try.func76 (by kernel_rfl) (by kernel_rfl) ?_
  have hb := tdiv_abs (-n) d
  have hf := floor_eq (n := -n) hd
  have hb2 : -200000000000001 ≤ -n / d ∧ -n / d ≤ 200000000000001 := by
    rw [← hf]; split <;> omega
  conv => whnf
  refine WrK_i64 (by omega) (by omega) ?_
  conv => whnf
  refine CallK_intro (c_impl_floorOf (0 - n) d (by omega) hd) ?_
  conv => whnf
  rw [show 0 - n = -n from by omega]
  refine WrK_i64 (by omega) (by omega) ?_
  conv => whnf
  exact iE (by omega)

theorem c_spec_l2Floor (n d : Int) (hn : -200000000000000 ≤ n ∧ n ≤ 200000000000000) (hd : 1 ≤ d) : Contract Try.prog 78 [.d (iD n), .d (iD d)] (.one (.d (iD (n / d)))) := by
  refine contract_by hma hTa Try.func78 (by kernel_rfl) (by kernel_rfl) ?_
  rw [← floor_eq hd]
  have hb := tdiv_abs n d
  conv => whnf
  repeat' first
    | (refine brLt (fun h => ?_) (fun h => ?_) <;> conv => whnf)
    | (refine brLe (fun h => ?_) (fun h => ?_) <;> conv => whnf)
    | (refine brEq (fun h => ?_) (fun h => ?_) <;> conv => whnf)
    | (refine brTr (fun h => ?_) (fun h => ?_) <;> conv => whnf)
    | (refine brNTr (fun h => ?_) (fun h => ?_) <;> conv => whnf)
    | (refine brNLt (fun h => ?_) (fun h => ?_) <;> conv => whnf)
    | (refine brNLe (fun h => ?_) (fun h => ?_) <;> conv => whnf)
    | (refine brNEq (fun h => ?_) (fun h => ?_) <;> conv => whnf)
    | (refine brStr (fun h => ?_) (fun h => ?_) <;> conv => whnf)
    | (refine brNStr (fun h => ?_) (fun h => ?_) <;> conv => whnf)
    | (refine brStrLt (fun h => ?_) (fun h => ?_) <;> conv => whnf)
    | (refine brNStrLt (fun h => ?_) (fun h => ?_) <;> conv => whnf)
    | (refine brNBEq (fun h => ?_) (fun h => ?_) <;> conv => whnf)
    | (refine brBEq (fun h => ?_) (fun h => ?_) <;> conv => whnf)
    | (refine WrK_i64 (by omega) (by omega) ?_; conv => whnf)
    | (refine takeK_full (by first | exact rfl | exact (List.length_map _).symm | exact List.length_map _ | omega) ?_; conv => whnf)
    | (refine StrK_intro _ rfl (by assumption) ?_; conv => whnf)
    | (refine IxK_map _ rfl (by assumption) ?_; conv => whnf)
    | (refine StrK_lt _ rfl (by omega) (fun b hb => ?_); conv => whnf)
    | (refine IxK_mapLt _ rfl (by (try simp only [List.length_map] at *); omega) (fun x hx => ?_); conv => whnf)
    | (refine IxK_mapI (by omega) (by (try simp only [List.length_map] at *); omega) (fun j x hj hx => ?_); conv => whnf)
    | (refine NeedK_intro (by omega) ?_; conv => whnf)
  all_goals first
    | exact iE (by rw [if_pos (by omega)])
    | exact iE (by rw [if_neg (by omega)])

noncomputable def grossOfN (x : ItemV) (q : Int) : Int := ifP (isItemP x ∧ inP q 0 1000000000) (-(-(q * 100) / (100 - x.scrap))) 0

theorem c_impl_GrossOf (x : ItemV) (hx : x.ok) (q : Int) : Contract Try.prog 24 [.d x.dat, .d (iD q)] (.tup (.d (iD (grossOfN x q))) [bD (tr (isItemP x ∧ inP q 0 1000000000))]) := by
  refine contract_by hma hTa Try.func24 (by kernel_rfl) (by kernel_rfl) ?_
  unfold grossOfN
  conv => whnf
  repeat' first
    | (refine brLt (fun h => ?_) (fun h => ?_) <;> conv => whnf)
    | (refine brLe (fun h => ?_) (fun h => ?_) <;> conv => whnf)
    | (refine brEq (fun h => ?_) (fun h => ?_) <;> conv => whnf)
    | (refine brTr (fun h => ?_) (fun h => ?_) <;> conv => whnf)
    | (refine brNTr (fun h => ?_) (fun h => ?_) <;> conv => whnf)
    | (refine brNLt (fun h => ?_) (fun h => ?_) <;> conv => whnf)
    | (refine brNLe (fun h => ?_) (fun h => ?_) <;> conv => whnf)
    | (refine brNEq (fun h => ?_) (fun h => ?_) <;> conv => whnf)
    | (refine brStr (fun h => ?_) (fun h => ?_) <;> conv => whnf)
    | (refine brNStr (fun h => ?_) (fun h => ?_) <;> conv => whnf)
    | (refine brStrLt (fun h => ?_) (fun h => ?_) <;> conv => whnf)
    | (refine brNStrLt (fun h => ?_) (fun h => ?_) <;> conv => whnf)
    | (refine brNBEq (fun h => ?_) (fun h => ?_) <;> conv => whnf)
    | (refine brBEq (fun h => ?_) (fun h => ?_) <;> conv => whnf)
    | (refine CallK_intro (c_impl_IsItem _ (by assumption)) ?_; conv => whnf)
    | (refine CallK_intro (c_impl_in _ _ _) ?_; conv => whnf)
    | (refine WrK_i64 (by omega) (by omega) ?_; conv => whnf)
    | (refine takeK_full (by first | exact rfl | exact (List.length_map _).symm | exact List.length_map _ | omega) ?_; conv => whnf)
    | (refine StrK_intro _ rfl (by assumption) ?_; conv => whnf)
    | (refine IxK_map _ rfl (by assumption) ?_; conv => whnf)
    | (refine StrK_lt _ rfl (by omega) (fun b hb => ?_); conv => whnf)
    | (refine IxK_mapLt _ rfl (by (try simp only [List.length_map] at *); omega) (fun x hx => ?_); conv => whnf)
    | (refine IxK_mapI (by omega) (by (try simp only [List.length_map] at *); omega) (fun j x hj hx => ?_); conv => whnf)
    | (refine NeedK_intro (by omega) ?_; conv => whnf)
  all_goals first | exact ⟨iF (by grind) rfl, bF (by grind), trivial⟩ | skip
  have h1 : isItemP x := by assumption
  have h2 : inP q 0 1000000000 := by assumption
  have hs := isItem_scrap h1
  repeat' first
    | (refine brLt (fun h => ?_) (fun h => ?_) <;> conv => whnf)
    | (refine brLe (fun h => ?_) (fun h => ?_) <;> conv => whnf)
    | (refine brEq (fun h => ?_) (fun h => ?_) <;> conv => whnf)
    | (refine brTr (fun h => ?_) (fun h => ?_) <;> conv => whnf)
    | (refine brNTr (fun h => ?_) (fun h => ?_) <;> conv => whnf)
    | (refine brNLt (fun h => ?_) (fun h => ?_) <;> conv => whnf)
    | (refine brNLe (fun h => ?_) (fun h => ?_) <;> conv => whnf)
    | (refine brNEq (fun h => ?_) (fun h => ?_) <;> conv => whnf)
    | (refine brStr (fun h => ?_) (fun h => ?_) <;> conv => whnf)
    | (refine brNStr (fun h => ?_) (fun h => ?_) <;> conv => whnf)
    | (refine brStrLt (fun h => ?_) (fun h => ?_) <;> conv => whnf)
    | (refine brNStrLt (fun h => ?_) (fun h => ?_) <;> conv => whnf)
    | (refine brNBEq (fun h => ?_) (fun h => ?_) <;> conv => whnf)
    | (refine brBEq (fun h => ?_) (fun h => ?_) <;> conv => whnf)
    | (refine CallK_intro (c_impl_ceilOf _ _ (by omega) (by omega)) ?_; conv => whnf)
    | (refine WrK_i64 (by omega) (by omega) ?_; conv => whnf)
    | (refine takeK_full (by first | exact rfl | exact (List.length_map _).symm | exact List.length_map _ | omega) ?_; conv => whnf)
    | (refine StrK_intro _ rfl (by assumption) ?_; conv => whnf)
    | (refine IxK_map _ rfl (by assumption) ?_; conv => whnf)
    | (refine StrK_lt _ rfl (by omega) (fun b hb => ?_); conv => whnf)
    | (refine IxK_mapLt _ rfl (by (try simp only [List.length_map] at *); omega) (fun x hx => ?_); conv => whnf)
    | (refine IxK_mapI (by omega) (by (try simp only [List.length_map] at *); omega) (fun j x hj hx => ?_); conv => whnf)
    | (refine NeedK_intro (by omega) ?_; conv => whnf)
  exact ⟨iT ⟨h1, h2⟩ rfl, bT ⟨h1, h2⟩, trivial⟩

theorem c_spec_GrossOf (x : ItemV) (hx : x.ok) (q : Int) : Contract Try.prog 25 [.d x.dat, .d (iD q)] (.tup (.d (iD (grossOfN x q))) [bD (tr (isItemP x ∧ inP q 0 1000000000))]) := by
  refine contract_by hma hTa Try.func25 (by kernel_rfl) (by kernel_rfl) ?_
  unfold grossOfN
  conv => whnf
  repeat' first
    | (refine brLt (fun h => ?_) (fun h => ?_) <;> conv => whnf)
    | (refine brLe (fun h => ?_) (fun h => ?_) <;> conv => whnf)
    | (refine brEq (fun h => ?_) (fun h => ?_) <;> conv => whnf)
    | (refine brTr (fun h => ?_) (fun h => ?_) <;> conv => whnf)
    | (refine brNTr (fun h => ?_) (fun h => ?_) <;> conv => whnf)
    | (refine brNLt (fun h => ?_) (fun h => ?_) <;> conv => whnf)
    | (refine brNLe (fun h => ?_) (fun h => ?_) <;> conv => whnf)
    | (refine brNEq (fun h => ?_) (fun h => ?_) <;> conv => whnf)
    | (refine brStr (fun h => ?_) (fun h => ?_) <;> conv => whnf)
    | (refine brNStr (fun h => ?_) (fun h => ?_) <;> conv => whnf)
    | (refine brStrLt (fun h => ?_) (fun h => ?_) <;> conv => whnf)
    | (refine brNStrLt (fun h => ?_) (fun h => ?_) <;> conv => whnf)
    | (refine brNBEq (fun h => ?_) (fun h => ?_) <;> conv => whnf)
    | (refine brBEq (fun h => ?_) (fun h => ?_) <;> conv => whnf)
    | (refine CallK_intro (c_spec_IsItem _ (by assumption)) ?_; conv => whnf)
    | (refine CallK_intro (c_spec_l1In _ _ _) ?_; conv => whnf)
    | (refine WrK_i64 (by omega) (by omega) ?_; conv => whnf)
    | (refine takeK_full (by first | exact rfl | exact (List.length_map _).symm | exact List.length_map _ | omega) ?_; conv => whnf)
    | (refine StrK_intro _ rfl (by assumption) ?_; conv => whnf)
    | (refine IxK_map _ rfl (by assumption) ?_; conv => whnf)
    | (refine StrK_lt _ rfl (by omega) (fun b hb => ?_); conv => whnf)
    | (refine IxK_mapLt _ rfl (by (try simp only [List.length_map] at *); omega) (fun x hx => ?_); conv => whnf)
    | (refine IxK_mapI (by omega) (by (try simp only [List.length_map] at *); omega) (fun j x hj hx => ?_); conv => whnf)
    | (refine NeedK_intro (by omega) ?_; conv => whnf)
  all_goals first | exact ⟨iF (by grind) rfl, bF (by grind), trivial⟩ | skip
  have h1 : isItemP x := by assumption
  have h2 : inP q 0 1000000000 := by assumption
  have hs := isItem_scrap h1
  have e : (0 - q) * 100 = -(q * 100) := by omega
  repeat' first
    | (refine brLt (fun h => ?_) (fun h => ?_) <;> conv => whnf)
    | (refine brLe (fun h => ?_) (fun h => ?_) <;> conv => whnf)
    | (refine brEq (fun h => ?_) (fun h => ?_) <;> conv => whnf)
    | (refine brTr (fun h => ?_) (fun h => ?_) <;> conv => whnf)
    | (refine brNTr (fun h => ?_) (fun h => ?_) <;> conv => whnf)
    | (refine brNLt (fun h => ?_) (fun h => ?_) <;> conv => whnf)
    | (refine brNLe (fun h => ?_) (fun h => ?_) <;> conv => whnf)
    | (refine brNEq (fun h => ?_) (fun h => ?_) <;> conv => whnf)
    | (refine brStr (fun h => ?_) (fun h => ?_) <;> conv => whnf)
    | (refine brNStr (fun h => ?_) (fun h => ?_) <;> conv => whnf)
    | (refine brStrLt (fun h => ?_) (fun h => ?_) <;> conv => whnf)
    | (refine brNStrLt (fun h => ?_) (fun h => ?_) <;> conv => whnf)
    | (refine brNBEq (fun h => ?_) (fun h => ?_) <;> conv => whnf)
    | (refine brBEq (fun h => ?_) (fun h => ?_) <;> conv => whnf)
    | (refine CallK_intro (c_spec_l2Floor _ _ (by omega) (by omega)) ?_; conv => whnf)
    | (refine WrK_i64 (by omega) (by omega) ?_; conv => whnf)
    | (refine takeK_full (by first | exact rfl | exact (List.length_map _).symm | exact List.length_map _ | omega) ?_; conv => whnf)
    | (refine StrK_intro _ rfl (by assumption) ?_; conv => whnf)
    | (refine IxK_map _ rfl (by assumption) ?_; conv => whnf)
    | (refine StrK_lt _ rfl (by omega) (fun b hb => ?_); conv => whnf)
    | (refine IxK_mapLt _ rfl (by (try simp only [List.length_map] at *); omega) (fun x hx => ?_); conv => whnf)
    | (refine IxK_mapI (by omega) (by (try simp only [List.length_map] at *); omega) (fun j x hj hx => ?_); conv => whnf)
    | (refine NeedK_intro (by omega) ?_; conv => whnf)
  rw [e]
  have hb := tdiv_abs (-(q * 100)) (100 - x.scrap)
  have hf := floor_eq (n := -(q * 100)) (d := 100 - x.scrap) (by omega)
  have hb2 : -200000000000001 ≤ -(q * 100) / (100 - x.scrap) ∧ -(q * 100) / (100 - x.scrap) ≤ 200000000000001 := by
    rw [← hf]; split <;> omega
  refine WrK_i64 (by omega) (by omega) ?_
  conv => whnf
  exact ⟨iT ⟨h1, h2⟩ (by omega), bT ⟨h1, h2⟩, trivial⟩

def upTo (day : Int) (f : FlowV) : Int := if f.day ≤ day then f.quantity else 0
theorem upTo_y {day : Int} {f : FlowV} (h : f.day ≤ day) : upTo day f = f.quantity := by unfold upTo; rw [if_pos h]
theorem upTo_n {day : Int} {f : FlowV} (h : day < f.day) : upTo day f = 0 := by unfold upTo; rw [if_neg (by omega)]
noncomputable def flowUpToN (l : List FlowV) (day : Int) : Int := ifP (areFlowsP l) (sumI (upTo day) l) 0
theorem flows_bound {l : List FlowV} (h : areFlowsP l) (day : Int) (i : Nat) : 0 ≤ sumI (upTo day) (l.take i) ∧ sumI (upTo day) (l.take i) ≤ 40000000000 := by
  have hb := sumI_bound_take (f := upTo day) (b := 1000000000) (l := l) (fun x hx => by
    obtain ⟨j, hj⟩ := List.getElem?_of_mem hx
    have := (h.1 j x hj).2.1
    unfold upTo; split <;> omega) i
  have : (l.take i).length ≤ l.length := by simp; omega
  have := h.2
  omega
theorem flowUpTo_bound (l : List FlowV) (day : Int) : 0 ≤ flowUpToN l day ∧ flowUpToN l day ≤ 40000000000 := by
  unfold flowUpToN
  by_cases h : areFlowsP l
  · rw [ifP_t h]
    have := flows_bound h day l.length
    rwa [List.take_length] at this
  · rw [ifP_f h]; omega

noncomputable def projectedN (s : Int) (r d : List FlowV) (day : Int) : Int := ifP (inP s 0 1000000000 ∧ areFlowsP r ∧ areFlowsP d) (s + flowUpToN r day - flowUpToN d day) 0

end Go.DL
