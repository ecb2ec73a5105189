/- Contracts of functions of the program, at this seat: what each call returns, by its arguments as data; each states its own conditions. -/
import Derived.Test.YthfagmoaoihhpaaT
namespace Go.DL
set_option maxRecDepth 100000
set_option maxHeartbeats 2000000
set_option linter.unusedSimpArgs false
set_option linter.unusedVariables false
open Go.RowKit Go.Proofs Go.Proofs.Ythfagmoaoihhpaa

def codeCh (i : Nat) (b : UInt8) : Prop := (65 ≤ b.toNat ∧ b.toNat ≤ 90) ∨ (i ≠ 0 ∧ ((48 ≤ b.toNat ∧ b.toNat ≤ 57) ∨ b.toNat = 45))
def isCodeP (s : ByteArray) : Prop := (∀ i b, s[i]? = some b → codeCh i b) ∧ 1 ≤ s.size ∧ s.size ≤ 8
abbrev inP (n a b : Int) : Prop := a ≤ n ∧ n ≤ b

theorem c_impl_in (n a b : Int) : Contract Try.prog 41 [.d (iD n), .d (iD a), .d (iD b)] (.one (.d (bD (tr (inP n a b))))) := by
  refine contract_by hma hTa Try.func41 (by kernel_rfl) (by kernel_rfl) ?_
  conv => whnf
  repeat' first
    | (refine brLt (fun h => ?_) (fun h => ?_) <;> conv => whnf)
    | (refine brLe (fun h => ?_) (fun h => ?_) <;> conv => whnf)
    | (refine brEq (fun h => ?_) (fun h => ?_) <;> conv => whnf)
    | (refine brTr (fun h => ?_) (fun h => ?_) <;> conv => whnf)
    | (refine brNTr (fun h => ?_) (fun h => ?_) <;> conv => whnf)
    | (refine brNLt (fun h => ?_) (fun h => ?_) <;> conv => whnf)
    | (refine brNLe (fun h => ?_) (fun h => ?_) <;> conv => whnf)
    | (refine brNEq (fun h => ?_) (fun h => ?_) <;> conv => whnf)
    | (refine brStr (fun h => ?_) (fun h => ?_) <;> conv => whnf)
    | (refine brNStr (fun h => ?_) (fun h => ?_) <;> conv => whnf)
    | (refine brStrLt (fun h => ?_) (fun h => ?_) <;> conv => whnf)
    | (refine brNStrLt (fun h => ?_) (fun h => ?_) <;> conv => whnf)
    | (refine brNBEq (fun h => ?_) (fun h => ?_) <;> conv => whnf)
    | (refine brBEq (fun h => ?_) (fun h => ?_) <;> conv => whnf)
    | (refine WrK_i64 (by omega) (by omega) ?_; conv => whnf)
    | (refine takeK_full (by first | exact rfl | exact (List.length_map _).symm | exact List.length_map _ | omega) ?_; conv => whnf)
    | (refine StrK_intro _ rfl (by assumption) ?_; conv => whnf)
    | (refine IxK_map _ rfl (by assumption) ?_; conv => whnf)
    | (refine StrK_lt _ rfl (by omega) (fun b hb => ?_); conv => whnf)
    | (refine IxK_mapLt _ rfl (by (try simp only [List.length_map] at *); omega) (fun x hx => ?_); conv => whnf)
    | (refine IxK_mapI (by omega) (by (try simp only [List.length_map] at *); omega) (fun j x hj hx => ?_); conv => whnf)
    | (refine NeedK_intro (by omega) ?_; conv => whnf)
  all_goals first | exact bF (by unfold inP; omega) | exact bT (by unfold inP; omega) | exact bB (by rw [leB_iff]; unfold inP; omega)

theorem isCode_not {s : ByteArray} {i : Nat} {b : UInt8} (h : s[i]? = some b) (hc : ¬ codeCh i b) : ¬ isCodeP s := fun hp => hc (hp.1 i b h)
theorem isCode_step {s : ByteArray} {i : Nat} {b : UInt8} (hb : s[i]? = some b) (hc : codeCh i b) (hok : ∀ j < i, ∀ b, s[j]? = some b → codeCh j b) : ∀ j < i + 1, ∀ b, s[j]? = some b → codeCh j b := by
  intro j hj c hc'
  by_cases e : j = i
  · subst e; rw [hb] at hc'; cases hc'; exact hc
  · exact hok j (by omega) c hc'
theorem isCode_all {s : ByteArray} {i : Nat} (hi : s.size ≤ i) (hok : ∀ j < i, ∀ b, s[j]? = some b → codeCh j b) (h1 : 1 ≤ s.size) (h8 : s.size ≤ 8) : isCodeP s := by
  refine ⟨fun j b hb => hok j ?_ b hb, h1, h8⟩
  have := ba_lt hb
  omega

set_option maxHeartbeats 1000000 in
theorem c_impl_IsCode (s : ByteArray) (hs : okS s) : Contract Try.prog 47 [.d (sD s)] (.one (.d (bD (tr (isCodeP s))))) := by
  refine contract_by hma hTa Try.func47 (by kernel_rfl) (by kernel_rfl) ?_
  conv => whnf
  unfold okS at hs
  refine LoopK_intro hma hTa [(0, .pl), (2, .pl), (3, .pl)] (fun i : Nat => ⟨[(0, .d (sD s)), (2, .d (bD false)), (3, .d (iD i))], [], []⟩) (fun i => i ≤ s.size ∧ ∀ j < i, ∀ b, s[j]? = some b → codeCh j b) (fun i => s.size - i) (by kernel_rfl) ?_ ?_
  · conv => whnf
    exact ⟨0, ⟨by omega, by omega⟩, rfl⟩
  · intro i ⟨hi, hok⟩
    conv => whnf
    repeat' first
      | (refine brLt (fun h => ?_) (fun h => ?_) <;> conv => whnf)
      | (refine brLe (fun h => ?_) (fun h => ?_) <;> conv => whnf)
      | (refine brEq (fun h => ?_) (fun h => ?_) <;> conv => whnf)
      | (refine brTr (fun h => ?_) (fun h => ?_) <;> conv => whnf)
      | (refine brNTr (fun h => ?_) (fun h => ?_) <;> conv => whnf)
      | (refine brNLt (fun h => ?_) (fun h => ?_) <;> conv => whnf)
      | (refine brNLe (fun h => ?_) (fun h => ?_) <;> conv => whnf)
      | (refine brNEq (fun h => ?_) (fun h => ?_) <;> conv => whnf)
      | (refine brStr (fun h => ?_) (fun h => ?_) <;> conv => whnf)
      | (refine brNStr (fun h => ?_) (fun h => ?_) <;> conv => whnf)
      | (refine brStrLt (fun h => ?_) (fun h => ?_) <;> conv => whnf)
      | (refine brNStrLt (fun h => ?_) (fun h => ?_) <;> conv => whnf)
      | (refine brNBEq (fun h => ?_) (fun h => ?_) <;> conv => whnf)
      | (refine brBEq (fun h => ?_) (fun h => ?_) <;> conv => whnf)
      | (refine WrK_i64 (by omega) (by omega) ?_; conv => whnf)
      | (refine takeK_full (by first | exact rfl | exact (List.length_map _).symm | exact List.length_map _ | omega) ?_; conv => whnf)
      | (refine StrK_intro _ rfl (by assumption) ?_; conv => whnf)
      | (refine IxK_map _ rfl (by assumption) ?_; conv => whnf)
      | (refine StrK_lt _ rfl (by omega) (fun b hb => ?_); conv => whnf)
      | (refine IxK_mapLt _ rfl (by (try simp only [List.length_map] at *); omega) (fun x hx => ?_); conv => whnf)
      | (refine IxK_mapI (by omega) (by (try simp only [List.length_map] at *); omega) (fun j x hj hx => ?_); conv => whnf)
      | (refine NeedK_intro (by omega) ?_; conv => whnf)
    all_goals first
      | exact bF (isCode_not ‹s[i]? = some _› (by unfold codeCh; omega))
      | exact ⟨i + 1, ⟨by omega, isCode_step ‹s[i]? = some _› (by unfold codeCh; omega) hok⟩, (by show s.size - (i + 1) < s.size - i; omega), rfl⟩
      | exact bF (fun hp => by have := hp.2; omega)
      | exact bT (isCode_all (by omega) hok (by omega) (by omega))
      | exact bB ⟨fun h => isCode_all (by omega) hok (by rw [leB_iff] at h; omega) (by rw [leB_iff] at h; omega), fun h => by rw [leB_iff]; have := h.2; omega⟩

set_option maxHeartbeats 1000000 in
theorem c_spec_IsCode (s : ByteArray) (hs : okS s) : Contract Try.prog 33 [.d (sD s)] (.one (.d (bD (tr (isCodeP s))))) := by
  refine contract_by hma hTa Try.func33 (by kernel_rfl) (by kernel_rfl) ?_
  conv => whnf
  unfold okS at hs
  refine LoopK_intro hma hTa [(0, .pl), (2, .pl), (3, .pl)] (fun i : Nat => ⟨[(0, .d (sD s)), (2, .d (bD false)), (3, .d (iD i))], [], []⟩) (fun i => i ≤ s.size ∧ ∀ j < i, ∀ b, s[j]? = some b → codeCh j b) (fun i => s.size - i) (by kernel_rfl) ?_ ?_
  · conv => whnf
    exact ⟨0, ⟨by omega, by omega⟩, rfl⟩
  · intro i ⟨hi, hok⟩
    conv => whnf
    repeat' first
      | (refine brLt (fun h => ?_) (fun h => ?_) <;> conv => whnf)
      | (refine brLe (fun h => ?_) (fun h => ?_) <;> conv => whnf)
      | (refine brEq (fun h => ?_) (fun h => ?_) <;> conv => whnf)
      | (refine brTr (fun h => ?_) (fun h => ?_) <;> conv => whnf)
      | (refine brNTr (fun h => ?_) (fun h => ?_) <;> conv => whnf)
      | (refine brNLt (fun h => ?_) (fun h => ?_) <;> conv => whnf)
      | (refine brNLe (fun h => ?_) (fun h => ?_) <;> conv => whnf)
      | (refine brNEq (fun h => ?_) (fun h => ?_) <;> conv => whnf)
      | (refine brStr (fun h => ?_) (fun h => ?_) <;> conv => whnf)
      | (refine brNStr (fun h => ?_) (fun h => ?_) <;> conv => whnf)
      | (refine brStrLt (fun h => ?_) (fun h => ?_) <;> conv => whnf)
      | (refine brNStrLt (fun h => ?_) (fun h => ?_) <;> conv => whnf)
      | (refine brNBEq (fun h => ?_) (fun h => ?_) <;> conv => whnf)
      | (refine brBEq (fun h => ?_) (fun h => ?_) <;> conv => whnf)
      | (refine WrK_i64 (by omega) (by omega) ?_; conv => whnf)
      | (refine takeK_full (by first | exact rfl | exact (List.length_map _).symm | exact List.length_map _ | omega) ?_; conv => whnf)
      | (refine StrK_intro _ rfl (by assumption) ?_; conv => whnf)
      | (refine IxK_map _ rfl (by assumption) ?_; conv => whnf)
      | (refine StrK_lt _ rfl (by omega) (fun b hb => ?_); conv => whnf)
      | (refine IxK_mapLt _ rfl (by (try simp only [List.length_map] at *); omega) (fun x hx => ?_); conv => whnf)
      | (refine IxK_mapI (by omega) (by (try simp only [List.length_map] at *); omega) (fun j x hj hx => ?_); conv => whnf)
      | (refine NeedK_intro (by omega) ?_; conv => whnf)
    all_goals first
      | exact bF (isCode_not ‹s[i]? = some _› (by unfold codeCh; omega))
      | exact ⟨i + 1, ⟨by omega, isCode_step ‹s[i]? = some _› (by unfold codeCh; omega) hok⟩, (by show s.size - (i + 1) < s.size - i; omega), rfl⟩
      | exact bF (fun hp => by have := hp.2; omega)
      | exact bT (isCode_all (by omega) hok (by omega) (by omega))
      | exact bB ⟨fun h => isCode_all (by omega) hok (by rw [leB_iff] at h; omega) (by rw [leB_iff] at h; omega), fun h => by rw [leB_iff]; have := h.2; omega⟩

def isStepP (x : StepV) : Prop := isCodeP x.center ∧ inP x.setup 0 1000 ∧ inP x.run 0 1000

noncomputable def stepTimeN (x : StepV) (q : Int) : Int := ifP (isStepP x ∧ inP q 1 100000) (x.setup + x.run * q) 0

def isFlowAt (l : List FlowV) (i : Nat) (f : FlowV) : Prop := inP f.day 0 999 ∧ inP f.quantity 1 1000000000 ∧ ∀ e, 0 < i → l[i-1]? = some e → e.day < f.day
def areFlowsP (l : List FlowV) : Prop := allP l (isFlowAt l) ∧ l.length ≤ 40

def isLotP (r s : Int) : Prop := (r = 0 ∧ s = 0) ∨ ((r = 1 ∨ r = 2) ∧ inP s 1 1000)
def isItemP (x : ItemV) : Prop := isCodeP x.code ∧ isCodeP x.unit ∧ inP x.kind 0 2 ∧ inP x.lead 0 30 ∧ inP x.safety 0 100000 ∧ inP x.scrap 0 50 ∧ isLotP x.rule x.size ∧ (x.kind = 2 → x.lead = 0 ∧ x.rule = 0 ∧ x.safety = 0 ∧ x.scrap = 0)

noncomputable def netOfN (x : ItemV) (g : Int) : Int := ifP (isItemP x ∧ inP g 0 2000000000) ((g * (100 - x.scrap)).tdiv 100) 0
theorem isItem_scrap {x : ItemV} (h : isItemP x) : 0 ≤ x.scrap ∧ x.scrap ≤ 50 := h.2.2.2.2.2.1
theorem net_bound {g s : Int} (h0 : 0 ≤ g) (h1 : g ≤ 2000000000) (s0 : 0 ≤ s) (s1 : s ≤ 50) : 0 ≤ g * (100 - s) ∧ g * (100 - s) ≤ 200000000000 := by
  refine ⟨Int.mul_nonneg h0 (by omega), ?_⟩
  have : g * (100 - s) ≤ 2000000000 * 100 := Int.mul_le_mul h1 (by omega) (by omega) (by omega)
  omega
theorem tdiv_bound {a : Int} (h0 : 0 ≤ a) (h1 : a ≤ 200000000000) : 0 ≤ a.tdiv 100 ∧ a.tdiv 100 ≤ 2000000000 := by
  rw [Int.tdiv_eq_ediv_of_nonneg h0]; omega

end Go.DL
