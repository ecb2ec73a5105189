/- Contracts of functions of the program, at this seat: what each call returns, by its arguments as data; each states its own conditions. -/
import Derived.Test.YtpobkpenfdibkaaT
namespace Go.DL
set_option maxRecDepth 100000
set_option maxHeartbeats 2000000
set_option linter.unusedSimpArgs false
set_option linter.unusedVariables false
open Go.RowKit Go.Proofs Go.Proofs.Ytpobkpenfdibkaa

def codeCh (i : Nat) (b : UInt8) : Prop := (65 ≤ b.toNat ∧ b.toNat ≤ 90) ∨ (i ≠ 0 ∧ ((48 ≤ b.toNat ∧ b.toNat ≤ 57) ∨ b.toNat = 45))
def isCodeP (s : ByteArray) : Prop := (∀ i b, s[i]? = some b → codeCh i b) ∧ 1 ≤ s.size ∧ s.size ≤ 8
abbrev inP (n a b : Int) : Prop := a ≤ n ∧ n ≤ b

theorem c_impl_in (n a b : Int) : Contract Try.prog 66 [.d (iD n), .d (iD a), .d (iD b)] (.one (.d (bD (tr (inP n a b))))) := by
  refine contract_by hma hTa Try.func66 (by kernel_rfl) (by kernel_rfl) ?_
  conv => whnf
  repeat' first
    | (refine brLt (fun h => ?_) (fun h => ?_) <;> conv => whnf)
    | (refine brLe (fun h => ?_) (fun h => ?_) <;> conv => whnf)
    | (refine brEq (fun h => ?_) (fun h => ?_) <;> conv => whnf)
    | (refine brTr (fun h => ?_) (fun h => ?_) <;> conv => whnf)
    | (refine brNTr (fun h => ?_) (fun h => ?_) <;> conv => whnf)
    | (refine brNLt (fun h => ?_) (fun h => ?_) <;> conv => whnf)
    | (refine brNLe (fun h => ?_) (fun h => ?_) <;> conv => whnf)
    | (refine brNEq (fun h => ?_) (fun h => ?_) <;> conv => whnf)
    | (refine brStr (fun h => ?_) (fun h => ?_) <;> conv => whnf)
    | (refine brNStr (fun h => ?_) (fun h => ?_) <;> conv => whnf)
    | (refine brStrLt (fun h => ?_) (fun h => ?_) <;> conv => whnf)
    | (refine brNStrLt (fun h => ?_) (fun h => ?_) <;> conv => whnf)
    | (refine brNBEq (fun h => ?_) (fun h => ?_) <;> conv => whnf)
    | (refine brBEq (fun h => ?_) (fun h => ?_) <;> conv => whnf)
    | (refine WrK_i64 (by omega) (by omega) ?_; conv => whnf)
    | (refine takeK_full (by first | exact rfl | exact (List.length_map _).symm | exact List.length_map _ | omega) ?_; conv => whnf)
    | (refine StrK_intro _ rfl (by assumption) ?_; conv => whnf)
    | (refine IxK_map _ rfl (by assumption) ?_; conv => whnf)
    | (refine StrK_lt _ rfl (by omega) (fun b hb => ?_); conv => whnf)
    | (refine IxK_mapLt _ rfl (by (try simp only [List.length_map] at *); omega) (fun x hx => ?_); conv => whnf)
    | (refine IxK_mapI (by omega) (by (try simp only [List.length_map] at *); omega) (fun j x hj hx => ?_); conv => whnf)
    | (refine NeedK_intro (by omega) ?_; conv => whnf)
  all_goals first | exact bF (by unfold inP; omega) | exact bT (by unfold inP; omega) | exact bB (by rw [leB_iff]; unfold inP; omega)

theorem c_spec_l1In (n a b : Int) : Contract Try.prog 69 [.d (iD n), .d (iD a), .d (iD b)] (.one (.d (bD (tr (inP n a b))))) := by
  refine contract_by hma hTa Try.func69 (by kernel_rfl) (by kernel_rfl) ?_
  conv => whnf
  repeat' first
    | (refine brLt (fun h => ?_) (fun h => ?_) <;> conv => whnf)
    | (refine brLe (fun h => ?_) (fun h => ?_) <;> conv => whnf)
    | (refine brEq (fun h => ?_) (fun h => ?_) <;> conv => whnf)
    | (refine brTr (fun h => ?_) (fun h => ?_) <;> conv => whnf)
    | (refine brNTr (fun h => ?_) (fun h => ?_) <;> conv => whnf)
    | (refine brNLt (fun h => ?_) (fun h => ?_) <;> conv => whnf)
    | (refine brNLe (fun h => ?_) (fun h => ?_) <;> conv => whnf)
    | (refine brNEq (fun h => ?_) (fun h => ?_) <;> conv => whnf)
    | (refine brStr (fun h => ?_) (fun h => ?_) <;> conv => whnf)
    | (refine brNStr (fun h => ?_) (fun h => ?_) <;> conv => whnf)
    | (refine brStrLt (fun h => ?_) (fun h => ?_) <;> conv => whnf)
    | (refine brNStrLt (fun h => ?_) (fun h => ?_) <;> conv => whnf)
    | (refine brNBEq (fun h => ?_) (fun h => ?_) <;> conv => whnf)
    | (refine brBEq (fun h => ?_) (fun h => ?_) <;> conv => whnf)
    | (refine WrK_i64 (by omega) (by omega) ?_; conv => whnf)
    | (refine takeK_full (by first | exact rfl | exact (List.length_map _).symm | exact List.length_map _ | omega) ?_; conv => whnf)
    | (refine StrK_intro _ rfl (by assumption) ?_; conv => whnf)
    | (refine IxK_map _ rfl (by assumption) ?_; conv => whnf)
    | (refine StrK_lt _ rfl (by omega) (fun b hb => ?_); conv => whnf)
    | (refine IxK_mapLt _ rfl (by (try simp only [List.length_map] at *); omega) (fun x hx => ?_); conv => whnf)
    | (refine IxK_mapI (by omega) (by (try simp only [List.length_map] at *); omega) (fun j x hj hx => ?_); conv => whnf)
    | (refine NeedK_intro (by omega) ?_; conv => whnf)
  all_goals first | exact bF (by unfold inP; omega) | exact bT (by unfold inP; omega) | exact bB (by rw [leB_iff]; unfold inP; omega)

theorem isCode_not {s : ByteArray} {i : Nat} {b : UInt8} (h : s[i]? = some b) (hc : ¬ codeCh i b) : ¬ isCodeP s := fun hp => hc (hp.1 i b h)
theorem isCode_step {s : ByteArray} {i : Nat} {b : UInt8} (hb : s[i]? = some b) (hc : codeCh i b) (hok : ∀ j < i, ∀ b, s[j]? = some b → codeCh j b) : ∀ j < i + 1, ∀ b, s[j]? = some b → codeCh j b := by
  intro j hj c hc'
  by_cases e : j = i
  · subst e; rw [hb] at hc'; cases hc'; exact hc
  · exact hok j (by omega) c hc'
theorem isCode_all {s : ByteArray} {i : Nat} (hi : s.size ≤ i) (hok : ∀ j < i, ∀ b, s[j]? = some b → codeCh j b) (h1 : 1 ≤ s.size) (h8 : s.size ≤ 8) : isCodeP s := by
  refine ⟨fun j b hb => hok j ?_ b hb, h1, h8⟩
  have := ba_lt hb
  omega

set_option maxHeartbeats 1000000 in
theorem c_impl_IsCode (s : ByteArray) (hs : okS s) : Contract Try.prog 117 [.d (sD s)] (.one (.d (bD (tr (isCodeP s))))) := by
  refine contract_by hma hTa Try.func117 (by kernel_rfl) (by kernel_rfl) ?_
  conv => whnf
  unfold okS at hs
  refine LoopK_intro hma hTa [(0, .pl), (2, .pl), (3, .pl)] (fun i : Nat => ⟨[(0, .d (sD s)), (2, .d (bD false)), (3, .d (iD i))], [], []⟩) (fun i => i ≤ s.size ∧ ∀ j < i, ∀ b, s[j]? = some b → codeCh j b) (fun i => s.size - i) (by kernel_rfl) ?_ ?_
  · conv => whnf
    exact ⟨0, ⟨by omega, by omega⟩, rfl⟩
  · intro i ⟨hi, hok⟩
    conv => whnf
    repeat' first
      | (refine brLt (fun h => ?_) (fun h => ?_) <;> conv => whnf)
      | (refine brLe (fun h => ?_) (fun h => ?_) <;> conv => whnf)
      | (refine brEq (fun h => ?_) (fun h => ?_) <;> conv => whnf)
      | (refine brTr (fun h => ?_) (fun h => ?_) <;> conv => whnf)
      | (refine brNTr (fun h => ?_) (fun h => ?_) <;> conv => whnf)
      | (refine brNLt (fun h => ?_) (fun h => ?_) <;> conv => whnf)
      | (refine brNLe (fun h => ?_) (fun h => ?_) <;> conv => whnf)
      | (refine brNEq (fun h => ?_) (fun h => ?_) <;> conv => whnf)
      | (refine brStr (fun h => ?_) (fun h => ?_) <;> conv => whnf)
      | (refine brNStr (fun h => ?_) (fun h => ?_) <;> conv => whnf)
      | (refine brStrLt (fun h => ?_) (fun h => ?_) <;> conv => whnf)
      | (refine brNStrLt (fun h => ?_) (fun h => ?_) <;> conv => whnf)
      | (refine brNBEq (fun h => ?_) (fun h => ?_) <;> conv => whnf)
      | (refine brBEq (fun h => ?_) (fun h => ?_) <;> conv => whnf)
      | (refine WrK_i64 (by omega) (by omega) ?_; conv => whnf)
      | (refine takeK_full (by first | exact rfl | exact (List.length_map _).symm | exact List.length_map _ | omega) ?_; conv => whnf)
      | (refine StrK_intro _ rfl (by assumption) ?_; conv => whnf)
      | (refine IxK_map _ rfl (by assumption) ?_; conv => whnf)
      | (refine StrK_lt _ rfl (by omega) (fun b hb => ?_); conv => whnf)
      | (refine IxK_mapLt _ rfl (by (try simp only [List.length_map] at *); omega) (fun x hx => ?_); conv => whnf)
      | (refine IxK_mapI (by omega) (by (try simp only [List.length_map] at *); omega) (fun j x hj hx => ?_); conv => whnf)
      | (refine NeedK_intro (by omega) ?_; conv => whnf)
    all_goals first
      | exact bF (isCode_not ‹s[i]? = some _› (by unfold codeCh; omega))
      | exact ⟨i + 1, ⟨by omega, isCode_step ‹s[i]? = some _› (by unfold codeCh; omega) hok⟩, (by show s.size - (i + 1) < s.size - i; omega), rfl⟩
      | exact bF (fun hp => by have := hp.2; omega)
      | exact bT (isCode_all (by omega) hok (by omega) (by omega))
      | exact bB ⟨fun h => isCode_all (by omega) hok (by rw [leB_iff] at h; omega) (by rw [leB_iff] at h; omega), fun h => by rw [leB_iff]; have := h.2; omega⟩

set_option maxHeartbeats 1000000 in
theorem c_spec_IsCode (s : ByteArray) (hs : okS s) : Contract Try.prog 119 [.d (sD s)] (.one (.d (bD (tr (isCodeP s))))) := by
  refine contract_by hma hTa Try.func119 (by kernel_rfl) (by kernel_rfl) ?_
  conv => whnf
  unfold okS at hs
  refine LoopK_intro hma hTa [(0, .pl), (2, .pl), (3, .pl)] (fun i : Nat => ⟨[(0, .d (sD s)), (2, .d (bD false)), (3, .d (iD i))], [], []⟩) (fun i => i ≤ s.size ∧ ∀ j < i, ∀ b, s[j]? = some b → codeCh j b) (fun i => s.size - i) (by kernel_rfl) ?_ ?_
  · conv => whnf
    exact ⟨0, ⟨by omega, by omega⟩, rfl⟩
  · intro i ⟨hi, hok⟩
    conv => whnf
    repeat' first
      | (refine brLt (fun h => ?_) (fun h => ?_) <;> conv => whnf)
      | (refine brLe (fun h => ?_) (fun h => ?_) <;> conv => whnf)
      | (refine brEq (fun h => ?_) (fun h => ?_) <;> conv => whnf)
      | (refine brTr (fun h => ?_) (fun h => ?_) <;> conv => whnf)
      | (refine brNTr (fun h => ?_) (fun h => ?_) <;> conv => whnf)
      | (refine brNLt (fun h => ?_) (fun h => ?_) <;> conv => whnf)
      | (refine brNLe (fun h => ?_) (fun h => ?_) <;> conv => whnf)
      | (refine brNEq (fun h => ?_) (fun h => ?_) <;> conv => whnf)
      | (refine brStr (fun h => ?_) (fun h => ?_) <;> conv => whnf)
      | (refine brNStr (fun h => ?_) (fun h => ?_) <;> conv => whnf)
      | (refine brStrLt (fun h => ?_) (fun h => ?_) <;> conv => whnf)
      | (refine brNStrLt (fun h => ?_) (fun h => ?_) <;> conv => whnf)
      | (refine brNBEq (fun h => ?_) (fun h => ?_) <;> conv => whnf)
      | (refine brBEq (fun h => ?_) (fun h => ?_) <;> conv => whnf)
      | (refine WrK_i64 (by omega) (by omega) ?_; conv => whnf)
      | (refine takeK_full (by first | exact rfl | exact (List.length_map _).symm | exact List.length_map _ | omega) ?_; conv => whnf)
      | (refine StrK_intro _ rfl (by assumption) ?_; conv => whnf)
      | (refine IxK_map _ rfl (by assumption) ?_; conv => whnf)
      | (refine StrK_lt _ rfl (by omega) (fun b hb => ?_); conv => whnf)
      | (refine IxK_mapLt _ rfl (by (try simp only [List.length_map] at *); omega) (fun x hx => ?_); conv => whnf)
      | (refine IxK_mapI (by omega) (by (try simp only [List.length_map] at *); omega) (fun j x hj hx => ?_); conv => whnf)
      | (refine NeedK_intro (by omega) ?_; conv => whnf)
    all_goals first
      | exact bF (isCode_not ‹s[i]? = some _› (by unfold codeCh; omega))
      | exact ⟨i + 1, ⟨by omega, isCode_step ‹s[i]? = some _› (by unfold codeCh; omega) hok⟩, (by show s.size - (i + 1) < s.size - i; omega), rfl⟩
      | exact bF (fun hp => by have := hp.2; omega)
      | exact bT (isCode_all (by omega) hok (by omega) (by omega))
      | exact bB ⟨fun h => isCode_all (by omega) hok (by rw [leB_iff] at h; omega) (by rw [leB_iff] at h; omega), fun h => by rw [leB_iff]; have := h.2; omega⟩

def isStepP (x : StepV) : Prop := isCodeP x.center ∧ inP x.setup 0 1000 ∧ inP x.run 0 1000

theorem c_impl_IsStep (x : StepV) (hx : x.ok) : Contract Try.prog 67 [.d x.dat] (.one (.d (bD (tr (isStepP x))))) := by
  refine contract_by hma hTa Try.func67 (by kernel_rfl) (by kernel_rfl) ?_
  obtain ⟨h1, h2, h3⟩ := hx
  conv => whnf
  repeat' first
    | (refine brLt (fun h => ?_) (fun h => ?_) <;> conv => whnf)
    | (refine brLe (fun h => ?_) (fun h => ?_) <;> conv => whnf)
    | (refine brEq (fun h => ?_) (fun h => ?_) <;> conv => whnf)
    | (refine brTr (fun h => ?_) (fun h => ?_) <;> conv => whnf)
    | (refine brNTr (fun h => ?_) (fun h => ?_) <;> conv => whnf)
    | (refine brNLt (fun h => ?_) (fun h => ?_) <;> conv => whnf)
    | (refine brNLe (fun h => ?_) (fun h => ?_) <;> conv => whnf)
    | (refine brNEq (fun h => ?_) (fun h => ?_) <;> conv => whnf)
    | (refine brStr (fun h => ?_) (fun h => ?_) <;> conv => whnf)
    | (refine brNStr (fun h => ?_) (fun h => ?_) <;> conv => whnf)
    | (refine brStrLt (fun h => ?_) (fun h => ?_) <;> conv => whnf)
    | (refine brNStrLt (fun h => ?_) (fun h => ?_) <;> conv => whnf)
    | (refine brNBEq (fun h => ?_) (fun h => ?_) <;> conv => whnf)
    | (refine brBEq (fun h => ?_) (fun h => ?_) <;> conv => whnf)
    | (refine CallK_intro (c_impl_IsCode _ (by assumption)) ?_; conv => whnf)
    | (refine CallK_intro (c_impl_in _ _ _) ?_; conv => whnf)
    | (refine WrK_i64 (by omega) (by omega) ?_; conv => whnf)
    | (refine takeK_full (by first | exact rfl | exact (List.length_map _).symm | exact List.length_map _ | omega) ?_; conv => whnf)
    | (refine StrK_intro _ rfl (by assumption) ?_; conv => whnf)
    | (refine IxK_map _ rfl (by assumption) ?_; conv => whnf)
    | (refine StrK_lt _ rfl (by omega) (fun b hb => ?_); conv => whnf)
    | (refine IxK_mapLt _ rfl (by (try simp only [List.length_map] at *); omega) (fun x hx => ?_); conv => whnf)
    | (refine IxK_mapI (by omega) (by (try simp only [List.length_map] at *); omega) (fun j x hj hx => ?_); conv => whnf)
    | (refine NeedK_intro (by omega) ?_; conv => whnf)
  all_goals first | exact bF (by unfold isStepP; grind) | exact bT (by unfold isStepP; grind) | exact bP (by unfold isStepP; grind)

theorem c_spec_IsStep (x : StepV) (hx : x.ok) : Contract Try.prog 118 [.d x.dat] (.one (.d (bD (tr (isStepP x))))) := by
  refine contract_by hma hTa Try.func118 (by kernel_rfl) (by kernel_rfl) ?_
  obtain ⟨h1, h2, h3⟩ := hx
  conv => whnf
  repeat' first
    | (refine brLt (fun h => ?_) (fun h => ?_) <;> conv => whnf)
    | (refine brLe (fun h => ?_) (fun h => ?_) <;> conv => whnf)
    | (refine brEq (fun h => ?_) (fun h => ?_) <;> conv => whnf)
    | (refine brTr (fun h => ?_) (fun h => ?_) <;> conv => whnf)
    | (refine brNTr (fun h => ?_) (fun h => ?_) <;> conv => whnf)
    | (refine brNLt (fun h => ?_) (fun h => ?_) <;> conv => whnf)
    | (refine brNLe (fun h => ?_) (fun h => ?_) <;> conv => whnf)
    | (refine brNEq (fun h => ?_) (fun h => ?_) <;> conv => whnf)
    | (refine brStr (fun h => ?_) (fun h => ?_) <;> conv => whnf)
    | (refine brNStr (fun h => ?_) (fun h => ?_) <;> conv => whnf)
    | (refine brStrLt (fun h => ?_) (fun h => ?_) <;> conv => whnf)
    | (refine brNStrLt (fun h => ?_) (fun h => ?_) <;> conv => whnf)
    | (refine brNBEq (fun h => ?_) (fun h => ?_) <;> conv => whnf)
    | (refine brBEq (fun h => ?_) (fun h => ?_) <;> conv => whnf)
    | (refine CallK_intro (c_spec_IsCode _ (by assumption)) ?_; conv => whnf)
    | (refine CallK_intro (c_spec_l1In _ _ _) ?_; conv => whnf)
    | (refine WrK_i64 (by omega) (by omega) ?_; conv => whnf)
    | (refine takeK_full (by first | exact rfl | exact (List.length_map _).symm | exact List.length_map _ | omega) ?_; conv => whnf)
    | (refine StrK_intro _ rfl (by assumption) ?_; conv => whnf)
    | (refine IxK_map _ rfl (by assumption) ?_; conv => whnf)
    | (refine StrK_lt _ rfl (by omega) (fun b hb => ?_); conv => whnf)
    | (refine IxK_mapLt _ rfl (by (try simp only [List.length_map] at *); omega) (fun x hx => ?_); conv => whnf)
    | (refine IxK_mapI (by omega) (by (try simp only [List.length_map] at *); omega) (fun j x hj hx => ?_); conv => whnf)
    | (refine NeedK_intro (by omega) ?_; conv => whnf)
  all_goals first | exact bF (by unfold isStepP; grind) | exact bT (by unfold isStepP; grind) | exact bP (by unfold isStepP; grind)

noncomputable def stepTimeN (x : StepV) (q : Int) : Int := ifP (isStepP x ∧ inP q 1 100000) (x.setup + x.run * q) 0

theorem c_impl_StepTime (x : StepV) (hx : x.ok) (q : Int) (hq : okI q) : Contract Try.prog 19 [.d x.dat, .d (iD q)] (.tup (.d (iD (stepTimeN x q))) [bD (tr (isStepP x ∧ inP q 1 100000))]) := by
  refine contract_by hma hTa Try.func19 (by kernel_rfl) (by kernel_rfl) ?_
  unfold stepTimeN
  conv => whnf
  repeat' first
    | (refine brLt (fun h => ?_) (fun h => ?_) <;> conv => whnf)
    | (refine brLe (fun h => ?_) (fun h => ?_) <;> conv => whnf)
    | (refine brEq (fun h => ?_) (fun h => ?_) <;> conv => whnf)
    | (refine brTr (fun h => ?_) (fun h => ?_) <;> conv => whnf)
    | (refine brNTr (fun h => ?_) (fun h => ?_) <;> conv => whnf)
    | (refine brNLt (fun h => ?_) (fun h => ?_) <;> conv => whnf)
    | (refine brNLe (fun h => ?_) (fun h => ?_) <;> conv => whnf)
    | (refine brNEq (fun h => ?_) (fun h => ?_) <;> conv => whnf)
    | (refine brStr (fun h => ?_) (fun h => ?_) <;> conv => whnf)
    | (refine brNStr (fun h => ?_) (fun h => ?_) <;> conv => whnf)
    | (refine brStrLt (fun h => ?_) (fun h => ?_) <;> conv => whnf)
    | (refine brNStrLt (fun h => ?_) (fun h => ?_) <;> conv => whnf)
    | (refine brNBEq (fun h => ?_) (fun h => ?_) <;> conv => whnf)
    | (refine brBEq (fun h => ?_) (fun h => ?_) <;> conv => whnf)
    | (refine CallK_intro (c_impl_IsStep _ (by assumption)) ?_; conv => whnf)
    | (refine CallK_intro (c_impl_in _ _ _) ?_; conv => whnf)
    | (refine WrK_i64 (by omega) (by omega) ?_; conv => whnf)
    | (refine takeK_full (by first | exact rfl | exact (List.length_map _).symm | exact List.length_map _ | omega) ?_; conv => whnf)
    | (refine StrK_intro _ rfl (by assumption) ?_; conv => whnf)
    | (refine IxK_map _ rfl (by assumption) ?_; conv => whnf)
    | (refine StrK_lt _ rfl (by omega) (fun b hb => ?_); conv => whnf)
    | (refine IxK_mapLt _ rfl (by (try simp only [List.length_map] at *); omega) (fun x hx => ?_); conv => whnf)
    | (refine IxK_mapI (by omega) (by (try simp only [List.length_map] at *); omega) (fun j x hj hx => ?_); conv => whnf)
    | (refine NeedK_intro (by omega) ?_; conv => whnf)
  all_goals first | exact ⟨iF (by grind) rfl, bF (by grind), trivial⟩ | skip
  have h1 : isStepP x := by assumption
  have h2 : inP q 1 100000 := by assumption
  have hb := mul_bound (a := x.run) (b := q) (A := 1000) (B := 100000) h1.2.2.1 h1.2.2.2 (by have := h2.1; omega) h2.2
  have hs := h1.2.1
  repeat' first
    | (refine brLt (fun h => ?_) (fun h => ?_) <;> conv => whnf)
    | (refine brLe (fun h => ?_) (fun h => ?_) <;> conv => whnf)
    | (refine brEq (fun h => ?_) (fun h => ?_) <;> conv => whnf)
    | (refine brTr (fun h => ?_) (fun h => ?_) <;> conv => whnf)
    | (refine brNTr (fun h => ?_) (fun h => ?_) <;> conv => whnf)
    | (refine brNLt (fun h => ?_) (fun h => ?_) <;> conv => whnf)
    | (refine brNLe (fun h => ?_) (fun h => ?_) <;> conv => whnf)
    | (refine brNEq (fun h => ?_) (fun h => ?_) <;> conv => whnf)
    | (refine brStr (fun h => ?_) (fun h => ?_) <;> conv => whnf)
    | (refine brNStr (fun h => ?_) (fun h => ?_) <;> conv => whnf)
    | (refine brStrLt (fun h => ?_) (fun h => ?_) <;> conv => whnf)
    | (refine brNStrLt (fun h => ?_) (fun h => ?_) <;> conv => whnf)
    | (refine brNBEq (fun h => ?_) (fun h => ?_) <;> conv => whnf)
    | (refine brBEq (fun h => ?_) (fun h => ?_) <;> conv => whnf)
    | (refine WrK_i64 (by omega) (by omega) ?_; conv => whnf)
    | (refine takeK_full (by first | exact rfl | exact (List.length_map _).symm | exact List.length_map _ | omega) ?_; conv => whnf)
    | (refine StrK_intro _ rfl (by assumption) ?_; conv => whnf)
    | (refine IxK_map _ rfl (by assumption) ?_; conv => whnf)
    | (refine StrK_lt _ rfl (by omega) (fun b hb => ?_); conv => whnf)
    | (refine IxK_mapLt _ rfl (by (try simp only [List.length_map] at *); omega) (fun x hx => ?_); conv => whnf)
    | (refine IxK_mapI (by omega) (by (try simp only [List.length_map] at *); omega) (fun j x hj hx => ?_); conv => whnf)
    | (refine NeedK_intro (by omega) ?_; conv => whnf)
  exact ⟨iT (by grind) rfl, bT (by grind), trivial⟩

theorem c_spec_StepTime (x : StepV) (hx : x.ok) (q : Int) (hq : okI q) : Contract Try.prog 90 [.d x.dat, .d (iD q)] (.tup (.d (iD (stepTimeN x q))) [bD (tr (isStepP x ∧ inP q 1 100000))]) := by
  refine contract_by hma hTa Try.func90 (by kernel_rfl) (by kernel_rfl) ?_
  unfold stepTimeN
  conv => whnf
  repeat' first
    | (refine brLt (fun h => ?_) (fun h => ?_) <;> conv => whnf)
    | (refine brLe (fun h => ?_) (fun h => ?_) <;> conv => whnf)
    | (refine brEq (fun h => ?_) (fun h => ?_) <;> conv => whnf)
    | (refine brTr (fun h => ?_) (fun h => ?_) <;> conv => whnf)
    | (refine brNTr (fun h => ?_) (fun h => ?_) <;> conv => whnf)
    | (refine brNLt (fun h => ?_) (fun h => ?_) <;> conv => whnf)
    | (refine brNLe (fun h => ?_) (fun h => ?_) <;> conv => whnf)
    | (refine brNEq (fun h => ?_) (fun h => ?_) <;> conv => whnf)
    | (refine brStr (fun h => ?_) (fun h => ?_) <;> conv => whnf)
    | (refine brNStr (fun h => ?_) (fun h => ?_) <;> conv => whnf)
    | (refine brStrLt (fun h => ?_) (fun h => ?_) <;> conv => whnf)
    | (refine brNStrLt (fun h => ?_) (fun h => ?_) <;> conv => whnf)
    | (refine brNBEq (fun h => ?_) (fun h => ?_) <;> conv => whnf)
    | (refine brBEq (fun h => ?_) (fun h => ?_) <;> conv => whnf)
    | (refine CallK_intro (c_spec_IsStep _ (by assumption)) ?_; conv => whnf)
    | (refine CallK_intro (c_spec_l1In _ _ _) ?_; conv => whnf)
    | (refine WrK_i64 (by omega) (by omega) ?_; conv => whnf)
    | (refine takeK_full (by first | exact rfl | exact (List.length_map _).symm | exact List.length_map _ | omega) ?_; conv => whnf)
    | (refine StrK_intro _ rfl (by assumption) ?_; conv => whnf)
    | (refine IxK_map _ rfl (by assumption) ?_; conv => whnf)
    | (refine StrK_lt _ rfl (by omega) (fun b hb => ?_); conv => whnf)
    | (refine IxK_mapLt _ rfl (by (try simp only [List.length_map] at *); omega) (fun x hx => ?_); conv => whnf)
    | (refine IxK_mapI (by omega) (by (try simp only [List.length_map] at *); omega) (fun j x hj hx => ?_); conv => whnf)
    | (refine NeedK_intro (by omega) ?_; conv => whnf)
  all_goals first | exact ⟨iF (by grind) rfl, bF (by grind), trivial⟩ | skip
  have h1 : isStepP x := by assumption
  have h2 : inP q 1 100000 := by assumption
  have hb := mul_bound (a := x.run) (b := q) (A := 1000) (B := 100000) h1.2.2.1 h1.2.2.2 (by have := h2.1; omega) h2.2
  have hs := h1.2.1
  repeat' first
    | (refine brLt (fun h => ?_) (fun h => ?_) <;> conv => whnf)
    | (refine brLe (fun h => ?_) (fun h => ?_) <;> conv => whnf)
    | (refine brEq (fun h => ?_) (fun h => ?_) <;> conv => whnf)
    | (refine brTr (fun h => ?_) (fun h => ?_) <;> conv => whnf)
    | (refine brNTr (fun h => ?_) (fun h => ?_) <;> conv => whnf)
    | (refine brNLt (fun h => ?_) (fun h => ?_) <;> conv => whnf)
    | (refine brNLe (fun h => ?_) (fun h => ?_) <;> conv => whnf)
    | (refine brNEq (fun h => ?_) (fun h => ?_) <;> conv => whnf)
    | (refine brStr (fun h => ?_) (fun h => ?_) <;> conv => whnf)
    | (refine brNStr (fun h => ?_) (fun h => ?_) <;> conv => whnf)
    | (refine brStrLt (fun h => ?_) (fun h => ?_) <;> conv => whnf)
    | (refine brNStrLt (fun h => ?_) (fun h => ?_) <;> conv => whnf)
    | (refine brNBEq (fun h => ?_) (fun h => ?_) <;> conv => whnf)
    | (refine brBEq (fun h => ?_) (fun h => ?_) <;> conv => whnf)
    | (refine WrK_i64 (by omega) (by omega) ?_; conv => whnf)
    | (refine takeK_full (by first | exact rfl | exact (List.length_map _).symm | exact List.length_map _ | omega) ?_; conv => whnf)
    | (refine StrK_intro _ rfl (by assumption) ?_; conv => whnf)
    | (refine IxK_map _ rfl (by assumption) ?_; conv => whnf)
    | (refine StrK_lt _ rfl (by omega) (fun b hb => ?_); conv => whnf)
    | (refine IxK_mapLt _ rfl (by (try simp only [List.length_map] at *); omega) (fun x hx => ?_); conv => whnf)
    | (refine IxK_mapI (by omega) (by (try simp only [List.length_map] at *); omega) (fun j x hj hx => ?_); conv => whnf)
    | (refine NeedK_intro (by omega) ?_; conv => whnf)
  exact ⟨iT (by grind) rfl, bT (by grind), trivial⟩

def isFlowAt (l : List FlowV) (i : Nat) (f : FlowV) : Prop := inP f.day 0 999 ∧ inP f.quantity 1 1000000000 ∧ ∀ e, 0 < i → l[i-1]? = some e → e.day < f.day
def areFlowsP (l : List FlowV) : Prop := allP l (isFlowAt l) ∧ l.length ≤ 40

def isLotP (r s : Int) : Prop := (r = 0 ∧ s = 0) ∨ ((r = 1 ∨ r = 2) ∧ inP s 1 1000)
def isItemP (x : ItemV) : Prop := isCodeP x.code ∧ isCodeP x.unit ∧ inP x.kind 0 2 ∧ inP x.lead 0 30 ∧ inP x.safety 0 100000 ∧ inP x.scrap 0 50 ∧ isLotP x.rule x.size ∧ (x.kind = 2 → x.lead = 0 ∧ x.rule = 0 ∧ x.safety = 0 ∧ x.scrap = 0)

theorem c_impl_isLotRule (r s : Int) : Contract Try.prog 123 [.d (iD r), .d (iD s)] (.one (.d (bD (tr (isLotP r s))))) := by
  refine contract_by hma hTa Try.func123 (by kernel_rfl) (by kernel_rfl) ?_
  conv => whnf
  repeat' first
    | (refine brLt (fun h => ?_) (fun h => ?_) <;> conv => whnf)
    | (refine brLe (fun h => ?_) (fun h => ?_) <;> conv => whnf)
    | (refine brEq (fun h => ?_) (fun h => ?_) <;> conv => whnf)
    | (refine brTr (fun h => ?_) (fun h => ?_) <;> conv => whnf)
    | (refine brNTr (fun h => ?_) (fun h => ?_) <;> conv => whnf)
    | (refine brNLt (fun h => ?_) (fun h => ?_) <;> conv => whnf)
    | (refine brNLe (fun h => ?_) (fun h => ?_) <;> conv => whnf)
    | (refine brNEq (fun h => ?_) (fun h => ?_) <;> conv => whnf)
    | (refine brStr (fun h => ?_) (fun h => ?_) <;> conv => whnf)
    | (refine brNStr (fun h => ?_) (fun h => ?_) <;> conv => whnf)
    | (refine brStrLt (fun h => ?_) (fun h => ?_) <;> conv => whnf)
    | (refine brNStrLt (fun h => ?_) (fun h => ?_) <;> conv => whnf)
    | (refine brNBEq (fun h => ?_) (fun h => ?_) <;> conv => whnf)
    | (refine brBEq (fun h => ?_) (fun h => ?_) <;> conv => whnf)
    | (refine CallK_intro (c_impl_in _ _ _) ?_; conv => whnf)
    | (refine WrK_i64 (by omega) (by omega) ?_; conv => whnf)
    | (refine takeK_full (by first | exact rfl | exact (List.length_map _).symm | exact List.length_map _ | omega) ?_; conv => whnf)
    | (refine StrK_intro _ rfl (by assumption) ?_; conv => whnf)
    | (refine IxK_map _ rfl (by assumption) ?_; conv => whnf)
    | (refine StrK_lt _ rfl (by omega) (fun b hb => ?_); conv => whnf)
    | (refine IxK_mapLt _ rfl (by (try simp only [List.length_map] at *); omega) (fun x hx => ?_); conv => whnf)
    | (refine IxK_mapI (by omega) (by (try simp only [List.length_map] at *); omega) (fun j x hj hx => ?_); conv => whnf)
    | (refine NeedK_intro (by omega) ?_; conv => whnf)
  all_goals first | exact bF (by unfold isLotP; grind) | exact bT (by unfold isLotP; grind) | exact bP (by unfold isLotP; grind) | exact bB (by rw [eqB_iff]; unfold isLotP; grind)

set_option maxHeartbeats 1000000 in
theorem c_impl_IsItem (x : ItemV) (hx : x.ok) : Contract Try.prog 75 [.d x.dat] (.one (.d (bD (tr (isItemP x))))) := by
  refine contract_by hma hTa Try.func75 (by kernel_rfl) (by kernel_rfl) ?_
  obtain ⟨k0, k1, k2, k3, k4, k5, k6, k7⟩ := hx
  conv => whnf
  repeat' first
    | (refine brLt (fun h => ?_) (fun h => ?_) <;> conv => whnf)
    | (refine brLe (fun h => ?_) (fun h => ?_) <;> conv => whnf)
    | (refine brEq (fun h => ?_) (fun h => ?_) <;> conv => whnf)
    | (refine brTr (fun h => ?_) (fun h => ?_) <;> conv => whnf)
    | (refine brNTr (fun h => ?_) (fun h => ?_) <;> conv => whnf)
    | (refine brNLt (fun h => ?_) (fun h => ?_) <;> conv => whnf)
    | (refine brNLe (fun h => ?_) (fun h => ?_) <;> conv => whnf)
    | (refine brNEq (fun h => ?_) (fun h => ?_) <;> conv => whnf)
    | (refine brStr (fun h => ?_) (fun h => ?_) <;> conv => whnf)
    | (refine brNStr (fun h => ?_) (fun h => ?_) <;> conv => whnf)
    | (refine brStrLt (fun h => ?_) (fun h => ?_) <;> conv => whnf)
    | (refine brNStrLt (fun h => ?_) (fun h => ?_) <;> conv => whnf)
    | (refine brNBEq (fun h => ?_) (fun h => ?_) <;> conv => whnf)
    | (refine brBEq (fun h => ?_) (fun h => ?_) <;> conv => whnf)
    | (refine CallK_intro (c_impl_IsCode _ (by assumption)) ?_; conv => whnf)
    | (refine CallK_intro (c_impl_in _ _ _) ?_; conv => whnf)
    | (refine CallK_intro (c_impl_isLotRule _ _) ?_; conv => whnf)
    | (refine WrK_i64 (by omega) (by omega) ?_; conv => whnf)
    | (refine takeK_full (by first | exact rfl | exact (List.length_map _).symm | exact List.length_map _ | omega) ?_; conv => whnf)
    | (refine StrK_intro _ rfl (by assumption) ?_; conv => whnf)
    | (refine IxK_map _ rfl (by assumption) ?_; conv => whnf)
    | (refine StrK_lt _ rfl (by omega) (fun b hb => ?_); conv => whnf)
    | (refine IxK_mapLt _ rfl (by (try simp only [List.length_map] at *); omega) (fun x hx => ?_); conv => whnf)
    | (refine IxK_mapI (by omega) (by (try simp only [List.length_map] at *); omega) (fun j x hj hx => ?_); conv => whnf)
    | (refine NeedK_intro (by omega) ?_; conv => whnf)
  all_goals first | exact bF (by unfold isItemP; grind) | exact bT (by unfold isItemP; grind) | exact bP (by unfold isItemP; grind) | exact bB (by rw [eqB_iff]; unfold isItemP; grind)

set_option maxHeartbeats 1000000 in
theorem c_spec_IsItem (x : ItemV) (hx : x.ok) : Contract Try.prog 77 [.d x.dat] (.one (.d (bD (tr (isItemP x))))) := by
  refine contract_by hma hTa Try.func77 (by kernel_rfl) (by kernel_rfl) ?_
  obtain ⟨k0, k1, k2, k3, k4, k5, k6, k7⟩ := hx
  conv => whnf
  repeat' first
    | (refine brLt (fun h => ?_) (fun h => ?_) <;> conv => whnf)
    | (refine brLe (fun h => ?_) (fun h => ?_) <;> conv => whnf)
    | (refine brEq (fun h => ?_) (fun h => ?_) <;> conv => whnf)
    | (refine brTr (fun h => ?_) (fun h => ?_) <;> conv => whnf)
    | (refine brNTr (fun h => ?_) (fun h => ?_) <;> conv => whnf)
    | (refine brNLt (fun h => ?_) (fun h => ?_) <;> conv => whnf)
    | (refine brNLe (fun h => ?_) (fun h => ?_) <;> conv => whnf)
    | (refine brNEq (fun h => ?_) (fun h => ?_) <;> conv => whnf)
    | (refine brStr (fun h => ?_) (fun h => ?_) <;> conv => whnf)
    | (refine brNStr (fun h => ?_) (fun h => ?_) <;> conv => whnf)
    | (refine brStrLt (fun h => ?_) (fun h => ?_) <;> conv => whnf)
    | (refine brNStrLt (fun h => ?_) (fun h => ?_) <;> conv => whnf)
    | (refine brNBEq (fun h => ?_) (fun h => ?_) <;> conv => whnf)
    | (refine brBEq (fun h => ?_) (fun h => ?_) <;> conv => whnf)
    | (refine CallK_intro (c_spec_IsCode _ (by assumption)) ?_; conv => whnf)
    | (refine CallK_intro (c_spec_l1In _ _ _) ?_; conv => whnf)
    | (refine WrK_i64 (by omega) (by omega) ?_; conv => whnf)
    | (refine takeK_full (by first | exact rfl | exact (List.length_map _).symm | exact List.length_map _ | omega) ?_; conv => whnf)
    | (refine StrK_intro _ rfl (by assumption) ?_; conv => whnf)
    | (refine IxK_map _ rfl (by assumption) ?_; conv => whnf)
    | (refine StrK_lt _ rfl (by omega) (fun b hb => ?_); conv => whnf)
    | (refine IxK_mapLt _ rfl (by (try simp only [List.length_map] at *); omega) (fun x hx => ?_); conv => whnf)
    | (refine IxK_mapI (by omega) (by (try simp only [List.length_map] at *); omega) (fun j x hj hx => ?_); conv => whnf)
    | (refine NeedK_intro (by omega) ?_; conv => whnf)
  all_goals first | exact bF (by unfold isItemP isLotP; grind) | exact bT (by unfold isItemP isLotP; grind) | exact bP (by unfold isItemP isLotP; grind) | exact bB (by rw [eqB_iff]; unfold isItemP isLotP; grind)

noncomputable def netOfN (x : ItemV) (g : Int) : Int := ifP (isItemP x ∧ inP g 0 2000000000) ((g * (100 - x.scrap)).tdiv 100) 0
theorem isItem_scrap {x : ItemV} (h : isItemP x) : 0 ≤ x.scrap ∧ x.scrap ≤ 50 := h.2.2.2.2.2.1
theorem net_bound {g s : Int} (h0 : 0 ≤ g) (h1 : g ≤ 2000000000) (s0 : 0 ≤ s) (s1 : s ≤ 50) : 0 ≤ g * (100 - s) ∧ g * (100 - s) ≤ 200000000000 := by
  refine ⟨Int.mul_nonneg h0 (by omega), ?_⟩
  have : g * (100 - s) ≤ 2000000000 * 100 := Int.mul_le_mul h1 (by omega) (by omega) (by omega)
  omega
theorem tdiv_bound {a : Int} (h0 : 0 ≤ a) (h1 : a ≤ 200000000000) : 0 ≤ a.tdiv 100 ∧ a.tdiv 100 ≤ 2000000000 := by
  rw [Int.tdiv_eq_ediv_of_nonneg h0]; omega

theorem c_impl_NetOf (x : ItemV) (hx : x.ok) (g : Int) : Contract Try.prog 26 [.d x.dat, .d (iD g)] (.tup (.d (iD (netOfN x g))) [bD (tr (isItemP x ∧ inP g 0 2000000000))]) := by
  refine contract_by hma hTa Try.func26 (by kernel_rfl) (by kernel_rfl) ?_
  unfold netOfN
  conv => whnf
  repeat' first
    | (refine brLt (fun h => ?_) (fun h => ?_) <;> conv => whnf)
    | (refine brLe (fun h => ?_) (fun h => ?_) <;> conv => whnf)
    | (refine brEq (fun h => ?_) (fun h => ?_) <;> conv => whnf)
    | (refine brTr (fun h => ?_) (fun h => ?_) <;> conv => whnf)
    | (refine brNTr (fun h => ?_) (fun h => ?_) <;> conv => whnf)
    | (refine brNLt (fun h => ?_) (fun h => ?_) <;> conv => whnf)
    | (refine brNLe (fun h => ?_) (fun h => ?_) <;> conv => whnf)
    | (refine brNEq (fun h => ?_) (fun h => ?_) <;> conv => whnf)
    | (refine brStr (fun h => ?_) (fun h => ?_) <;> conv => whnf)
    | (refine brNStr (fun h => ?_) (fun h => ?_) <;> conv => whnf)
    | (refine brStrLt (fun h => ?_) (fun h => ?_) <;> conv => whnf)
    | (refine brNStrLt (fun h => ?_) (fun h => ?_) <;> conv => whnf)
    | (refine brNBEq (fun h => ?_) (fun h => ?_) <;> conv => whnf)
    | (refine brBEq (fun h => ?_) (fun h => ?_) <;> conv => whnf)
    | (refine CallK_intro (c_impl_IsItem _ (by assumption)) ?_; conv => whnf)
    | (refine CallK_intro (c_impl_in _ _ _) ?_; conv => whnf)
    | (refine WrK_i64 (by omega) (by omega) ?_; conv => whnf)
    | (refine takeK_full (by first | exact rfl | exact (List.length_map _).symm | exact List.length_map _ | omega) ?_; conv => whnf)
    | (refine StrK_intro _ rfl (by assumption) ?_; conv => whnf)
    | (refine IxK_map _ rfl (by assumption) ?_; conv => whnf)
    | (refine StrK_lt _ rfl (by omega) (fun b hb => ?_); conv => whnf)
    | (refine IxK_mapLt _ rfl (by (try simp only [List.length_map] at *); omega) (fun x hx => ?_); conv => whnf)
    | (refine IxK_mapI (by omega) (by (try simp only [List.length_map] at *); omega) (fun j x hj hx => ?_); conv => whnf)
    | (refine NeedK_intro (by omega) ?_; conv => whnf)
  all_goals first | exact ⟨iF (by grind) rfl, bF (by grind), trivial⟩ | skip
  have h1 : isItemP x := by assumption
  have h2 : inP g 0 2000000000 := by assumption
  have hs := isItem_scrap h1
  have hb := net_bound h2.1 h2.2 hs.1 hs.2
  have hd := tdiv_bound hb.1 hb.2
  repeat' first
    | (refine brLt (fun h => ?_) (fun h => ?_) <;> conv => whnf)
    | (refine brLe (fun h => ?_) (fun h => ?_) <;> conv => whnf)
    | (refine brEq (fun h => ?_) (fun h => ?_) <;> conv => whnf)
    | (refine brTr (fun h => ?_) (fun h => ?_) <;> conv => whnf)
    | (refine brNTr (fun h => ?_) (fun h => ?_) <;> conv => whnf)
    | (refine brNLt (fun h => ?_) (fun h => ?_) <;> conv => whnf)
    | (refine brNLe (fun h => ?_) (fun h => ?_) <;> conv => whnf)
    | (refine brNEq (fun h => ?_) (fun h => ?_) <;> conv => whnf)
    | (refine brStr (fun h => ?_) (fun h => ?_) <;> conv => whnf)
    | (refine brNStr (fun h => ?_) (fun h => ?_) <;> conv => whnf)
    | (refine brStrLt (fun h => ?_) (fun h => ?_) <;> conv => whnf)
    | (refine brNStrLt (fun h => ?_) (fun h => ?_) <;> conv => whnf)
    | (refine brNBEq (fun h => ?_) (fun h => ?_) <;> conv => whnf)
    | (refine brBEq (fun h => ?_) (fun h => ?_) <;> conv => whnf)
    | (refine WrK_i64 (by omega) (by omega) ?_; conv => whnf)
    | (refine takeK_full (by first | exact rfl | exact (List.length_map _).symm | exact List.length_map _ | omega) ?_; conv => whnf)
    | (refine StrK_intro _ rfl (by assumption) ?_; conv => whnf)
    | (refine IxK_map _ rfl (by assumption) ?_; conv => whnf)
    | (refine StrK_lt _ rfl (by omega) (fun b hb => ?_); conv => whnf)
    | (refine IxK_mapLt _ rfl (by (try simp only [List.length_map] at *); omega) (fun x hx => ?_); conv => whnf)
    | (refine IxK_mapI (by omega) (by (try simp only [List.length_map] at *); omega) (fun j x hj hx => ?_); conv => whnf)
    | (refine NeedK_intro (by omega) ?_; conv => whnf)
  exact ⟨iT (by grind) rfl, bT (by grind), trivial⟩

end Go.DL
