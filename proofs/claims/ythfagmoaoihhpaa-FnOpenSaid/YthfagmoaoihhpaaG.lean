/- Contracts of functions of the program, at this seat: what each call returns, by its arguments as data; each states its own conditions. -/
import Derived.Test.YthfagmoaoihhpaaF
namespace Go.DL
set_option maxRecDepth 100000
set_option maxHeartbeats 2000000
set_option linter.unusedSimpArgs false
set_option linter.unusedVariables false
open Go.RowKit Go.Proofs Go.Proofs.Ythfagmoaoihhpaa

theorem brEqT {a b : Int} {A B : Prop} (h : a = b) (hA : A) : brM (eqB a b) A B := brEq (fun _ => hA) (fun h2 => absurd h h2)
theorem brEqF {a b : Int} {A B : Prop} (h : a ≠ b) (hB : B) : brM (eqB a b) A B := brEq (fun h2 => absurd h2 h) (fun _ => hB)
theorem brNEqT {a b : Int} {A B : Prop} (h : a = b) (hB : B) : brM (!eqB a b) A B := brNEq (fun _ => hB) (fun h2 => absurd h h2)
theorem brNEqF {a b : Int} {A B : Prop} (h : a ≠ b) (hA : A) : brM (!eqB a b) A B := brNEq (fun h2 => absurd h2 h) (fun _ => hA)
theorem brLtT {a b : Int} {A B : Prop} (h : a < b) (hA : A) : brM (ltB a b) A B := brLt (fun _ => hA) (fun h2 => absurd h (by omega))
theorem brLtF {a b : Int} {A B : Prop} (h : b ≤ a) (hB : B) : brM (ltB a b) A B := brLt (fun h2 => absurd h (by omega)) (fun _ => hB)
theorem brLeT {a b : Int} {A B : Prop} (h : a ≤ b) (hA : A) : brM (leB a b) A B := brLe (fun _ => hA) (fun h2 => absurd h (by omega))
theorem brLeF {a b : Int} {A B : Prop} (h : b < a) (hB : B) : brM (leB a b) A B := brLe (fun h2 => absurd h (by omega)) (fun _ => hB)
theorem LoopK2 {P : Program} {T : Tys} {n : Nat} (hm : P.follows .mixedOrders = true) (hT : TOK P T) {α β : Type} {c : Code} {Q : Exit → St → Prop} {σ : St} (keep : List (Nat × Kp)) (st : α → β → St) (ok : α → β → Prop) (μ : α → β → Nat) (hb : codeB n c = true)
    (h0 : treesK keep σ fun σ1 => normK keep σ1 [] fun σ' => ∃ a b, ok a b ∧ σ' = st a b) (hr : ∀ a b, ok a b → dC P T n c (loopQ keep (fun p : α × β => st p.1 p.2) (fun p => ok p.1 p.2) (fun p => μ p.1 p.2) (μ a b) Q) (st a b)) : LoopK P n c Q σ :=
  LoopK_intro hm hT keep (fun p : α × β => st p.1 p.2) (fun p => ok p.1 p.2) (fun p => μ p.1 p.2) hb
    (by
      have e : (fun σ' => ∃ a b, ok a b ∧ σ' = st a b) = (fun σ' => ∃ a : α × β, ok a.1 a.2 ∧ σ' = st a.1 a.2) := by
        funext σ'
        exact propext ⟨fun ⟨a, b, h⟩ => ⟨(a, b), h⟩, fun ⟨p, h⟩ => ⟨p.1, p.2, h⟩⟩
      rw [e] at h0
      exact h0) (fun p h => hr p.1 p.2 h)
/-- How many operands a kind of node has, -1 for another kind. -/
def opN (k : Int) : Int := if k = 0 then 0 else if k = 1 then 0 else if k = 2 then 1 else if k = 3 then 2 else if k = 4 then 2 else -1
def haveN : List NodeV → Int
  | [] => 0
  | l => sumI (fun x => 1 - opN x.kind) l
def have_ (l : List NodeV) : Int := sumI (fun x => 1 - opN x.kind) l
def nodeTexts (x : NodeV) : Prop := (x.kind = 1 → isCodeP x.option ∧ isCodeP x.value) ∧ (x.kind ≠ 1 → x.option = ⟨#[]⟩ ∧ x.value = ⟨#[]⟩)
def isNodeAt (l : List NodeV) (i : Nat) (x : NodeV) : Prop := 0 ≤ opN x.kind ∧ opN x.kind ≤ have_ (l.take i) ∧ nodeTexts x
def isCondP (l : List NodeV) : Prop := l.length ≤ 30 ∧ allP l (isNodeAt l) ∧ have_ l = 1
theorem opN_bound (k : Int) : -1 ≤ opN k ∧ opN k ≤ 2 := by unfold opN; (repeat' split) <;> omega
theorem have_take {l : List NodeV} {i : Nat} {x : NodeV} (h : l[i]? = some x) : have_ (l.take (i + 1)) = have_ (l.take i) + (1 - opN x.kind) := sumI_take h
theorem have_bound {l : List NodeV} {i : Nat} (h : AllB l (isNodeAt l) i) (hi : i ≤ l.length) : 0 ≤ have_ (l.take i) ∧ have_ (l.take i) ≤ i := by
  induction i with
  | zero => simp [have_, sumI]
  | succ i ih =>
    have h1 := ih (fun j hj => h j (by omega)) (by omega)
    obtain ⟨x, hx⟩ : ∃ x, l[i]? = some x := ⟨l[i], by simp⟩
    have h2 := h i (by omega) x hx
    rw [have_take hx]
    have := h2.1
    have := h2.2.1
    have := opN_bound x.kind
    omega
theorem opN_facts (k : Int) : (k = 0 ∧ opN k = 0) ∨ (k = 1 ∧ opN k = 0) ∨ (k = 2 ∧ opN k = 1) ∨ (k = 3 ∧ opN k = 2) ∨ (k = 4 ∧ opN k = 2) ∨ (k ≠ 0 ∧ k ≠ 1 ∧ k ≠ 2 ∧ k ≠ 3 ∧ k ≠ 4 ∧ opN k = -1) := by
  unfold opN; (repeat' split) <;> omega
theorem cond_not {l : List NodeV} {i : Nat} {x : NodeV} (hx : l[i]? = some x) (h : ¬ isNodeAt l i x) : ¬ isCondP l := fun hp => h (hp.2.1 i x hx)
theorem node_one {l : List NodeV} {i : Nat} {x : NodeV} (h0 : 0 ≤ opN x.kind) (h1 : opN x.kind ≤ have_ (l.take i)) (hk : x.kind = 1) (ha : isCodeP x.option) (hb : isCodeP x.value) : isNodeAt l i x := ⟨h0, h1, fun _ => ⟨ha, hb⟩, fun h => absurd hk h⟩
theorem node_oth {l : List NodeV} {i : Nat} {x : NodeV} (h0 : 0 ≤ opN x.kind) (h1 : opN x.kind ≤ have_ (l.take i)) (hk : x.kind ≠ 1) (ha : x.option = ⟨#[]⟩) (hb : x.value = ⟨#[]⟩) : isNodeAt l i x := ⟨h0, h1, fun h => absurd h hk, fun _ => ⟨ha, hb⟩⟩
theorem opN_0 {k : Int} (h : k = 0) : opN k = 0 := by subst h; rfl
theorem opN_1 {k : Int} (h : k = 1) : opN k = 0 := by subst h; rfl
theorem opN_2 {k : Int} (h : k = 2) : opN k = 1 := by subst h; rfl
theorem opN_3 {k : Int} (h : k = 3) : opN k = 2 := by subst h; rfl
theorem opN_4 {k : Int} (h : k = 4) : opN k = 2 := by subst h; rfl
theorem ne_1 {k c : Int} (h : k = c) (hc : c ≠ 1) : k ≠ 1 := by subst h; exact hc
section
variable {l : List NodeV} {i : Nat} {x : NodeV} {n : Int}
theorem nd_0 (hk : x.kind = 0) (hb : 0 ≤ have_ (l.take i)) (ha : x.option = ⟨#[]⟩) (hv : x.value = ⟨#[]⟩) : isNodeAt l i x := node_oth (by rw [opN_0 hk]; omega) (by rw [opN_0 hk]; exact hb) (ne_1 hk (by decide)) ha hv
theorem nd_1 (hk : x.kind = 1) (hb : 0 ≤ have_ (l.take i)) (ha : isCodeP x.option) (hv : isCodeP x.value) : isNodeAt l i x := node_one (by rw [opN_1 hk]; omega) (by rw [opN_1 hk]; exact hb) hk ha hv
theorem nd_2 (hk : x.kind = 2) (hn : n = have_ (l.take i)) (h : 1 ≤ n) (ha : x.option = ⟨#[]⟩) (hv : x.value = ⟨#[]⟩) : isNodeAt l i x := node_oth (by rw [opN_2 hk]; omega) (by rw [opN_2 hk, ← hn]; exact h) (ne_1 hk (by decide)) ha hv
theorem nd_3 (hk : x.kind = 3) (hn : n = have_ (l.take i)) (h : 1 ≤ n - 1) (ha : x.option = ⟨#[]⟩) (hv : x.value = ⟨#[]⟩) : isNodeAt l i x := node_oth (by rw [opN_3 hk]; omega) (by rw [opN_3 hk, ← hn]; omega) (ne_1 hk (by decide)) ha hv
theorem nd_4 (hk : x.kind = 4) (hn : n = have_ (l.take i)) (h : 1 ≤ n - 1) (ha : x.option = ⟨#[]⟩) (hv : x.value = ⟨#[]⟩) : isNodeAt l i x := node_oth (by rw [opN_4 hk]; omega) (by rw [opN_4 hk, ← hn]; omega) (ne_1 hk (by decide)) ha hv
theorem nx_0 (hx : l[i]? = some x) (hn : n = have_ (l.take i)) (hk : x.kind = 0) : n + 1 = have_ (l.take (i + 1)) := by rw [have_take hx, opN_0 hk, ← hn]; omega
theorem nx_1 (hx : l[i]? = some x) (hn : n = have_ (l.take i)) (hk : x.kind = 1) : n + 1 = have_ (l.take (i + 1)) := by rw [have_take hx, opN_1 hk, ← hn]; omega
theorem nx_2 (hx : l[i]? = some x) (hn : n = have_ (l.take i)) (hk : x.kind = 2) : n = have_ (l.take (i + 1)) := by rw [have_take hx, opN_2 hk, ← hn]; omega
theorem nx_3 (hx : l[i]? = some x) (hn : n = have_ (l.take i)) (hk : x.kind = 3) : n - 1 = have_ (l.take (i + 1)) := by rw [have_take hx, opN_3 hk, ← hn]; omega
theorem nx_4 (hx : l[i]? = some x) (hn : n = have_ (l.take i)) (hk : x.kind = 4) : n - 1 = have_ (l.take (i + 1)) := by rw [have_take hx, opN_4 hk, ← hn]; omega
theorem bd_2 (hk : x.kind = 2) (hn : n = have_ (l.take i)) (h : n < 1) : ¬ isNodeAt l i x := fun hp => by have := hp.2.1; rw [opN_2 hk, ← hn] at this; omega
theorem bd_3 (hk : x.kind = 3) (hn : n = have_ (l.take i)) (h : n - 1 < 1) : ¬ isNodeAt l i x := fun hp => by have := hp.2.1; rw [opN_3 hk, ← hn] at this; omega
theorem bd_4 (hk : x.kind = 4) (hn : n = have_ (l.take i)) (h : n - 1 < 1) : ¬ isNodeAt l i x := fun hp => by have := hp.2.1; rw [opN_4 hk, ← hn] at this; omega
theorem bd_o (h0 : x.kind ≠ 0) (h1 : x.kind ≠ 1) (h2 : x.kind ≠ 2) (h3 : x.kind ≠ 3) (h4 : x.kind ≠ 4) : ¬ isNodeAt l i x := fun hp => by
  have := hp.1
  rcases opN_facts x.kind with h | h | h | h | h | h
  · exact h0 h.1
  · exact h1 h.1
  · exact h2 h.1
  · exact h3 h.1
  · exact h4 h.1
  · omega
end

theorem c_impl_operands (k : Int) : Contract Try.prog 48 [.d (iD k)] (.one (.d (iD (opN k)))) := by
  refine contract_by hma hTa Try.func48 (by kernel_rfl) (by kernel_rfl) ?_
  conv => whnf
  repeat' first
    | (refine brLt (fun h => ?_) (fun h => ?_) <;> conv => whnf)
    | (refine brLe (fun h => ?_) (fun h => ?_) <;> conv => whnf)
    | (refine brEq (fun h => ?_) (fun h => ?_) <;> conv => whnf)
    | (refine brTr (fun h => ?_) (fun h => ?_) <;> conv => whnf)
    | (refine brNTr (fun h => ?_) (fun h => ?_) <;> conv => whnf)
    | (refine brNLt (fun h => ?_) (fun h => ?_) <;> conv => whnf)
    | (refine brNLe (fun h => ?_) (fun h => ?_) <;> conv => whnf)
    | (refine brNEq (fun h => ?_) (fun h => ?_) <;> conv => whnf)
    | (refine brStr (fun h => ?_) (fun h => ?_) <;> conv => whnf)
    | (refine brNStr (fun h => ?_) (fun h => ?_) <;> conv => whnf)
    | (refine brStrLt (fun h => ?_) (fun h => ?_) <;> conv => whnf)
    | (refine brNStrLt (fun h => ?_) (fun h => ?_) <;> conv => whnf)
    | (refine brNBEq (fun h => ?_) (fun h => ?_) <;> conv => whnf)
    | (refine brBEq (fun h => ?_) (fun h => ?_) <;> conv => whnf)
    | (refine WrK_i64 (by omega) (by omega) ?_; conv => whnf)
    | (refine takeK_full (by first | exact rfl | exact (List.length_map _).symm | exact List.length_map _ | omega) ?_; conv => whnf)
    | (refine StrK_intro _ rfl (by assumption) ?_; conv => whnf)
    | (refine IxK_map _ rfl (by assumption) ?_; conv => whnf)
    | (refine StrK_lt _ rfl (by omega) (fun b hb => ?_); conv => whnf)
    | (refine IxK_mapLt _ rfl (by (try simp only [List.length_map] at *); omega) (fun x hx => ?_); conv => whnf)
    | (refine IxK_mapI (by omega) (by (try simp only [List.length_map] at *); omega) (fun j x hj hx => ?_); conv => whnf)
    | (refine NeedK_intro (by omega) ?_; conv => whnf)
  all_goals exact iE (by unfold opN; simp_all)

set_option maxHeartbeats 4000000 in
theorem c_impl_IsCond (l : List NodeV) (hl : okL NodeV.ok l) : Contract Try.prog 43 [.d (lD NodeV.dat l)] (.one (.d (bD (tr (isCondP l))))) := by
  refine contract_by hma hTa Try.func43 (by kernel_rfl) (by kernel_rfl) ?_
  obtain ⟨hlen, hok⟩ := hl
  conv => whnf
  have e1 : (List.map NodeV.dat l).length = l.length := List.length_map _
  refine brLt (fun h => ?_) (fun h => ?_) <;> conv => whnf
  · exact bF (fun hp => by have := hp.1; omega)
  refine LoopK2 hma hTa [(0, .pl), (2, .pl), (3, .pl), (10, .pl), (11, .pl), (12, .pl)] (fun (i : Nat) (n : Int) => ⟨[(0, .d (lD NodeV.dat l)), (2, .d (bD false)), (3, .d (iD n)), (10, .d (lD NodeV.dat l)), (11, .d (iD (l.map NodeV.dat).length)), (12, .d (iD i))], [], []⟩) (fun i n => i ≤ l.length ∧ AllB l (isNodeAt l) i ∧ n = have_ (l.take i)) (fun i _ => l.length - i) (by kernel_rfl) ?_ ?_
  · conv => whnf
    exact ⟨0, 0, ⟨by omega, AllB_zero, by simp [have_, sumI]⟩, rfl⟩
  · intro i n ⟨hi, hall, hn⟩
    have hb := have_bound hall hi
    conv => whnf
    repeat' first
      | (refine brLt (fun h => ?_) (fun h => ?_) <;> conv => whnf)
      | (refine brLe (fun h => ?_) (fun h => ?_) <;> conv => whnf)
      | (refine brEqT (by assumption) ?_; conv => whnf)
      | (refine brEqF (by first | assumption | (rw [‹x.kind = _›]; decide)) ?_; conv => whnf)
      | (refine brNEqT (by assumption) ?_; conv => whnf)
      | (refine brNEqF (by first | assumption | (rw [‹x.kind = _›]; decide)) ?_; conv => whnf)
      | (refine brEq (fun h => ?_) (fun h => ?_) <;> conv => whnf)
      | (refine brNEq (fun h => ?_) (fun h => ?_) <;> conv => whnf)
      | (refine brNTr (fun h => ?_) (fun h => ?_) <;> conv => whnf)
      | (refine brNStr (fun h => ?_) (fun h => ?_) <;> conv => whnf)
      | (refine CallK_intro (c_impl_operands _) ?_; conv => whnf)
      | (refine CallK_intro (c_impl_IsCode _ (by assumption)) ?_; conv => whnf)
      | (refine IxK_mapLt _ rfl (by omega) (fun x hx => ?_); (conv => whnf); obtain ⟨k0, k1, k2⟩ := hok _ (get_mem hx); have ho := opN_bound x.kind; have hs := have_take hx; have hil := get_lt hx)
      | (refine WrK_i64 (by omega) (by omega) ?_; conv => whnf)
    all_goals first
      | exact bF (cond_not ‹l[i]? = some _› (fun hp => by have h1 := hp.1; have h2 := hp.2.1; omega))
      | exact bF (cond_not ‹l[i]? = some _› (fun hp => ‹¬ isCodeP _› (hp.2.2.1 (by assumption)).1))
      | exact bF (cond_not ‹l[i]? = some _› (fun hp => ‹¬ isCodeP _› (hp.2.2.1 (by assumption)).2))
      | exact bF (cond_not ‹l[i]? = some _› (fun hp => ‹_ ≠ (⟨#[]⟩ : ByteArray)› (hp.2.2.2 (by omega)).1))
      | exact bF (cond_not ‹l[i]? = some _› (fun hp => ‹_ ≠ (⟨#[]⟩ : ByteArray)› (hp.2.2.2 (by omega)).2))
      | exact ⟨(i + 1, _), ⟨‹i < l.length›, AllB_succ ‹l[i]? = some _› hall (node_one (by have hf := opN_facts x.kind; omega) (by have hf := opN_facts x.kind; omega) (by assumption) (by assumption) (by assumption)), by have hf := opN_facts x.kind; dsimp only; omega⟩, (by show l.length - (i + 1) < l.length - i; omega), rfl⟩
      | exact ⟨(i + 1, _), ⟨‹i < l.length›, AllB_succ ‹l[i]? = some _› hall (node_oth (by have hf := opN_facts x.kind; omega) (by have hf := opN_facts x.kind; omega) (by omega) (by assumption) (by assumption)), by have hf := opN_facts x.kind; dsimp only; omega⟩, (by show l.length - (i + 1) < l.length - i; omega), rfl⟩
      | (exfalso; omega)
      | exact bB ⟨fun h => ⟨by omega, allP_of hall (by omega), by rw [eqB_iff] at h; rw [List.take_of_length_le (by omega)] at hn; omega⟩, fun h => by have h2 := h.2.2; rw [eqB_iff]; rw [List.take_of_length_le (by omega)] at hn; omega⟩

set_option maxHeartbeats 4000000 in
theorem c_spec_IsCond (l : List NodeV) (hl : okL NodeV.ok l) : Contract Try.prog 35 [.d (lD NodeV.dat l)] (.one (.d (bD (tr (isCondP l))))) := by
  refine contract_by hma hTa Try.func35 (by kernel_rfl) (by kernel_rfl) ?_
  obtain ⟨hlen, hok⟩ := hl
  conv => whnf
  have e1 : (List.map NodeV.dat l).length = l.length := List.length_map _
  refine LoopK2 hma hTa [(0, .pl), (2, .pl), (3, .pl), (4, .pl)] (fun (i : Nat) (n : Int) => ⟨[(0, .d (lD NodeV.dat l)), (2, .d (bD false)), (3, .d (iD n)), (4, .d (iD i))], [], []⟩) (fun i n => i ≤ l.length ∧ AllB l (isNodeAt l) i ∧ n = have_ (l.take i)) (fun i _ => l.length - i) (by kernel_rfl) ?_ ?_
  · conv => whnf
    exact ⟨0, 0, ⟨by omega, AllB_zero, by simp [have_, sumI]⟩, rfl⟩
  · intro i n ⟨hi, hall, hn⟩
    have hb := have_bound hall hi
    conv => whnf
    repeat' first
      | (refine brLt (fun h => ?_) (fun h => ?_) <;> conv => whnf)
      | (refine brLe (fun h => ?_) (fun h => ?_) <;> conv => whnf)
      | (refine brEqT (by assumption) ?_; conv => whnf)
      | (refine brEqF (by first | assumption | (rw [‹x.kind = _›]; decide)) ?_; conv => whnf)
      | (refine brNEqT (by assumption) ?_; conv => whnf)
      | (refine brNEqF (by first | assumption | (rw [‹x.kind = _›]; decide)) ?_; conv => whnf)
      | (refine brEq (fun h => ?_) (fun h => ?_) <;> conv => whnf)
      | (refine brNEq (fun h => ?_) (fun h => ?_) <;> conv => whnf)
      | (refine brNTr (fun h => ?_) (fun h => ?_) <;> conv => whnf)
      | (refine brNStr (fun h => ?_) (fun h => ?_) <;> conv => whnf)
      | (refine CallK_intro (c_spec_IsCode _ (by assumption)) ?_; conv => whnf)
      | (refine IxK_mapLt _ rfl (by omega) (fun x hx => ?_); (conv => whnf); obtain ⟨k0, k1, k2⟩ := hok _ (get_mem hx); have ho := opN_bound x.kind; have hs := have_take hx; have hil := get_lt hx)
      | (refine WrK_i64 (by omega) (by omega) ?_; conv => whnf)
    all_goals first
      | exact bF (cond_not ‹l[i]? = some _› (bd_2 (by assumption) hn (by assumption)))
      | exact bF (cond_not ‹l[i]? = some _› (bd_3 (by assumption) hn (by assumption)))
      | exact bF (cond_not ‹l[i]? = some _› (bd_4 (by assumption) hn (by assumption)))
      | exact bF (cond_not ‹l[i]? = some _› (bd_o (by assumption) (by assumption) (by assumption) (by assumption) (by assumption)))
      | exact bF (cond_not ‹l[i]? = some _› (fun hp => ‹¬ isCodeP _› (hp.2.2.1 (by assumption)).1))
      | exact bF (cond_not ‹l[i]? = some _› (fun hp => ‹¬ isCodeP _› (hp.2.2.1 (by assumption)).2))
      | exact bF (cond_not ‹l[i]? = some _› (fun hp => ‹_ ≠ (⟨#[]⟩ : ByteArray)› (hp.2.2.2 (ne_1 (by assumption) (by decide))).1))
      | exact bF (cond_not ‹l[i]? = some _› (fun hp => ‹_ ≠ (⟨#[]⟩ : ByteArray)› (hp.2.2.2 (ne_1 (by assumption) (by decide))).2))
      | exact ⟨(i + 1, _), ⟨‹i < l.length›, AllB_succ ‹l[i]? = some _› hall (nd_0 (by assumption) hb.1 (by assumption) (by assumption)), nx_0 ‹l[i]? = some _› hn (by assumption)⟩, Nat.sub_lt_sub_left ‹i < l.length› (Nat.lt_succ_self i), rfl⟩
      | exact ⟨(i + 1, _), ⟨‹i < l.length›, AllB_succ ‹l[i]? = some _› hall (nd_1 (by assumption) hb.1 (by assumption) (by assumption)), nx_1 ‹l[i]? = some _› hn (by assumption)⟩, Nat.sub_lt_sub_left ‹i < l.length› (Nat.lt_succ_self i), rfl⟩
      | exact ⟨(i + 1, _), ⟨‹i < l.length›, AllB_succ ‹l[i]? = some _› hall (nd_2 (by assumption) hn (by assumption) (by assumption) (by assumption)), nx_2 ‹l[i]? = some _› hn (by assumption)⟩, Nat.sub_lt_sub_left ‹i < l.length› (Nat.lt_succ_self i), rfl⟩
      | exact ⟨(i + 1, _), ⟨‹i < l.length›, AllB_succ ‹l[i]? = some _› hall (nd_3 (by assumption) hn (by assumption) (by assumption) (by assumption)), nx_3 ‹l[i]? = some _› hn (by assumption)⟩, Nat.sub_lt_sub_left ‹i < l.length› (Nat.lt_succ_self i), rfl⟩
      | exact ⟨(i + 1, _), ⟨‹i < l.length›, AllB_succ ‹l[i]? = some _› hall (nd_4 (by assumption) hn (by assumption) (by assumption) (by assumption)), nx_4 ‹l[i]? = some _› hn (by assumption)⟩, Nat.sub_lt_sub_left ‹i < l.length› (Nat.lt_succ_self i), rfl⟩
      | exact bF (fun hp => by have := hp.1; omega)
      | exact bF (fun hp => by have h2 := hp.2.2; rw [List.take_of_length_le (by have := hp.1; omega)] at hn; omega)
      | exact bB ⟨fun h => by
          rw [leB_iff] at h
          rw [List.take_of_length_le (by omega)] at hn
          exact ⟨by omega, allP_of hall (by omega), by omega⟩, fun h => by rw [leB_iff]; have := h.1; omega⟩

end Go.DL
