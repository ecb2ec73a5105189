/- Contracts of functions of the program, at this seat: what each call returns, by its arguments as data; each states its own conditions. -/
import Derived.Test.YtpobkpenfdibkaaD
namespace Go.DL
set_option maxRecDepth 100000
set_option maxHeartbeats 2000000
set_option linter.unusedSimpArgs false
set_option linter.unusedVariables false
open Go.RowKit Go.Proofs Go.Proofs.Ytpobkpenfdibkaa

theorem AllB_mono {α : Type} {l : List α} {g h : Nat → α → Prop} {i : Nat} (ha : AllB l g i) (hh : ∀ j x, g j x → h j x) : AllB l h i := fun j hj x hx => hh j x (ha j hj x hx)
noncomputable def slowestN (r : RoutingV) (q : Int) : Int := ifP (isRoutingP r ∧ inP q 1 100000) (findP (fun x => ∀ y ∈ r.steps, stepTimeN y q ≤ stepTimeN x q) r.steps) (-1)
theorem findP_max {α : Type} {f : α → Int} {l : List α} {b n : Nat} {x : α} (hx : l[b]? = some x) (h1 : AllB l (fun _ y => f y ≤ f x) n) (hn : l.length ≤ n) (h2 : AllB l (fun _ y => f y < f x) b) : findP (fun x => ∀ y ∈ l, f y ≤ f x) l = b := by
  refine findP_at hx ?_ (fun j hj y hy hp => ?_)
  · intro y hy
    obtain ⟨j, hj⟩ := List.getElem?_of_mem hy
    exact h1 j (by have := get_lt hj; omega) y hj
  · have h3 := h2 j hj y hy
    have h4 := hp x (get_mem hx)
    omega
def bestOK (f : StepV → Int) (l : List StepV) (i : Nat) (b : Nat) (x : StepV) : Prop := l[b]? = some x ∧ b < i ∧ AllB l (fun _ y => f y ≤ f x) i ∧ AllB l (fun _ y => f y < f x) b
theorem best_new {f : StepV → Int} {l : List StepV} {i b : Nat} {x y : StepV} (h : bestOK f l i b x) (hy : l[i]? = some y) (hlt : f x < f y) : bestOK f l (i + 1) i y :=
  ⟨hy, by omega, AllB_succ hy (AllB_mono h.2.2.1 (fun _ z hz => by omega)) (Int.le_refl _), AllB_mono h.2.2.1 (fun _ z hz => by omega)⟩
theorem best_keep {f : StepV → Int} {l : List StepV} {i b : Nat} {x y : StepV} (h : bestOK f l i b x) (hy : l[i]? = some y) (hle : f y ≤ f x) : bestOK f l (i + 1) b x :=
  ⟨h.1, by have := h.2.1; omega, AllB_succ hy h.2.2.1 hle, h.2.2.2⟩

theorem c_impl_SlowestStep (r : RoutingV) (hr : r.ok) (q : Int) (hq : okI q) : Contract Try.prog 18 [.d r.dat, .d (iD q)] (.one (.d (iD (slowestN r q)))) := by
  refine contract_by hma hTa Try.func18 (by kernel_rfl) (by kernel_rfl) ?_
  unfold slowestN
  conv => whnf
  repeat' first
    | (refine brLt (fun h => ?_) (fun h => ?_) <;> conv => whnf)
    | (refine brLe (fun h => ?_) (fun h => ?_) <;> conv => whnf)
    | (refine brEq (fun h => ?_) (fun h => ?_) <;> conv => whnf)
    | (refine brTr (fun h => ?_) (fun h => ?_) <;> conv => whnf)
    | (refine brNTr (fun h => ?_) (fun h => ?_) <;> conv => whnf)
    | (refine brNLt (fun h => ?_) (fun h => ?_) <;> conv => whnf)
    | (refine brNLe (fun h => ?_) (fun h => ?_) <;> conv => whnf)
    | (refine brNEq (fun h => ?_) (fun h => ?_) <;> conv => whnf)
    | (refine brStr (fun h => ?_) (fun h => ?_) <;> conv => whnf)
    | (refine brNStr (fun h => ?_) (fun h => ?_) <;> conv => whnf)
    | (refine brStrLt (fun h => ?_) (fun h => ?_) <;> conv => whnf)
    | (refine brNStrLt (fun h => ?_) (fun h => ?_) <;> conv => whnf)
    | (refine brNBEq (fun h => ?_) (fun h => ?_) <;> conv => whnf)
    | (refine brBEq (fun h => ?_) (fun h => ?_) <;> conv => whnf)
    | (refine CallK_intro (c_impl_IsRouting _ (by assumption)) ?_; conv => whnf)
    | (refine CallK_intro (c_impl_in _ _ _) ?_; conv => whnf)
    | (refine WrK_i64 (by omega) (by omega) ?_; conv => whnf)
    | (refine takeK_full (by first | exact rfl | exact (List.length_map _).symm | exact List.length_map _ | omega) ?_; conv => whnf)
    | (refine StrK_intro _ rfl (by assumption) ?_; conv => whnf)
    | (refine IxK_map _ rfl (by assumption) ?_; conv => whnf)
    | (refine StrK_lt _ rfl (by omega) (fun b hb => ?_); conv => whnf)
    | (refine IxK_mapLt _ rfl (by (try simp only [List.length_map] at *); omega) (fun x hx => ?_); conv => whnf)
    | (refine IxK_mapI (by omega) (by (try simp only [List.length_map] at *); omega) (fun j x hj hx => ?_); conv => whnf)
    | (refine NeedK_intro (by omega) ?_; conv => whnf)
  all_goals first | exact iF (by grind) rfl | skip
  have ha : isRoutingP r := by assumption
  have hq2 : inP q 1 100000 := by assumption
  obtain ⟨k0, hlen, hok⟩ := hr
  have e1 : (List.map StepV.dat r.steps).length = r.steps.length := List.length_map _
  have h1s := ha.2.2.1
  refine LoopK_intro hma hTa [(1, .pl), (2, .key 2), (4, .pl), (5, .pl), (6, .pl), (20, .pl), (21, .pl), (22, .pl)] (fun p : Nat × Int × Int => ⟨[(1, .d (iD q)), (2, .ae 2 0), (4, .d (iD 0)), (5, .d (iD p.2.1)), (6, .d (iD p.2.2)), (20, .d (lD StepV.dat r.steps)), (21, .d (iD (r.steps.map StepV.dat).length)), (22, .d (iD p.1))], [(2, some ⟨26, 2, [r.dat]⟩)], []⟩)
    (fun p => p.1 ≤ r.steps.length ∧ ((p.1 = 0 ∧ p.2.1 = -1 ∧ p.2.2 = -1) ∨ ∃ (b : Nat) (x : StepV), p.2.1 = b ∧ p.2.2 = stepTimeN x q ∧ bestOK (fun x => stepTimeN x q) r.steps p.1 b x)) (fun p => r.steps.length - p.1) (by kernel_rfl) ?_ ?_
  · conv => whnf
    exact ⟨(0, -1, -1), ⟨by omega, .inl ⟨rfl, rfl, rfl⟩⟩, rfl⟩
  · intro ⟨i, best, most⟩ ⟨hi, hinv⟩
    dsimp only at hi hinv
    conv => whnf
    refine brLt (fun h => ?_) (fun h => ?_) <;> conv => whnf
    · refine IxK_mapLt _ rfl (by omega) (fun x hx => ?_)
      conv => whnf
      refine CallK_intro (c_impl_StepTime _ (hok _ (get_mem hx)) _ hq) ?_
      conv => whnf
      have hd := stepTime_bound x q
      refine brLt (fun h2 => ?_) (fun h2 => ?_) <;> conv => whnf
      · have h2 : most < stepTimeN x q := h2
        refine WrK_i64 (by omega) (by omega) ?_
        conv => whnf
        refine ⟨(i + 1, (i : Int), stepTimeN x q), ⟨get_lt hx, .inr ⟨i, x, rfl, rfl, ?_⟩⟩, (by have := get_lt hx; show r.steps.length - (i + 1) < r.steps.length - i; omega), rfl⟩
        rcases hinv with ⟨h0, _, _⟩ | ⟨b, y, h3, h4, h5⟩
        · subst h0; exact ⟨hx, by omega, AllB_succ hx AllB_zero (Int.le_refl _), AllB_zero⟩
        · exact best_new h5 hx (by omega)
      · have h2 : stepTimeN x q ≤ most := h2
        refine WrK_i64 (by omega) (by omega) ?_
        conv => whnf
        refine ⟨(i + 1, best, most), ⟨get_lt hx, .inr ?_⟩, (by have := get_lt hx; show r.steps.length - (i + 1) < r.steps.length - i; omega), rfl⟩
        rcases hinv with ⟨h0, h3, h4⟩ | ⟨b, y, h3, h4, h5⟩
        · omega
        · exact ⟨b, y, h3, h4, best_keep h5 hx (by omega)⟩
    · rcases hinv with ⟨h0, h3, h4⟩ | ⟨b, y, h3, h4, h5⟩
      · omega
      · exact iT ⟨ha, hq2⟩ (by rw [findP_max h5.1 h5.2.2.1 (by omega) h5.2.2.2, h3])

theorem c_spec_SlowestStep (r : RoutingV) (hr : r.ok) (q : Int) (hq : okI q) : Contract Try.prog 41 [.d r.dat, .d (iD q)] (.one (.d (iD (slowestN r q)))) := by
  refine contract_by hma hTa Try.func41 (by kernel_rfl) (by kernel_rfl) ?_
  unfold slowestN
  conv => whnf
  repeat' first
    | (refine brLt (fun h => ?_) (fun h => ?_) <;> conv => whnf)
    | (refine brLe (fun h => ?_) (fun h => ?_) <;> conv => whnf)
    | (refine brEq (fun h => ?_) (fun h => ?_) <;> conv => whnf)
    | (refine brTr (fun h => ?_) (fun h => ?_) <;> conv => whnf)
    | (refine brNTr (fun h => ?_) (fun h => ?_) <;> conv => whnf)
    | (refine brNLt (fun h => ?_) (fun h => ?_) <;> conv => whnf)
    | (refine brNLe (fun h => ?_) (fun h => ?_) <;> conv => whnf)
    | (refine brNEq (fun h => ?_) (fun h => ?_) <;> conv => whnf)
    | (refine brStr (fun h => ?_) (fun h => ?_) <;> conv => whnf)
    | (refine brNStr (fun h => ?_) (fun h => ?_) <;> conv => whnf)
    | (refine brStrLt (fun h => ?_) (fun h => ?_) <;> conv => whnf)
    | (refine brNStrLt (fun h => ?_) (fun h => ?_) <;> conv => whnf)
    | (refine brNBEq (fun h => ?_) (fun h => ?_) <;> conv => whnf)
    | (refine brBEq (fun h => ?_) (fun h => ?_) <;> conv => whnf)
    | (refine CallK_intro (c_spec_IsRouting _ (by assumption)) ?_; conv => whnf)
    | (refine CallK_intro (c_spec_l1In _ _ _) ?_; conv => whnf)
    | (refine WrK_i64 (by omega) (by omega) ?_; conv => whnf)
    | (refine takeK_full (by first | exact rfl | exact (List.length_map _).symm | exact List.length_map _ | omega) ?_; conv => whnf)
    | (refine StrK_intro _ rfl (by assumption) ?_; conv => whnf)
    | (refine IxK_map _ rfl (by assumption) ?_; conv => whnf)
    | (refine StrK_lt _ rfl (by omega) (fun b hb => ?_); conv => whnf)
    | (refine IxK_mapLt _ rfl (by (try simp only [List.length_map] at *); omega) (fun x hx => ?_); conv => whnf)
    | (refine IxK_mapI (by omega) (by (try simp only [List.length_map] at *); omega) (fun j x hj hx => ?_); conv => whnf)
    | (refine NeedK_intro (by omega) ?_; conv => whnf)
  all_goals first | exact iF (by grind) rfl | skip
  have ha : isRoutingP r := by assumption
  have hq2 : inP q 1 100000 := by assumption
  obtain ⟨k0, hlen, hok⟩ := hr
  have e1 : (List.map StepV.dat r.steps).length = r.steps.length := List.length_map _
  have h1s := ha.2.2.1
  refine LoopK_intro hma hTa [(1, .pl), (2, .key 2), (4, .pl), (5, .pl), (6, .pl)] (fun p : Nat × Nat => ⟨[(1, .d (iD q)), (2, .ae 2 0), (4, .d (iD 0)), (5, .d (iD p.2)), (6, .d (iD p.1))], [(2, some ⟨26, 2, [r.dat]⟩)], []⟩)
    (fun p => 1 ≤ p.1 ∧ p.1 ≤ r.steps.length ∧ ∃ x, bestOK (fun x => stepTimeN x q) r.steps p.1 p.2 x) (fun p => r.steps.length - p.1) (by kernel_rfl) ?_ ?_
  · conv => whnf
    obtain ⟨x, hx⟩ : ∃ x, r.steps[0]? = some x := ⟨r.steps[0], by simp⟩
    exact ⟨(1, 0), ⟨by omega, by omega, x, hx, by omega, AllB_succ hx AllB_zero (Int.le_refl _), AllB_zero⟩, rfl⟩
  · intro ⟨i, b⟩ ⟨h1i, hi, x, hb⟩
    dsimp only at h1i hi hb
    conv => whnf
    refine brLt (fun h => ?_) (fun h => ?_) <;> conv => whnf
    · refine IxK_mapLt _ rfl (by omega) (fun y hy => ?_)
      conv => whnf
      refine CallK_intro (c_spec_StepTime _ (hok _ (get_mem hy)) _ hq) ?_
      conv => whnf
      refine IxK_map _ rfl hb.1 ?_
      conv => whnf
      refine CallK_intro (c_spec_StepTime _ (hok _ (get_mem hb.1)) _ hq) ?_
      conv => whnf
      refine brLt (fun h2 => ?_) (fun h2 => ?_) <;> conv => whnf
      · refine WrK_i64 (by omega) (by omega) ?_
        conv => whnf
        exact ⟨(i + 1, i), ⟨by dsimp only; omega, get_lt hy, y, best_new hb hy h2⟩, (by have := get_lt hy; show r.steps.length - (i + 1) < r.steps.length - i; omega), rfl⟩
      · refine WrK_i64 (by omega) (by omega) ?_
        conv => whnf
        exact ⟨(i + 1, b), ⟨by dsimp only; omega, get_lt hy, x, best_keep hb hy h2⟩, (by have := get_lt hy; show r.steps.length - (i + 1) < r.steps.length - i; omega), rfl⟩
    · exact iT ⟨ha, hq2⟩ (by rw [findP_max hb.1 hb.2.2.1 (by omega) hb.2.2.2])

def isChangeP (cat : List ItemV) (x : ChangeV) : Prop := isCatalogP cat ∧ inP x.day 0 999 ∧ 0 ≤ findP (fun y => y.code = x.parent) cat ∧ 0 ≤ findP (fun y => y.code = x.old) cat ∧ ((x.new = ⟨#[]⟩ ∧ x.quantity = 0) ∨ (x.new ≠ ⟨#[]⟩ ∧ 0 ≤ findP (fun y => y.code = x.new) cat ∧ inP x.quantity 0 1000))
theorem noempty {cat : List ItemV} (h : isCatalogP cat) : findP (fun y => y.code = ⟨#[]⟩) cat = -1 := by
  rcases findP_cases (fun y : ItemV => y.code = ⟨#[]⟩) cat with ⟨h1, _⟩ | ⟨i, x, h1, h2, h3, _⟩
  · exact h1
  · have := (h.1 i x h2).1.1.2.1
    rw [h3] at this
    exact absurd this (by decide)

theorem c_impl_IsChange (cat : List ItemV) (hc : okL ItemV.ok cat) (x : ChangeV) (hx : x.ok) : Contract Try.prog 50 [.d (lD ItemV.dat cat), .d x.dat] (.one (.d (bD (tr (isChangeP cat x))))) := by
  refine contract_by hma hTa Try.func50 (by kernel_rfl) (by kernel_rfl) ?_
  obtain ⟨k0, k1, k2, k3, k4⟩ := hx
  conv => whnf
  repeat' first
    | (refine brLt (fun h => ?_) (fun h => ?_) <;> conv => whnf)
    | (refine brLe (fun h => ?_) (fun h => ?_) <;> conv => whnf)
    | (refine brEq (fun h => ?_) (fun h => ?_) <;> conv => whnf)
    | (refine brTr (fun h => ?_) (fun h => ?_) <;> conv => whnf)
    | (refine brNTr (fun h => ?_) (fun h => ?_) <;> conv => whnf)
    | (refine brNLt (fun h => ?_) (fun h => ?_) <;> conv => whnf)
    | (refine brNLe (fun h => ?_) (fun h => ?_) <;> conv => whnf)
    | (refine brNEq (fun h => ?_) (fun h => ?_) <;> conv => whnf)
    | (refine brStr (fun h => ?_) (fun h => ?_) <;> conv => whnf)
    | (refine brNStr (fun h => ?_) (fun h => ?_) <;> conv => whnf)
    | (refine brStrLt (fun h => ?_) (fun h => ?_) <;> conv => whnf)
    | (refine brNStrLt (fun h => ?_) (fun h => ?_) <;> conv => whnf)
    | (refine brNBEq (fun h => ?_) (fun h => ?_) <;> conv => whnf)
    | (refine brBEq (fun h => ?_) (fun h => ?_) <;> conv => whnf)
    | (refine CallK_intro (c_impl_IsCatalog _ (by assumption)) ?_; conv => whnf)
    | (refine CallK_intro (c_impl_in _ _ _) ?_; conv => whnf)
    | (refine CallK_intro (c_impl_FindItem _ (by assumption) _) ?_; conv => whnf)
    | (refine WrK_i64 (by omega) (by omega) ?_; conv => whnf)
    | (refine takeK_full (by first | exact rfl | exact (List.length_map _).symm | exact List.length_map _ | omega) ?_; conv => whnf)
    | (refine StrK_intro _ rfl (by assumption) ?_; conv => whnf)
    | (refine IxK_map _ rfl (by assumption) ?_; conv => whnf)
    | (refine StrK_lt _ rfl (by omega) (fun b hb => ?_); conv => whnf)
    | (refine IxK_mapLt _ rfl (by (try simp only [List.length_map] at *); omega) (fun x hx => ?_); conv => whnf)
    | (refine IxK_mapI (by omega) (by (try simp only [List.length_map] at *); omega) (fun j x hj hx => ?_); conv => whnf)
    | (refine NeedK_intro (by omega) ?_; conv => whnf)
  all_goals first | exact bF (by unfold isChangeP; grind) | exact bT (by unfold isChangeP; grind) | exact bP (by unfold isChangeP; grind) | exact bB (by rw [eqB_iff]; unfold isChangeP; grind)

theorem c_spec_IsChange (cat : List ItemV) (hc : okL ItemV.ok cat) (x : ChangeV) (hx : x.ok) : Contract Try.prog 48 [.d (lD ItemV.dat cat), .d x.dat] (.one (.d (bD (tr (isChangeP cat x))))) := by
  refine contract_by hma hTa Try.func48 (by kernel_rfl) (by kernel_rfl) ?_
  obtain ⟨k0, k1, k2, k3, k4⟩ := hx
  conv => whnf
  repeat' first
    | (refine brLt (fun h => ?_) (fun h => ?_) <;> conv => whnf)
    | (refine brLe (fun h => ?_) (fun h => ?_) <;> conv => whnf)
    | (refine brEq (fun h => ?_) (fun h => ?_) <;> conv => whnf)
    | (refine brTr (fun h => ?_) (fun h => ?_) <;> conv => whnf)
    | (refine brNTr (fun h => ?_) (fun h => ?_) <;> conv => whnf)
    | (refine brNLt (fun h => ?_) (fun h => ?_) <;> conv => whnf)
    | (refine brNLe (fun h => ?_) (fun h => ?_) <;> conv => whnf)
    | (refine brNEq (fun h => ?_) (fun h => ?_) <;> conv => whnf)
    | (refine brStr (fun h => ?_) (fun h => ?_) <;> conv => whnf)
    | (refine brNStr (fun h => ?_) (fun h => ?_) <;> conv => whnf)
    | (refine brStrLt (fun h => ?_) (fun h => ?_) <;> conv => whnf)
    | (refine brNStrLt (fun h => ?_) (fun h => ?_) <;> conv => whnf)
    | (refine brNBEq (fun h => ?_) (fun h => ?_) <;> conv => whnf)
    | (refine brBEq (fun h => ?_) (fun h => ?_) <;> conv => whnf)
    | (refine CallK_intro (c_spec_IsCatalog _ (by assumption)) ?_; conv => whnf)
    | (refine CallK_intro (c_spec_l1In _ _ _) ?_; conv => whnf)
    | (refine CallK_intro (c_spec_FindItem _ (by assumption) _) ?_; conv => whnf)
    | (refine WrK_i64 (by omega) (by omega) ?_; conv => whnf)
    | (refine takeK_full (by first | exact rfl | exact (List.length_map _).symm | exact List.length_map _ | omega) ?_; conv => whnf)
    | (refine StrK_intro _ rfl (by assumption) ?_; conv => whnf)
    | (refine IxK_map _ rfl (by assumption) ?_; conv => whnf)
    | (refine StrK_lt _ rfl (by omega) (fun b hb => ?_); conv => whnf)
    | (refine IxK_mapLt _ rfl (by (try simp only [List.length_map] at *); omega) (fun x hx => ?_); conv => whnf)
    | (refine IxK_mapI (by omega) (by (try simp only [List.length_map] at *); omega) (fun j x hj hx => ?_); conv => whnf)
    | (refine NeedK_intro (by omega) ?_; conv => whnf)
  all_goals first | exact bF (by unfold isChangeP; have := noempty (cat := cat); grind) | exact bT (by unfold isChangeP; have := noempty (cat := cat); grind) | exact bP (by unfold isChangeP; have := noempty (cat := cat); grind)

end Go.DL
