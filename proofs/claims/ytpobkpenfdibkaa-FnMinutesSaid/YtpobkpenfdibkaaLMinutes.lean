/- The statement FnExactMinutesSaid: the law returns true for every input that can be read as data, and each argument reads afterwards as it read before. No conditions. -/
import Derived.Test.YtpobkpenfdibkaaQ2
import Derived.ProofKit
namespace Go.DL
set_option maxRecDepth 100000
set_option maxHeartbeats 2000000
set_option linter.unusedSimpArgs false
set_option linter.unusedVariables false
open Go.RowKit Go.Proofs Go.Proofs.Ytpobkpenfdibkaa

theorem max_ex {α : Type} {f : α → Int} : ∀ {l : List α}, 0 < l.length → ∃ x ∈ l, ∀ y ∈ l, f y ≤ f x
  | [x], _ => ⟨x, by simp, fun y hy => by simp at hy; subst hy; exact Int.le_refl _⟩
  | x :: z :: l, _ => by
    obtain ⟨m, hm, h⟩ := max_ex (f := f) (l := z :: l) (by simp)
    rcases Int.le_total (f x) (f m) with h1 | h1
    · exact ⟨m, List.mem_cons_of_mem _ hm, fun y hy => by
        rcases List.mem_cons.1 hy with rfl | hy
        · exact h1
        · exact h y hy⟩
    · exact ⟨x, by simp, fun y hy => by
        rcases List.mem_cons.1 hy with rfl | hy
        · exact Int.le_refl _
        · have := h y hy; omega⟩
theorem slowest_at {r : RoutingV} {q : Int} (hv : isRoutingP r ∧ inP q 1 100000) : ∃ (k : Nat) (y : StepV), slowestN r q = (k : Int) ∧ r.steps[k]? = some y ∧ (∀ x ∈ r.steps, stepTimeN x q ≤ stepTimeN y q) ∧ ∀ i < k, ∀ x, r.steps[i]? = some x → stepTimeN x q < stepTimeN y q := by
  unfold slowestN
  rw [ifP_t hv]
  rcases findP_cases (fun x => ∀ y ∈ r.steps, stepTimeN y q ≤ stepTimeN x q) r.steps with ⟨h1, h2⟩ | ⟨k, y, h1, h2, h3, h4⟩
  · obtain ⟨x, hx, h⟩ := max_ex (f := fun x => stepTimeN x q) (l := r.steps) (by have := hv.1.2.2.1; omega)
    exact absurd h (h2 x hx)
  · refine ⟨k, y, h1, h2, h3, fun i hi x hx => ?_⟩
    have h5 := h4 i hi x hx
    rcases Int.lt_or_le (stepTimeN x q) (stepTimeN y q) with h6 | h6
    · exact h6
    · exact absurd (fun z hz => by have := h3 z hz; omega) h5
theorem sum4 {α : Type} {f g h k : α → Int} : ∀ {l : List α}, (∀ x ∈ l, f x + g x = h x + k x) → sumI f l + sumI g l = sumI h l + sumI k l
  | [], _ => by simp [sumI]
  | x :: l, H => by
    have h1 := H x (by simp)
    have h2 := sum4 (f := f) (g := g) (h := h) (k := k) (l := l) fun y hy => H y (by simp [hy])
    rw [sumI_cons, sumI_cons, sumI_cons, sumI_cons]
    omega
theorem step_split {x : StepV} (hx : isStepP x) {q a : Int} (hq : inP q 1 100000) (ha : inP a 1 100000) (hb : inP (q - a) 1 100000) : stepTimeN x a + stepTimeN x (q - a) = stepTimeN x q + x.setup := by
  unfold stepTimeN
  rw [ifP_t ⟨hx, ha⟩, ifP_t ⟨hx, hb⟩, ifP_t ⟨hx, hq⟩]
  have : x.run * (q - a) = x.run * q - x.run * a := Int.mul_sub _ _ _
  omega
theorem setup_sum {r : RoutingV} (h : isRoutingP r) (i : Nat) : 0 ≤ sumI (fun x : StepV => x.setup) (r.steps.take i) ∧ sumI (fun x : StepV => x.setup) (r.steps.take i) ≤ 6000 := by
  have key : ∀ l : List StepV, (∀ x ∈ l, isStepP x) → 0 ≤ sumI (fun x : StepV => x.setup) l ∧ sumI (fun x : StepV => x.setup) l ≤ 1000 * l.length := fun l => by
    induction l with
    | nil => intro _; simp [sumI]
    | cons x l ih =>
      intro hl
      have h1 := ih fun y hy => hl y (by simp [hy])
      have h2 := (hl x (by simp)).2.1
      unfold inP at h2
      rw [sumI_cons, List.length_cons]
      omega
  have := key (r.steps.take i) fun x hx => h.1 x (List.mem_of_mem_take hx)
  have h3 : (r.steps.take i).length ≤ r.steps.length := by simp; omega
  have := h.2.2
  omega
set_option maxHeartbeats 4000000 in
theorem law0_FnMinutes (b : List Int) (hb1 : b.length ≤ 9223372036854775807) (hb2 : ∀ n ∈ b, 0 ≤ n ∧ n ≤ 255) : Contract Try.prog 3 [.d (lD yD b)] (.one (.d (.sc (.bool true)))) := by
  refine contract_byR [200000 + 16] hma hTa Try.func3 (by kernel_rfl) (by kernel_rfl) ?_
  conv => whnf
  refine CallK_tr (c_laws_big b hb1) (fun h => ?_) (fun h => ?_) <;> conv => whnf
  refine DCallK_intro (c_spec_DrawRoutingTime b (by omega) hb2) ?_
  rintro res _ ⟨r, q, hr, hl, hq, hq2, rfl⟩
  conv => whnf
  have e1 : (List.map StepV.dat r.steps).length = r.steps.length := List.length_map _
  refine CallK_intro (c_impl_RoutingTime r hr q hq) ?_
  conv => whnf
  refine CallK_intro (c_impl_SlowestStep r hr q hq) ?_
  by_cases hv : isRoutingP r ∧ inP q 1 100000
  rotate_left
  · have e2 : routingTimeN r q = 0 := by unfold routingTimeN; rw [ifP_f hv]
    have e3 : slowestN r q = -1 := by unfold slowestN; rw [ifP_f hv]
    rw [e2, e3, tr_f hv]
    conv => whnf
    refine brEq (fun _ => ?_) (fun h => absurd rfl h)
    conv => whnf
    exact congrArg (fun b => D.sc (.bool b)) (eqB_iff.2 rfl)
  obtain ⟨k, y, hk, hy, hmax, hlt⟩ := slowest_at hv
  have hkl := get_lt hy
  have hrt := routing_bound hv.1 q
  have hst := setup_sum hv.1
  have hq1 : 1 ≤ q ∧ q ≤ 100000 := hv.2
  have hyok := hr.2.2 y (get_mem hy)
  have hT : routingTimeN r q = sumI (fun x => stepTimeN x q) r.steps := by unfold routingTimeN; rw [ifP_t hv]
  have hstep := fun x (hx : x ∈ r.steps) => c_impl_StepTime x (hr.2.2 x hx) q hq
  have hF : ∀ x ∈ r.steps, tr (isStepP x ∧ inP q 1 100000) = true := fun x hx => tr_t ⟨hv.1.1 x hx, hv.2⟩
  rw [hk, tr_t hv]
  generalize routingTimeN r q = t at hT ⊢
  conv => whnf
  refine brLt (fun h => absurd h (by omega)) (fun _ => ?_)
  conv => whnf
  refine brLe (fun h => absurd h (by omega)) (fun _ => ?_)
  conv => whnf
  refine LoopK_introR [200000 + 16] hma hTa [(3, .key 3), (4, .pl), (5, .pl), (7, .pl), (8, .pl), (9, .pl), (10, .pl)] (fun i : Nat => ⟨[(3, .ae 3 0), (4, .d (iD q)), (5, .d (iD t)), (7, .d (iD (k : Int))), (8, .d (iD (sumI (fun x => stepTimeN x q) (r.steps.take i)))), (9, .d (iD (sumI (fun x : StepV => x.setup) (r.steps.take i)))), (10, .d (iD i))], [(3, some ⟨26, 2, [r.dat]⟩)], []⟩) (fun i => i ≤ r.steps.length) (fun i => r.steps.length - i) (by kernel_rfl) ?_ ?_
  · conv => whnf
    exact ⟨0, by omega, rfl⟩
  · intro i hi
    have hs := hst i
    have hn := hrt i
    conv => whnf
    refine brLt (fun h1 => ?_) (fun h1 => ?_) <;> conv => whnf
    · refine IxK_mapLt _ rfl (by omega) (fun x hx => ?_)
      have hxs := get_mem hx
      have hil := get_lt hx
      have hsb := hv.1.1 x hxs
      have hset : 0 ≤ x.setup ∧ x.setup ≤ 1000 := hsb.2.1
      have hxy := hmax x hxs
      have hxb := stepTime_bound x q
      have hn2 := hrt (i + 1)
      rw [sumI_take hx] at hn2
      conv => whnf
      refine CallK_intro (hstep x hxs) ?_
      rw [hF x hxs]
      conv => whnf
      refine IxK_map k rfl hy ?_
      conv => whnf
      refine CallK_intro (hstep y (get_mem hy)) ?_
      rw [hF y (get_mem hy)]
      conv => whnf
      refine brLt (fun h => absurd h (by omega)) (fun _ => ?_)
      conv => whnf
      refine brLt (fun h2 => ?_) (fun h2 => ?_) <;> conv => whnf
      · refine brEq (fun h3 => absurd h3 (by have := hlt i (by omega) x hx; omega)) (fun _ => ?_)
        conv => whnf
        refine WrK_i64 (by omega) (by omega) ?_
        conv => whnf
        refine IxK_map i rfl hx ?_
        conv => whnf
        refine WrK_i64 (by omega) (by omega) ?_
        conv => whnf
        refine WrK_i64 (by omega) (by omega) ?_
        conv => whnf
        exact ⟨i + 1, hil, Nat.sub_lt_sub_left hil (Nat.lt_succ_self i), by dsimp only; rw [sumI_take hx, sumI_take hx]; rfl⟩
      · refine WrK_i64 (by omega) (by omega) ?_
        conv => whnf
        refine IxK_map i rfl hx ?_
        conv => whnf
        refine WrK_i64 (by omega) (by omega) ?_
        conv => whnf
        refine WrK_i64 (by omega) (by omega) ?_
        conv => whnf
        exact ⟨i + 1, hil, Nat.sub_lt_sub_left hil (Nat.lt_succ_self i), by dsimp only; rw [sumI_take hx, sumI_take hx]; rfl⟩
    · have ei : i = r.steps.length := by omega
      subst ei
      rw [List.take_of_length_le (Nat.le_refl _)] at hs hn
      rw [List.take_of_length_le (Nat.le_refl _)]
      have hqa : 0 ≤ q.tdiv 2 ∧ q.tdiv 2 < q := by rw [Int.tdiv_eq_ediv_of_nonneg (by omega)]; omega
      refine NeedK_intro (by decide) ?_
      generalize q.tdiv 2 = a at hqa ⊢
      have ha : okI a := by unfold okI; omega
      have hb : okI (q - a) := by unfold okI; omega
      refine WrK_i64 (by omega) (by omega) ?_
      conv => whnf
      refine CallK_intro (c_impl_RoutingTime r hr a ha) ?_
      conv => whnf
      refine WrK_i64 (by omega) (by omega) ?_
      conv => whnf
      refine CallK_intro (c_impl_RoutingTime r hr (q - a) hb) ?_
      have hqb : inP (q - a) 1 100000 := by unfold inP; omega
      have hTb : routingTimeN r (q - a) = sumI (fun x => stepTimeN x (q - a)) r.steps := by unfold routingTimeN; rw [ifP_t ⟨hv.1, hqb⟩]
      have hbb := routing_bound hv.1 (q - a) r.steps.length
      rw [List.take_of_length_le (Nat.le_refl _)] at hbb
      rw [hTb]
      rw [← hT] at hn ⊢
      by_cases hva : isRoutingP r ∧ inP a 1 100000
      · have hTa2 : routingTimeN r a = sumI (fun x => stepTimeN x a) r.steps := by unfold routingTimeN; rw [ifP_t hva]
        have hab := routing_bound hv.1 a r.steps.length
        rw [List.take_of_length_le (Nat.le_refl _)] at hab
        have hsum := sum4 (f := fun x => stepTimeN x a) (g := fun x => stepTimeN x (q - a)) (h := fun x => stepTimeN x q) (k := fun x : StepV => x.setup) (l := r.steps) fun x hx => step_split (hv.1.1 x hx) hv.2 hva.2 hqb
        rw [← hT] at hsum
        rw [hTa2, tr_t hva]
        generalize sumI (fun x => stepTimeN x a) r.steps = A at hsum hab ⊢
        generalize sumI (fun x => stepTimeN x (q - a)) r.steps = B at hsum hbb ⊢
        generalize sumI (fun x : StepV => x.setup) r.steps = S at hsum hs ⊢
        conv => whnf
        refine brEq (fun _ => ?_) (fun h => absurd rfl h)
        conv => whnf
        refine WrK_i64 (by omega) (by omega) ?_
        conv => whnf
        refine WrK_i64 (by omega) (by omega) ?_
        conv => whnf
        exact congrArg (fun b => D.sc (.bool b)) (eqB_iff.2 hsum)
      · rw [tr_f hva]
        generalize sumI (fun x => stepTimeN x (q - a)) r.steps = B at hbb ⊢
        generalize routingTimeN r a = A
        conv => whnf
        refine brEq (fun _ => ?_) (fun h => absurd rfl h)
        conv => whnf


theorem bytes_dec {x : D} (h : HasTy (.sl .u8) x) : ∃ b : List Int, x = lD yD b ∧ b.length ≤ 9223372036854775807 ∧ ∀ n ∈ b, 0 ≤ n ∧ n ≤ 255 := by
  obtain ⟨b, e, h1, h2⟩ := sl_dec (f := yD) (ok := fun n => 0 ≤ n ∧ n ≤ 255) (e := .u8) (fun y hy => by cases hy with | u8 n lo hi => exact ⟨n, rfl, lo, hi⟩) h
  exact ⟨b, e, h1, h2⟩
theorem law_FnMinutes : ∀ xs, HasTys [.sl .u8] xs → Contract Try.prog 3 (xs.map .d) (.one (.d (.sc (.bool true)))) := by
  intro xs h
  obtain ⟨d0, r0, rfl, h0, g0⟩ := HasTys_cons h
  cases HasTys_nil g0
  obtain ⟨b, rfl, hb1, hb2⟩ := bytes_dec h0
  exact law0_FnMinutes b hb1 hb2
end Go.DL
namespace Go.Proofs.Ytpobkpenfdibkaa
open Go.ChangeShapes Go.WideShapes Go.ChangeAt Go.RowKit
theorem Try.cpD : Try.checked.prog = Try.prog := by kernel_rfl
theorem Try.ownD : ownKnob Try.checked.prog.godebug = none := by kernel_rfl
theorem Try.laidOutD : laidOutB Try.checked.prog = true := by kernel_rfl
theorem Try.lawD : ∀ xs, DL.HasTys [.sl .u8] xs → DL.Contract Try.checked.prog 3 (xs.map .d) (.one (.d (.sc (.bool true)))) := by rw [Try.cpD]; exact DL.law_FnMinutes
theorem fnMinutes_lifted (os : Os) (started : os.Started) (H : Type) (enc : TypeId × Value → H) :
    ReturnsInHanded {} Try.checked os 3 .any (Rows.fnMinutesSpec.pre6 enc Try.checked.prog Try.f3 Rows.fnMinutesRow.domain false) (Rows.fnMinutesSpec.post enc Try.checked.prog Try.f3 false true false false) := by
  refine returnsInHanded_of_change (C := Try.checked) Try.ownD started (by kernel_rfl) Try.func3
    (ChangeSpec.witness6 (enc := enc) (C := Try.checked) false ⟨#[], #[.slice none 0 0], []⟩ 8 (by kernel_rfl) (by kernel_rfl) (by kernel_rfl) (by kernel_rfl)) ?_
  intro W base args ds gs before hval0 hW0 _ _
  exact DL.law_calls (P := Try.checked.prog) (fn := Try.f3) (s := Rows.fnMinutesSpec) (ts := [22]) (tb := 4) (tys := [.sl .u8]) (by kernel_rfl) (by kernel_rfl) (by kernel_rfl) rfl
    (fun ds h => match ds, h with | [d0], _ => rfl) Try.laidOutD (by kernel_rfl) Try.lawD W base args ds gs before @hval0 hW0
/-- The law returns true, whatever comes in. -/
theorem FnMinutes_holds : Rows.FnMinutesSaid :=
  OpenClaim.holds_of_wide 3 Try.f3 rfl rfl rfl rfl rfl rfl rfl ⟨rfl, rfl, rfl, rfl, rfl⟩ rfl rfl rfl rfl rfl (by kernel_rfl) Try.func3 (by kernel_rfl)
    (of_decide_eq_true (by kernel_rfl)) (by unfold Func.isWrapper; first | (rw [if_pos (by decide +kernel)]; kernel_rfl) | (rw [if_neg (by decide +kernel)]; exact ⟨rfl, rfl⟩))
    (fun os started H enc _ => fnMinutes_lifted os started H enc)
end Go.Proofs.Ytpobkpenfdibkaa
namespace Go.DL

end Go.DL
