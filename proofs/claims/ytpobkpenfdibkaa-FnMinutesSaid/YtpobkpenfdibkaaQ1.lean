/- Contracts of functions of the program, at this seat: what each call returns, by its arguments as data; each states its own conditions. -/
import Derived.Test.YtpobkpenfdibkaaP6
namespace Go.DL
set_option maxRecDepth 100000
set_option maxHeartbeats 2000000
set_option linter.unusedSimpArgs false
set_option linter.unusedVariables false
open Go.RowKit Go.Proofs Go.Proofs.Ytpobkpenfdibkaa

theorem pureD_clean {d : D} (h : PureD d) : Clean d := by
  induction h with
  | sc v => exact .sc v
  | nil => exact .sl []
  | own e sz xs h ih => exact .own e sz xs ih
theorem PureL.clean {xs : List D} (h : PureL xs) : CleanL xs := fun d hd => pureD_clean (h d hd)
theorem pureL_map {α : Type} {f : α → D} (h : ∀ x, ∀ d ∈ (f x).fl, PureD d) (l : List α) : PureL (l.map f) := fun d hd => by
  obtain ⟨x, hx, hd⟩ := List.mem_flatMap.1 hd
  obtain ⟨y, _, rfl⟩ := List.mem_map.1 hx
  exact h y d hd
theorem pureL_append {a b : List D} (h : PureL a) (k : PureL b) : PureL (a ++ b) := fun d hd => by
  rw [fl_append] at hd
  exact (List.mem_append.1 hd).elim (h d) (k d)
theorem pureL_cons {x : D} {b : List D} (h : ∀ d ∈ x.fl, PureD d) (k : PureL b) : PureL (x :: b) := fun d hd => by
  rw [fl_cons] at hd
  exact (List.mem_append.1 hd).elim (h d) (k d)
theorem pureL_nil : PureL [] := fun d hd => by simp [fl] at hd
theorem pureL_rep {z : D} (n : Nat) (h : ∀ d ∈ z.fl, PureD d) : PureL (List.replicate n z) := fun d hd => by
  obtain ⟨x, hx, hd⟩ := List.mem_flatMap.1 hd
  rw [(List.mem_replicate.1 hx).2] at hd
  exact h d hd
theorem erase_flat {x : D} (h : FlatD x) : erase x = x := by
  cases x with
  | sc v => simp [erase]
  | agg fs =>
    have : eraseL fs = fs := by
      rw [eraseL_map]
      conv => rhs; rw [← List.map_id fs]
      refine List.map_congr_left fun f hf => ?_
      obtain ⟨v, rfl⟩ := h f hf
      simp [erase]
    simp [erase, this]
  | sl xs => exact h.elim
  | ref k m => exact h.elim
  | own e sz xs => exact h.elim
  | jk => exact h.elim
theorem eraseL_flat {xs : List D} (h : FlatL xs) : eraseL xs = xs := by
  rw [eraseL_map]
  conv => rhs; rw [← List.map_id xs]
  exact List.map_congr_left fun x hx => erase_flat (h x hx)
theorem eraseL_mapTo {α : Type} {f g : α → D} (h : ∀ x, erase (f x) = g x) (l : List α) : eraseL (l.map f) = l.map g := by
  rw [eraseL_map, List.map_map]
  exact List.map_congr_left fun x _ => h x
theorem flatL_map {α : Type} {f : α → D} (h : ∀ x, FlatD (f x)) (l : List α) : FlatL (l.map f) := fun d hd => by
  obtain ⟨y, _, rfl⟩ := List.mem_map.1 hd
  exact h y
theorem Contract.own_fr {P : Program} {f : FuncId} {as' : List A1} {A : Arr} (h : Contract P f as' (.one (.own A))) (hf : FlatL A.xs) : Contract P f as' (.one (.fr A)) := by
  refine ⟨h.ent, fun w M vs h1 h2 h3 => (h.run w M vs h1 h2 h3).mono fun e w' ⟨v, M', a, b, c, d, g, hp, cs, ho, hc, _⟩ => ⟨v, M', a, b, c, d, g, hp, cs, ho, hf.cells hc⟩⟩
theorem RVs.one {τ : Ab} {d d' : D} {u : List Nat} (h : RVc τ d d' u) : RVs τ [d] [d'] u := by
  have := RVs.cons h .nil
  simpa using this
theorem flat_plain {xs : List D} (h : FlatL xs) : plainL xs := fun d hd => by
  have := h.pure d hd
  cases this with
  | sc v => rfl
  | nil => rfl
  | own e sz ys h2 =>
    obtain ⟨x, hx, hd⟩ := List.mem_flatMap.1 hd
    have hf := h x hx
    cases x with
    | sc v => rw [List.mem_singleton.1 hd]; rfl
    | agg fs => obtain ⟨v, e⟩ := hf _ hd; cases e
    | sl ys => exact hf.elim
    | ref k m => exact hf.elim
    | own e z ys => exact hf.elim
    | jk => exact hf.elim

/-! Routings that are drawn. -/
def L5 : List ByteArray := [⟨#[]⟩, ⟨#[112]⟩, ⟨#[49, 65]⟩, ⟨#[84, 79, 79, 45, 76, 79, 78, 71, 45]⟩, ⟨#[65, 32, 66]⟩]
def L6 : List ByteArray := [⟨#[65]⟩, ⟨#[66]⟩, ⟨#[67]⟩, ⟨#[68]⟩, ⟨#[69]⟩, ⟨#[70]⟩]
def codeR (c : CurV) : ByteArray × CurV := if eqB (c.below 25) 0 = true then ((c.aft 25).pick L5, (c.aft 25).aft 5) else ((c.aft 25).pick L6, (c.aft 25).aft 6)
theorem pick_ok {c : CurV} {l : List ByteArray} (h : 0 < l.length) (hs : ∀ s ∈ l, s.size ≤ 1000) : okS (c.pick l) := by have := hs _ (c.pick_mem h); unfold okS; omega
theorem codeR_ok {c : CurV} (hc : c.ok) : okS (codeR c).1 ∧ (codeR c).2.ok := by
  unfold codeR
  split
  · exact ⟨pick_ok (by decide) (by decide), CurV.aft_ok (CurV.aft_ok hc _) _⟩
  · exact ⟨pick_ok (by decide) (by decide), CurV.aft_ok (CurV.aft_ok hc _) _⟩
theorem c_spec_l1CodeF (c : CurV) (hc : c.ok) : LContract Try.prog 146 [.lp] (some (curA c)) (fun r xs => r = .one (.d (sD (codeR c).1)) ∧ xs = [(codeR c).2.dat]) := by
  refine contract_byL [100000 + 72, 100000 + 145] hma hTa Try.func146 (by kernel_rfl) (by kernel_rfl) ?_
  have h1 := CurV.aft_ok hc 25
  have hR : ∀ r, codeR c = r → (eqB (c.below 25) 0 = true → r = ((c.aft 25).pick L5, (c.aft 25).aft 5)) ∧ (eqB (c.below 25) 0 = false → r = ((c.aft 25).pick L6, (c.aft 25).aft 6)) := fun r h => by
    subst h; unfold codeR; exact ⟨fun h => if_pos h, fun h => if_neg (by rw [h]; decide)⟩
  generalize codeR c = r at hR ⊢
  conv => whnf
  refine LCallK_intro (c_spec_l1Once c hc 25) ?_
  conv => whnf
  refine brB (fun h => ?_) (fun h => ?_) <;> conv => whnf
  · refine LCallK_intro (c_spec_l1Pick _ h1 L5 (by decide) (by decide)) ?_
    conv => whnf
    rw [(hR r rfl).1 h]
    exact ⟨rfl, rfl, rfl, _, ⟨rfl, rfl⟩, rfl, rfl, trivial⟩
  · refine LCallK_intro (c_spec_l1Pick _ h1 L6 (by decide) (by decide)) ?_
    conv => whnf
    rw [(hR r rfl).2 h]
    exact ⟨rfl, rfl, rfl, _, ⟨rfl, rfl⟩, rfl, rfl, trivial⟩

def SM : List ByteArray := [⟨#[83, 65, 87]⟩, ⟨#[77, 73, 76, 76]⟩, ⟨#[80, 65, 73, 78, 84]⟩]
def NI : List Int := [-1, 1000, 1001]
def st3 (c : CurV) : CurV := ((c.aft 3).aft 40).aft 12
theorem st3_ok {c : CurV} (hc : c.ok) : (st3 c).ok := CurV.aft_ok (CurV.aft_ok (CurV.aft_ok hc _) _) _
def stepR (c : CurV) : StepV × CurV :=
  if eqB ((st3 c).below 24) 0 = true then (⟨c.pick SM, ((st3 c).aft 24).pickI NI, ((c.aft 3).aft 40).below 12⟩, ((st3 c).aft 24).aft 3)
  else if eqB ((st3 c).below 24) 1 = true then (⟨c.pick SM, (c.aft 3).below 40, ((st3 c).aft 24).pickI NI⟩, ((st3 c).aft 24).aft 3)
  else if eqB ((st3 c).below 24) 2 = true then (⟨(codeR ((st3 c).aft 24)).1, (c.aft 3).below 40, ((c.aft 3).aft 40).below 12⟩, (codeR ((st3 c).aft 24)).2)
  else (⟨c.pick SM, (c.aft 3).below 40, ((c.aft 3).aft 40).below 12⟩, (st3 c).aft 24)
theorem below_okI {c : CurV} {n : Int} (h0 : 0 < n) (h1 : n ≤ 1000) : okI (c.below n) := by have := c.below_bound h0; unfold okI; omega
theorem pickI_NI (c : CurV) : okI (c.pickI NI) := by
  have h : ∀ x ∈ NI, okI x := fun x hx => by
    simp only [NI, List.mem_cons, List.not_mem_nil, or_false] at hx
    unfold okI; omega
  exact h _ (c.pickI_mem (l := NI) (by decide))
theorem stepR_ok {c : CurV} (hc : c.ok) : (stepR c).1.ok ∧ (stepR c).2.ok := by
  have h4 := CurV.aft_ok (st3_ok hc) 24
  have hp : okS (c.pick SM) := pick_ok (by decide) (by decide)
  have hs : okI ((c.aft 3).below 40) := below_okI (by decide) (by decide)
  have hr : okI (((c.aft 3).aft 40).below 12) := below_okI (by decide) (by decide)
  have hk := codeR_ok h4
  unfold stepR
  split
  · exact ⟨⟨hp, pickI_NI _, hr⟩, CurV.aft_ok h4 _⟩
  · split
    · exact ⟨⟨hp, hs, pickI_NI _⟩, CurV.aft_ok h4 _⟩
    · split
      · exact ⟨⟨hk.1, hs, hr⟩, hk.2⟩
      · exact ⟨⟨hp, hs, hr⟩, h4⟩
set_option maxHeartbeats 4000000 in
theorem c_spec_l12Step (c : CurV) (hc : c.ok) : LContract Try.prog 137 [.lp] (some (curA c)) (fun r xs => r = .one (.d (stepR c).1.dat) ∧ xs = [(stepR c).2.dat]) := by
  refine contract_byL [100000 + 145, 100000 + 121, 100000 + 120, 100000 + 146] hma hTa Try.func137 (by kernel_rfl) (by kernel_rfl) ?_
  have k1 := CurV.aft_ok hc 3
  have k2 := CurV.aft_ok k1 40
  have k3 := st3_ok hc
  have k4 := CurV.aft_ok k3 24
  have hR : ∀ r, stepR c = r → (eqB ((st3 c).below 24) 0 = true → r = (⟨c.pick SM, ((st3 c).aft 24).pickI NI, ((c.aft 3).aft 40).below 12⟩, ((st3 c).aft 24).aft 3))
      ∧ (eqB ((st3 c).below 24) 0 = false → eqB ((st3 c).below 24) 1 = true → r = (⟨c.pick SM, (c.aft 3).below 40, ((st3 c).aft 24).pickI NI⟩, ((st3 c).aft 24).aft 3))
      ∧ (eqB ((st3 c).below 24) 0 = false → eqB ((st3 c).below 24) 1 = false → eqB ((st3 c).below 24) 2 = true → r = (⟨(codeR ((st3 c).aft 24)).1, (c.aft 3).below 40, ((c.aft 3).aft 40).below 12⟩, (codeR ((st3 c).aft 24)).2))
      ∧ (eqB ((st3 c).below 24) 0 = false → eqB ((st3 c).below 24) 1 = false → eqB ((st3 c).below 24) 2 = false → r = (⟨c.pick SM, (c.aft 3).below 40, ((c.aft 3).aft 40).below 12⟩, (st3 c).aft 24)) := fun r h => by
    subst h
    unfold stepR
    refine ⟨fun h1 => if_pos h1, fun h1 h2 => ?_, fun h1 h2 h3 => ?_, fun h1 h2 h3 => ?_⟩ <;> simp only [h1, h2, Bool.false_eq_true, if_false, if_true] <;> simp only [h3, Bool.false_eq_true, if_false, if_true]
  generalize stepR c = r at hR ⊢
  conv => whnf
  refine LCallK_intro (c_spec_l1Pick c hc SM (by decide) (by decide)) ?_
  conv => whnf
  refine LCallK_intro (c_spec_l1Below _ k1 40) ?_
  conv => whnf
  refine LCallK_intro (c_spec_l1Below _ k2 12) ?_
  conv => whnf
  refine LCallK_intro (c_spec_l1Below (st3 c) k3 24) ?_
  conv => whnf
  refine brB (fun h0 => ?_) (fun h0 => ?_) <;> conv => whnf
  · refine LCallK_intro (c_spec_l1PickInt _ k4 NI (by decide) (by decide)) ?_
    conv => whnf
    rw [(hR r rfl).1 h0]
    exact ⟨rfl, rfl, rfl, _, ⟨rfl, rfl⟩, rfl, rfl, trivial⟩
  refine brB (fun h1 => ?_) (fun h1 => ?_) <;> conv => whnf
  · refine LCallK_intro (c_spec_l1PickInt _ k4 NI (by decide) (by decide)) ?_
    conv => whnf
    rw [(hR r rfl).2.1 h0 h1]
    exact ⟨rfl, rfl, rfl, _, ⟨rfl, rfl⟩, rfl, rfl, trivial⟩
  refine brB (fun h2 => ?_) (fun h2 => ?_) <;> conv => whnf
  · refine LCallK_intro (c_spec_l1CodeF _ k4) ?_
    conv => whnf
    rw [(hR r rfl).2.2.1 h0 h1 h2]
    exact ⟨rfl, rfl, rfl, _, ⟨rfl, rfl⟩, rfl, rfl, trivial⟩
  · rw [(hR r rfl).2.2.2 h0 h1 h2]
    exact ⟨rfl, rfl, rfl, _, ⟨rfl, rfl⟩, rfl, rfl, trivial⟩

def rtR (r : Res) (xs : List D) : Prop := ∃ (v : RoutingV) (c : CurV), v.ok ∧ v.steps.length ≤ 7 ∧ c.ok ∧ r = .one (.d v.dat) ∧ xs = [c.dat]
def stL (l : List StepV) : List D := l.map StepV.dat
theorem step_plain (l : List StepV) : plainL (l.map StepV.dat) := fun d hd => by
  obtain ⟨y, hy, hx⟩ := List.mem_flatMap.1 hd
  obtain ⟨z, _, rfl⟩ := List.mem_map.1 hy
  simp only [StepV.dat, D.fl, List.mem_cons, List.not_mem_nil, or_false] at hx
  rcases hx with rfl | rfl | rfl <;> rfl
theorem step_flatD (x : StepV) : FlatD x.dat := by
  intro f hf
  simp at hf
  rcases hf with rfl | rfl | rfl <;> exact ⟨_, rfl⟩
theorem step_flatL (l : List StepV) : FlatL (l.map StepV.dat) := fun d hd => by
  obtain ⟨y, _, rfl⟩ := List.mem_map.1 hd
  exact step_flatD y
theorem step_pure (l : List StepV) : PureL (l.map StepV.dat) := (step_flatL l).pure
theorem rv5 {τ : Ab} {item : ByteArray} : RVL τ [.agg [sD item, .sc (.slice none 0 0)]] [.agg [sD item, .own 34 3 []]] [] :=
  RVL.cons (u := []) (us := []) rfl (RVs.cons (u := []) (us := []) (.same _ (.sc _)) (RVs.cons (u := []) (us := []) (.nilo _ _ (by decide)) .nil)) (RVL.same fun d hd => by simp [fl] at hd)
theorem rv6 {τ : Ab} {item : ByteArray} {k m : Nat} {xs : List D} (hk : τ.c k = some ⟨34, 3, xs⟩) (hsh : τ.sh k = false) : RVL τ [.agg [sD item, .ref k m]] [.agg [sD item, .own 34 3 xs]] [k] :=
  RVL.cons (u := [k]) (us := []) rfl (RVs.cons (u := []) (us := [k]) (.same _ (.sc _)) (RVs.cons (u := [k]) (us := []) (.refc k m _ hk hsh) .nil)) (RVL.same fun d hd => by simp [fl] at hd)
theorem noref4 : NoRefL [.agg [sD ⟨#[]⟩, .sl []]] := fun d hd => by
  simp only [fl, List.flatMap_cons, List.flatMap_nil, D.fl, List.append_nil, List.mem_cons, List.not_mem_nil, or_false] at hd
  rcases hd with rfl | rfl
  · exact .sc _
  · exact .sl _
theorem noref5 {item : ByteArray} (l : List StepV) : NoRefL [.agg [sD item, .own 34 3 (l.map StepV.dat)]] := fun d hd => by
  simp only [fl, List.flatMap_cons, List.flatMap_nil, D.fl, List.append_nil, List.mem_cons, List.not_mem_nil, or_false] at hd
  rcases hd with rfl | rfl
  · exact .sc _
  · refine .own _ _ _ fun x hx => ?_
    obtain ⟨y, hy, hx⟩ := List.mem_flatMap.1 hx
    obtain ⟨z, _, rfl⟩ := List.mem_map.1 hy
    simp only [StepV.dat, D.fl, List.mem_cons, List.not_mem_nil, or_false] at hx
    rcases hx with rfl | rfl | rfl <;> exact .sc _
set_option maxHeartbeats 4000000 in
theorem c_spec_l12Routing (c : CurV) (hc : c.ok) (item : ByteArray) (hi : okS item) : LContract Try.prog 115 [.lp, .d (sD item)] (some (curA c)) rtR := by
  refine contract_byL [8, 12000000, 400000 + 26, 500000 + 26, 700000 + 24, 100000 + 121, 100000 + 72, 100000 + 120, 100000 + 137] hma hTa Try.func115 (by kernel_rfl) (by kernel_rfl) ?_
  conv => whnf
  refine L_Below hc (fun v c1 hc1 hv _ => ?_)
  have hv := hv (by omega)
  conv => whnf
  refine WrK_i64 (by omega) (by omega) ?_
  conv => whnf
  refine L_Once hc1 (fun b c2 hc2 => ?_)
  conv => whnf
  refine brB (fun _ => ?_) (fun _ => ?_) <;> conv => whnf
  all_goals first
    | (refine LCallK_intro (c_spec_l1PickInt _ hc2 [0, 6, 7] (by decide) (by decide)) ?_
       have hm : c2.pickI [0, 6, 7] ≤ 7 := by
         have := c2.pickI_mem (l := [0, 6, 7]) (by decide)
         simp only [List.mem_cons, List.not_mem_nil, or_false] at this
         omega
       have hc3 := CurV.aft_ok hc2 ([0, 6, 7] : List Int).length
       generalize c2.pickI [0, 6, 7] = n at hm ⊢
       generalize c2.aft ([0, 6, 7] : List Int).length = c3 at hc3 ⊢
       conv => whnf)
    | (have hm : 1 + v ≤ 7 := by omega
       have hc3 := hc2
       generalize 1 + v = n at hm ⊢
       generalize c2 = c3 at hc3 ⊢)
  all_goals
    refine LoopK_introR [8, 12000000, 400000 + 26, 500000 + 26, 700000 + 24, 100000 + 121, 100000 + 72, 100000 + 120, 100000 + 137] hma hTa [(0, .key 100000), (4, .tree 4), (5, .tree 5), (6, .pl), (7, .pl)] (fun p : Nat × List StepV × CurV => ⟨[(0, .ae 100000 0), (4, .fe 4 0), (1000004, .fa ⟨26, 2, [.agg [sD ⟨#[]⟩, .sl []]]⟩), (5, .fe 5 0), (1000005, .fa ⟨26, 2, [.agg [sD item, .own 34 3 (p.2.1.map StepV.dat)]]⟩), (6, .d (iD n)), (7, .d (iD p.1))], [(100000, some (curA p.2.2)), (4, none), (5, none)], []⟩) (fun p => p.2.1.length = p.1 ∧ p.1 ≤ 7 ∧ (∀ x ∈ p.2.1, StepV.ok x) ∧ CurV.ok p.2.2) (fun p => 10 - p.1) (by kernel_rfl) ?_ ?_
    · conv => whnf
      refine ResK_same noref4 ?_
      conv => whnf
      refine ResK_intro (U := []) (xs' := [.agg [sD item, .own 34 3 []]]) rv5 List.nodup_nil (by simp) ?_
      conv => whnf
      refine NoRefK_intro noref4 ?_
      conv => whnf
      refine NoRefK_intro (noref5 []) ?_
      conv => whnf
      exact ⟨(0, [], c3), ⟨rfl, by show 0 ≤ 7; omega, by simp, hc3⟩, rfl⟩
    · rintro ⟨i, l, c4⟩ ⟨hl, hi, hok, hc4⟩
      dsimp only at hl hi hok hc4
      dsimp only
      conv => whnf
      refine brLt (fun h => ?_) (fun h => ?_) <;> conv => whnf
      · have hx := stepR_ok hc4
        refine NeedK_intro (step_plain _) ?_
        conv => whnf
        refine LCallK_intro (c_spec_l12Step c4 hc4) ?_
        generalize stepR c4 = q at hx ⊢
        conv => whnf
        refine AppK_intro (n := (l ++ [q.1]).length) (xs' := (l ++ [q.1]).map StepV.dat) (by simp) (app1 (by simp)) (by simp; omega) (by simp [StepV.dat, D.width, Ty.width]) ?_
        conv => whnf
        refine NeedK_intro (by simp) ?_
        conv => whnf
        refine KeysK_intro (by kernel_rfl) ?_
        conv => whnf
        refine WrK_i64 (by omega) (by omega) ?_
        conv => whnf
        refine ResK_same noref4 ?_
        conv => whnf
        refine ResK_intro (U := [28]) (xs' := [.agg [sD item, .own 34 3 ((l ++ [q.1]).map StepV.dat)]]) (rv6 rfl rfl) (by simp) (by simp) ?_
        conv => whnf
        refine NoRefK_intro noref4 ?_
        conv => whnf
        refine NoRefK_intro (noref5 _) ?_
        conv => whnf
        exact ⟨(i + 1, l ++ [q.1], q.2), ⟨by simp [hl], by show i + 1 ≤ 7; omega, fun y hy => (by rcases List.mem_append.1 hy with h1 | h1; exact hok y h1; simp at h1; subst h1; exact hx.1), hx.2⟩, (by show 10 - (i + 1) < 10 - i; omega), rfl⟩
      · refine NeedK_intro (step_pure l).noRef ?_
        conv => whnf
        refine ⟨rfl, rfl, rfl, _, ⟨⟨item, l⟩, c4, ⟨‹okS item›, by show l.length ≤ _; omega, hok⟩, by show l.length ≤ 7; omega, hc4, rfl, rfl⟩, ?_⟩
        conv => whnf
        refine NeedK_intro rfl ?_
        conv => whnf
        refine ErK_intro (l.map StepV.dat) (step_pure l).clean (eraseL_flat (step_flatL l)) ?_
        conv => whnf
        exact rfl

def twoR (r : Res) (_ : List D) : Prop := ∃ (v : RoutingV) (q : Int), v.ok ∧ v.steps.length ≤ 7 ∧ okI q ∧ q ≤ 100001 ∧ r = .tup (.d v.dat) [iD q]
theorem c_spec_l12Two (b : List Int) (hb : b.length ≤ 1048576) (hb2 : ∀ x ∈ b, 0 ≤ x ∧ x ≤ 255) : LContract Try.prog 64 [.d (lD yD b)] none twoR := by
  refine contract_byL [200000 + 70, 200000 + 115, 200000 + 116] hma hTa Try.func64 (by kernel_rfl) (by kernel_rfl) ?_
  have okA : okS ⟨#[65]⟩ := by unfold okS; decide
  conv => whnf
  refine DCallK_intro (c_spec_l1New b hb hb2) ?_
  rintro r _ ⟨c, hc, rfl⟩
  conv => whnf
  refine DCallK_intro (c_spec_l12Routing c hc _ okA) ?_
  rintro r _ ⟨v, c1, hv, hl, hc1, rfl, rfl⟩
  conv => whnf
  refine DCallK_intro (c_spec_l10Quantity c1 hc1) ?_
  rintro r _ ⟨q, c2, hq, hq2, hc2, rfl, rfl⟩
  conv => whnf
  exact ⟨_, ⟨v, q, hv, hl, hq, hq2, rfl⟩, rfl, rfl, rfl, rfl, trivial⟩

theorem c_spec_DrawRoutingTime (b : List Int) (hb : b.length ≤ 1048576) (hb2 : ∀ x ∈ b, 0 ≤ x ∧ x ≤ 255) : LContract Try.prog 16 [.d (lD yD b)] none twoR := by
  refine contract_byL [200000 + 64] hma hTa Try.func16 (by kernel_rfl) (by kernel_rfl) ?_
  conv => whnf
  refine DCallK_intro (c_spec_l12Two b hb hb2) ?_
  rintro r _ ⟨v, q, hv, hl, hq, hq2, rfl⟩
  conv => whnf
  exact ⟨_, ⟨v, q, hv, hl, hq, hq2, rfl⟩, rfl, rfl, rfl, rfl, trivial⟩

theorem c_spec_DrawFlowTime (b : List Int) (hb : b.length ≤ 1048576) (hb2 : ∀ x ∈ b, 0 ≤ x ∧ x ≤ 255) : LContract Try.prog 20 [.d (lD yD b)] none twoR := by
  refine contract_byL [200000 + 64] hma hTa Try.func20 (by kernel_rfl) (by kernel_rfl) ?_
  conv => whnf
  refine DCallK_intro (c_spec_l12Two b hb hb2) ?_
  rintro r _ ⟨v, q, hv, hl, hq, hq2, rfl⟩
  conv => whnf
  exact ⟨_, ⟨v, q, hv, hl, hq, hq2, rfl⟩, rfl, rfl, rfl, rfl, trivial⟩

end Go.DL
