/- Contracts of functions of the program, at this seat: what each call returns, by its arguments as data; each states its own conditions. -/
import Derived.Test.YthifncefbpmdiaaS4
import Derived.Test.YthifncefbpmdiaaP4
import Derived.Test.YthifncefbpmdiaaD
namespace Go.DL
set_option maxRecDepth 100000
set_option maxHeartbeats 2000000
set_option linter.unusedSimpArgs false
set_option linter.unusedVariables false
open Go.RowKit Go.Proofs Go.Proofs.Ythifncefbpmdiaa

def demR (r : Res) (xs : List D) : Prop := ∃ (l : List DemandV) (c : CurV), (∀ x ∈ l, x.ok) ∧ l.length ≤ 5 ∧ c.ok ∧ r = .one (.own ⟨28, 5, l.map DemandV.dat⟩) ∧ xs = [c.dat]
set_option maxHeartbeats 4000000 in
theorem c_spec_l13Demands (c : CurV) (hc : c.ok) (first : Int) (hf0 : 0 ≤ first) (hf1 : first ≤ 1000) : LContract Try.prog 72 [.lp, .d (iD first)] (some (curA c)) demR := by
  refine contract_byL [100000 + 86, 100000 + 134, 100000 + 84, 100000 + 135, 200000 + 136, 100000 + 85] hma hTa Try.func72 (by kernel_rfl) (by kernel_rfl) ?_
  conv => whnf
  refine L_Below hc (fun v c1 hc1 hv _ => ?_)
  have hv := hv (by omega)
  obtain ⟨n0, rfl⟩ : ∃ n : Nat, v = (n : Int) := ⟨v.toNat, by omega⟩
  conv => whnf
  refine LoopK_introR [100000 + 86, 100000 + 134, 100000 + 84, 100000 + 135, 200000 + 136, 100000 + 85] hma hTa [(0, .key 100000), (1, .pl), (5, .key 5), (6, .pl)] (fun p : Nat × List DemandV × CurV => ⟨[(0, .ae 100000 0), (1, .d (iD first)), (5, .av 5 p.2.1.length), (6, .d (iD p.1))], [(100000, some (curA p.2.2)), (5, some ⟨28, 5, p.2.1.map DemandV.dat⟩)], []⟩) (fun p => p.2.1.length + p.1 ≤ 5 ∧ (∀ x ∈ p.2.1, DemandV.ok x) ∧ CurV.ok p.2.2) (fun p => p.1) (by kernel_rfl) ?_ ?_
  · conv => whnf
    exact ⟨(n0, [], c1), ⟨by show 0 + n0 ≤ 5; omega, by simp, hc1⟩, rfl⟩
  · rintro ⟨n, l, c2⟩ ⟨hl, hok, hc2⟩
    dsimp only at hl hok hc2
    dsimp only
    conv => whnf
    refine brLt (fun h => ?_) (fun h => ?_) <;> conv => whnf
    · obtain ⟨n, rfl⟩ : ∃ m, n = m + 1 := ⟨n - 1, by omega⟩
      have en : ((n + 1 : Nat) : Int) - 1 = (n : Int) := by omega
      refine WrK_i64 (by omega) (by omega) ?_
      conv => whnf
      refine L_Pick hc2 rfl rfl (fun s c3 hc3 hs => ?_)
      conv => whnf
      refine L_Below hc3 (fun q c4 hc4 hq _ => ?_)
      conv => whnf
      have hq := hq (by omega)
      refine WrK_i64 (by omega) (by omega) ?_
      conv => whnf
      refine L_Below hc4 (fun d c5 hc5 hd _ => ?_)
      conv => whnf
      have hd := hd (by omega)
      refine L_Below hc5 (fun r c6 hc6 hr _ => ?_)
      conv => whnf
      have hr := hr (by omega)
      have hx : DemandV.ok ⟨first + (l.length : Int), s, 1 + q, d, r⟩ := ⟨(show okI (first + (l.length : Int)) by unfold okI; omega), (show okS s by unfold okS; omega), (show okI (1 + q) by unfold okI; omega), (show okI d by unfold okI; omega), (show okI r by unfold okI; omega)⟩
      refine AppK_intro (n := (l ++ [(⟨first + (l.length : Int), s, 1 + q, d, r⟩ : DemandV)]).length) (xs' := (l ++ [(⟨first + (l.length : Int), s, 1 + q, d, r⟩ : DemandV)]).map DemandV.dat) (by simp) (app1 rfl) (by simp; omega) (by simp [DemandV.dat, D.width, Ty.width]) ?_
      conv => whnf
      refine WrK_i64 (by omega) (by omega) ?_
      conv => whnf
      exact ⟨(n, l ++ [(⟨first + (l.length : Int), s, 1 + q, d, r⟩ : DemandV)], c6), ⟨by show (l ++ [_]).length + n ≤ 5; simp; omega, fun y hy => (by rcases List.mem_append.1 hy with h1 | h1; exact hok y h1; simp at h1; subst h1; exact hx), hc6⟩, Nat.lt_succ_self n, by dsimp only; rw [← en]; rfl⟩
    · have e1 : (List.map DemandV.dat l).length = l.length := List.length_map _
      have fin : ∀ (l2 : List DemandV) (c : CurV), (∀ x ∈ l2, x.ok) → l2.length ≤ 5 → c.ok → demR (.one (.own ⟨28, 5, l2.map DemandV.dat⟩)) [c.dat] := fun l2 c h1 h2 h3 => ⟨l2, c, h1, h2, h3, rfl, rfl⟩
      refine L_Once hc2 (fun b c3 hc3 => ?_)
      conv => whnf
      refine brB (fun _ => ?_) (fun _ => ?_) <;> conv => whnf
      rotate_left
      · exact ⟨rfl, rfl, rfl, _, fin l c3 hok (by omega) hc3, rfl, rfl, by simp, rfl⟩
      refine brLt (fun h2 => ?_) (fun h2 => ?_) <;> conv => whnf
      rotate_left
      · exact ⟨rfl, rfl, rfl, _, fin l c3 hok (by omega) hc3, rfl, rfl, by simp, rfl⟩
      refine L_Below hc3 (fun v c4 hc4 hv _ => ?_)
      have hv := hv (by omega)
      obtain ⟨k, rfl⟩ : ∃ n : Nat, v = (n : Int) := ⟨v.toNat, by omega⟩
      have hkl : k < l.length := by omega
      obtain ⟨x, hx⟩ : ∃ x, l[k]? = some x := ⟨l[k], by simp⟩
      obtain ⟨k0, k1, k2, k3, k4⟩ := hok x (get_mem hx)
      have hxk : (List.map DemandV.dat l)[k]? = some x.dat := by simp [hx]
      have st : ∀ y : DemandV, y.ok → ∀ z ∈ l.set k y, z.ok := fun y hy z hz => by
        rcases List.mem_or_eq_of_mem_set hz with h | h
        · exact hok z h
        · rw [h]; exact hy
      have sm : ∀ y : DemandV, (l.set k y).map DemandV.dat = (List.map DemandV.dat l).set k y.dat := fun y => List.map_set ..
      conv => whnf
      refine L_Below hc4 (fun w c5 hc5 hw _ => ?_)
      conv => whnf
      refine brEq (fun _ => ?_) (fun _ => ?_) <;> conv => whnf
      · refine L_Odd hc5 (fun q c6 hc6 hq => ?_)
        conv => whnf
        refine IxA_intro k rfl (by omega) ?_
        conv => whnf
        refine getK_intro hxk ?_
        conv => whnf
        refine setK_intro (xs' := (l.set k { x with quantity := q }).map DemandV.dat) (by omega) (sm _) ?_
        conv => whnf
        exact ⟨rfl, rfl, rfl, _, fin _ c6 (st { x with quantity := q } ⟨k0, k1, hq, k3, k4⟩) (by rw [List.length_set]; omega) hc6, rfl, rfl, by simp, rfl⟩
      refine brEq (fun _ => ?_) (fun _ => ?_) <;> conv => whnf
      · refine DCallK_intro (c_spec_l4Day c5 hc5) ?_
        rintro r _ ⟨q, c6, hq, hc6, rfl, rfl⟩
        conv => whnf
        refine IxA_intro k rfl (by omega) ?_
        conv => whnf
        refine getK_intro hxk ?_
        conv => whnf
        refine setK_intro (xs' := (l.set k { x with day := q }).map DemandV.dat) (by omega) (sm _) ?_
        conv => whnf
        exact ⟨rfl, rfl, rfl, _, fin _ c6 (st { x with day := q } ⟨k0, k1, k2, hq, k4⟩) (by rw [List.length_set]; omega) hc6, rfl, rfl, by simp, rfl⟩
      refine brEq (fun _ => ?_) (fun _ => ?_) <;> conv => whnf
      · obtain ⟨x0, hx0⟩ : ∃ x, l[0]? = some x := ⟨l[0]'(by omega), by simp⟩
        have hx0o := hok x0 (get_mem hx0)
        refine IxA_intro 0 rfl (by omega) ?_
        conv => whnf
        refine getK_intro (y := x0.dat) (by simp [hx0]) ?_
        conv => whnf
        refine IxA_intro k rfl (by omega) ?_
        conv => whnf
        refine getK_intro hxk ?_
        conv => whnf
        refine setK_intro (xs' := (l.set k { x with id := x0.id }).map DemandV.dat) (by omega) (sm _) ?_
        conv => whnf
        exact ⟨rfl, rfl, rfl, _, fin _ c5 (st { x with id := x0.id } ⟨hx0o.1, k1, k2, k3, k4⟩) (by rw [List.length_set]; omega) hc5, rfl, rfl, by simp, rfl⟩
      · refine L_PickInt hc5 rfl rfl (fun q c6 hc6 hq => ?_)
        conv => whnf
        refine IxA_intro k rfl (by omega) ?_
        conv => whnf
        refine getK_intro hxk ?_
        conv => whnf
        refine setK_intro (xs' := (l.set k { x with rank := q }).map DemandV.dat) (by omega) (sm _) ?_
        conv => whnf
        exact ⟨rfl, rfl, rfl, _, fin _ c6 (st { x with rank := q } ⟨k0, k1, k2, k3, hq⟩) (by rw [List.length_set]; omega) hc6, rfl, rfl, by simp, rfl⟩

theorem c_spec_DrawSortDemands (b : List Int) (hb : b.length ≤ 1048576) (hb2 : ∀ x ∈ b, 0 ≤ x ∧ x ≤ 255) : LContract Try.prog 16 [.d (lD yD b)] none (fun r _ => ∃ l : List DemandV, okL DemandV.ok l ∧ l.length ≤ 5 ∧ r = .one (.d (lD DemandV.dat l))) := by
  refine contract_byL [200000 + 73, 200000 + 72] hma hTa Try.func16 (by kernel_rfl) (by kernel_rfl) ?_
  conv => whnf
  refine DCallK_intro (c_spec_l1New b hb hb2) ?_
  rintro r _ ⟨c, hc, rfl⟩
  conv => whnf
  refine DCallK_intro (c_spec_l13Demands c hc 1 (by omega) (by omega)) ?_
  rintro r _ ⟨l, c1, h1, h2, hc1, rfl, rfl⟩
  conv => whnf
  refine ⟨_, ⟨l, ⟨by omega, h1⟩, h2, rfl⟩, ?_⟩
  conv => whnf
  refine takeK_full (by simp) ?_
  conv => whnf
  exact ⟨rfl, rfl, trivial⟩

def consR (r : Res) (_ : List D) : Prop := ∃ (f o : List DemandV) (back ahead : Int), okL DemandV.ok f ∧ f.length ≤ 5 ∧ okL DemandV.ok o ∧ o.length ≤ 5 ∧ okI back ∧ okI ahead ∧ r = .tup (.d (lD DemandV.dat f)) [lD DemandV.dat o, iD back, iD ahead]
theorem c_spec_DrawConsumeForecast (b : List Int) (hb : b.length ≤ 1048576) (hb2 : ∀ x ∈ b, 0 ≤ x ∧ x ≤ 255) : LContract Try.prog 26 [.d (lD yD b)] none consR := by
  refine contract_byL [200000 + 73, 200000 + 72, 100000 + 84, 100000 + 85, 100000 + 86] hma hTa Try.func26 (by kernel_rfl) (by kernel_rfl) ?_
  conv => whnf
  refine DCallK_intro (c_spec_l1New b hb hb2) ?_
  rintro r _ ⟨c, hc, rfl⟩
  conv => whnf
  refine DCallK_intro (c_spec_l13Demands c hc 1 (by omega) (by omega)) ?_
  rintro r _ ⟨f, c1, h1, h2, hc1, rfl, rfl⟩
  conv => whnf
  refine DCallK_intro (c_spec_l13Demands c1 hc1 100 (by omega) (by omega)) ?_
  rintro r _ ⟨o, c2, h3, h4, hc2, rfl, rfl⟩
  conv => whnf
  refine L_Once hc2 (fun b c3 hc3 => ?_)
  conv => whnf
  refine brB (fun _ => ?_) (fun _ => ?_) <;> conv => whnf
  · refine L_PickInt hc3 rfl rfl (fun x c4 hc4 hx => ?_)
    conv => whnf
    refine L_PickInt hc4 rfl rfl (fun y c5 hc5 hy => ?_)
    conv => whnf
    refine ⟨_, ⟨f, o, x, y, ⟨by omega, h1⟩, h2, ⟨by omega, h3⟩, h4, hx, hy, rfl⟩, ?_⟩
    conv => whnf
    refine takeK_full (by simp) ?_
    conv => whnf
    refine ⟨rfl, rfl, ?_⟩
    conv => whnf
    refine takeK_full (by simp) ?_
    conv => whnf
    exact ⟨rfl, rfl, rfl, rfl, rfl, rfl, trivial⟩
  · refine L_Below hc3 (fun x c4 hc4 hx _ => ?_)
    conv => whnf
    refine L_Below hc4 (fun y c5 hc5 hy _ => ?_)
    conv => whnf
    refine ⟨_, ⟨f, o, x, y, ⟨by omega, h1⟩, h2, ⟨by omega, h3⟩, h4, (okI_of (by omega) hx (by omega)).1, (okI_of (by omega) hy (by omega)).1, rfl⟩, ?_⟩
    conv => whnf
    refine takeK_full (by simp) ?_
    conv => whnf
    refine ⟨rfl, rfl, ?_⟩
    conv => whnf
    refine takeK_full (by simp) ?_
    conv => whnf
    exact ⟨rfl, rfl, rfl, rfl, rfl, rfl, trivial⟩

end Go.DL
