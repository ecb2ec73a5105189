/- Contracts of functions of the program, at this seat: what each call returns, by its arguments as data; each states its own conditions. -/
import Derived.Test.YthfagmoaoihhpaaP3
import Derived.Test.YthfagmoaoihhpaaT0
import Derived.Test.YthfagmoaoihhpaaW
namespace Go.DL
set_option maxRecDepth 100000
set_option maxHeartbeats 2000000
set_option linter.unusedSimpArgs false
set_option linter.unusedVariables false
open Go.RowKit Go.Proofs Go.Proofs.Ythfagmoaoihhpaa

/-! Models that are drawn. -/
/-- Cells that are data, lists too. -/
def DatL (xs : List D) : Prop := ∀ d ∈ fl xs, (∃ v, d = .sc v) ∨ ∃ ys, d = .sl ys
theorem DatL.clean {xs : List D} (h : DatL xs) : CleanL xs := fun d hd => by
  rcases h d hd with ⟨v, rfl⟩ | ⟨ys, rfl⟩
  · exact .sc v
  · exact .sl ys
theorem DatL.plain {xs : List D} (h : DatL xs) : plainL xs := fun d hd => by
  rcases h d hd with ⟨v, rfl⟩ | ⟨ys, rfl⟩ <;> rfl
theorem opt_datL (l : List OptV) : DatL (l.map OptV.dat) := fun d hd => by
  obtain ⟨y, hy, hx⟩ := List.mem_flatMap.1 hd
  obtain ⟨z, _, rfl⟩ := List.mem_map.1 hy
  simp only [OptV.dat, D.fl, List.mem_cons, List.not_mem_nil, or_false] at hx
  rcases hx with rfl | rfl
  · exact .inl ⟨_, rfl⟩
  · exact .inr ⟨_, rfl⟩
theorem rule_datL (l : List (List NodeV)) : DatL (l.map (lD NodeV.dat)) := fun d hd => by
  obtain ⟨y, hy, hx⟩ := List.mem_flatMap.1 hd
  obtain ⟨z, _, rfl⟩ := List.mem_map.1 hy
  rw [show (lD NodeV.dat z).fl = [lD NodeV.dat z] from rfl, List.mem_singleton] at hx
  exact .inr ⟨_, hx⟩
theorem opt_erase (l : List OptV) : eraseL (l.map OptV.dat) = l.map OptV.dat := by
  rw [eraseL_map, List.map_map]
  refine List.map_congr_left fun x _ => ?_
  simp [OptV.dat, erase, eraseL, lD]
theorem rule_erase0 (l : List (List NodeV)) : eraseL (l.map (lD NodeV.dat)) = l.map (lD NodeV.dat) := by
  rw [eraseL_map, List.map_map]
  refine List.map_congr_left fun x _ => ?_
  simp [erase, lD]
/-- The box of a model that owns its lists. -/
def mdT (os : List OptV) (rs : List (List NodeV)) : D := .agg [.own 47 2 (os.map OptV.dat), .own 55 1 (rs.map (lD NodeV.dat))]
theorem md_noRef (os : List OptV) (rs : List (List NodeV)) : NoRefL [mdT os rs] := fun d hd => by
  simp only [mdT, fl, List.flatMap_cons, List.flatMap_nil, D.fl, List.append_nil, List.mem_cons, List.not_mem_nil, or_false] at hd
  rcases hd with rfl | rfl
  · exact .own _ _ _ (opt_datL os).clean.noRef
  · exact .own _ _ _ (rule_datL rs).clean.noRef
theorem md_rv {τ : Ab} {a b : D} {os : List OptV} {rs : List (List NodeV)} {u v : List Nat} (ha : RVc τ a (.own 47 2 (os.map OptV.dat)) u) (hb : RVc τ b (.own 55 1 (rs.map (lD NodeV.dat))) v) : RVL τ [.agg [a, b]] [mdT os rs] ((u ++ (v ++ [])) ++ []) :=
  RVL.cons rfl (RVs.cons ha (RVs.cons hb .nil)) (RVL.same fun d hd => by simp [fl] at hd)
theorem md_zero : NoRefL [.agg [.sl [], .sl []]] := fun d hd => by
  simp only [fl, List.flatMap_cons, List.flatMap_nil, D.fl, List.append_nil, List.mem_cons, List.not_mem_nil, or_false] at hd
  rcases hd with rfl | rfl <;> exact .sl _
theorem md_own1 {τ : Ab} (os : List OptV) : RVc τ (.own 47 2 (os.map OptV.dat)) (.own 47 2 (os.map OptV.dat)) [] := .same _ (.own _ _ _ (opt_datL os).clean.noRef)
theorem md_own2 {τ : Ab} (rs : List (List NodeV)) : RVc τ (.own 55 1 (rs.map (lD NodeV.dat))) (.own 55 1 (rs.map (lD NodeV.dat))) [] := .same _ (.own _ _ _ (rule_datL rs).clean.noRef)

def anyK (a : List NodeV × CurV) : Nat := ((a.2.aft 10).below a.1.length).toNat
def anyC (a : List NodeV × CurV) : CurV := (a.2.aft 10).aft a.1.length
def anyX (a : List NodeV × CurV) : NodeV := a.1.getD (anyK a) ⟨0, ⟨#[]⟩, ⟨#[]⟩⟩
def anyS (a : List NodeV × CurV) : List NodeV × CurV := if eqB (a.2.below 10) 0 = true then (a.1.set (anyK a) ⟨(anyC a).below 7 - 1, (anyX a).option, (anyX a).value⟩, (anyC a).aft 7) else (a.1, a.2.aft 10)
def anyR (c : CurV) : List NodeV × CurV := anyS (drawN 3 c)
theorem anyR_ok {c : CurV} (hc : c.ok) : (anyR c).2.ok ∧ (anyR c).1.length ≤ 256 ∧ ∀ x ∈ (anyR c).1, NodeV.ok x := by
  obtain ⟨h1, h2, h3, h4⟩ := drawN_ok 3 hc
  unfold anyR
  generalize drawN 3 c = a at h1 h2 h3 h4
  have k1 := CurV.aft_ok h1 10
  have k2 : (anyC a).ok := CurV.aft_ok k1 _
  have hk : anyK a < a.1.length := (a.2.aft 10).at_lt h3
  have hx : (anyX a).ok := by
    unfold anyX
    rw [List.getD_eq_getElem?_getD, List.getElem?_eq_getElem hk]
    exact h4 _ (List.getElem_mem hk)
  unfold anyS
  split
  · refine ⟨CurV.aft_ok k2 _, by simpa using h2, fun x hx2 => ?_⟩
    have hb := (anyC a).below_bound (n := 7) (by decide)
    rcases List.mem_or_eq_of_mem_set hx2 with h5 | h5
    · exact h4 x h5
    · rw [h5]; exact ⟨by show okI ((anyC a).below 7 - 1); unfold okI; omega, hx.2.1, hx.2.2⟩
  · exact ⟨k1, h2, h4⟩
set_option maxHeartbeats 4000000 in
theorem c_spec_l6Any (c : CurV) (hc : c.ok) : LContract Try.prog 39 [.lp] (some (curA c)) (fun r xs => r = .one (.own ⟨70, 3, (anyR c).1.map NodeV.dat⟩) ∧ xs = [(anyR c).2.dat]) := by
  refine contract_byL [100000 + 38, 100000 + 40, 100000 + 37] hma hTa Try.func39 (by kernel_rfl) (by kernel_rfl) ?_
  obtain ⟨h1, h2, h3, h4⟩ := drawN_ok 3 hc
  conv => whnf
  refine LCallK_intro (c_spec_l6Draw 3 3 rfl c hc (by omega)) ?_
  unfold anyR
  generalize drawN 3 c = a at h1 h2 h3 h4 ⊢
  have e1 : (List.map NodeV.dat a.1).length = a.1.length := List.length_map _
  have k1 := CurV.aft_ok h1 10
  have k2 : (anyC a).ok := CurV.aft_ok k1 _
  have hk : anyK a < a.1.length := (a.2.aft 10).at_lt h3
  have hb := (a.2.aft 10).below_bound (n := a.1.length) (by omega)
  have hx : a.1[anyK a]? = some (anyX a) := by unfold anyX; rw [List.getD_eq_getElem?_getD, List.getElem?_eq_getElem hk]; rfl
  have hR : ∀ r, anyS a = r → (eqB (a.2.below 10) 0 = true → r = (a.1.set (anyK a) ⟨(anyC a).below 7 - 1, (anyX a).option, (anyX a).value⟩, (anyC a).aft 7)) ∧ (eqB (a.2.below 10) 0 = false → r = (a.1, a.2.aft 10)) := fun r h => by
    subst h; unfold anyS; exact ⟨fun h => if_pos h, fun h => if_neg (by rw [h]; decide)⟩
  generalize anyS a = r at hR ⊢
  conv => whnf
  refine LCallK_intro (c_spec_l1Once _ h1 10) ?_
  conv => whnf
  refine brB (fun h => ?_) (fun h => ?_) <;> conv => whnf
  · rw [e1]
    refine LCallK_intro (c_spec_l1Below _ k1 a.1.length) ?_
    conv => whnf
    refine LCallK_intro (c_spec_l1Below (anyC a) k2 7) ?_
    have hb7 := (anyC a).below_bound (n := 7) (by decide)
    conv => whnf
    refine WrK_i64 (by omega) (by omega) ?_
    conv => whnf
    refine IxA_intro (anyK a) (by unfold anyK; omega) hk ?_
    conv => whnf
    refine getK_intro (y := (anyX a).dat) (by rw [List.getElem?_map, hx]; rfl) ?_
    conv => whnf
    refine setK_intro (xs' := (a.1.set (anyK a) ⟨(anyC a).below 7 - 1, (anyX a).option, (anyX a).value⟩).map NodeV.dat) (by rw [e1]; exact hk) (by rw [List.map_set]; rfl) ?_
    conv => whnf
    rw [(hR r rfl).1 h]
    exact ⟨rfl, rfl, rfl, _, ⟨rfl, rfl⟩, rfl, rfl, by simp, rfl⟩
  · rw [(hR r rfl).2 h]
    exact ⟨rfl, rfl, rfl, _, ⟨rfl, rfl⟩, rfl, rfl, by simp, rfl⟩

def N3 : List ByteArray := [⟨#[67, 79, 76, 79, 82]⟩, ⟨#[83, 73, 90, 69]⟩, ⟨#[76, 73, 68]⟩]
def V3 : List ByteArray := [⟨#[88]⟩, ⟨#[89]⟩, ⟨#[90]⟩]
def modR (r : Res) (xs : List D) : Prop := ∃ (m : ModelV) (c : CurV), m.ok ∧ m.options.length ≤ 4 ∧ (∀ o ∈ m.options, o.values.length ≤ 3) ∧ c.ok ∧ r = .one (.d m.dat) ∧ xs = [c.dat]
def optB (o : OptV) : Prop := o.ok ∧ o.values.length ≤ 3
theorem n3_at {i : Nat} (h : i < 3) : ∃ s, (N3.map sD)[i]? = some (sD s) ∧ okS s := by
  refine ⟨N3[i]'h, by rw [List.getElem?_map, List.getElem?_eq_getElem h]; rfl, ?_⟩
  have : ∀ s ∈ N3, ByteArray.size s ≤ 1000 := by decide
  have := this _ (List.getElem_mem h)
  unfold okS; omega
theorem v3_ok (h : Nat) : okL okS (V3.take h) ∧ (V3.take h).length ≤ 3 := by
  have hl : (V3.take h).length ≤ 3 := by rw [List.length_take]; exact Nat.min_le_right _ _
  refine ⟨⟨by omega, fun s hs => ?_⟩, hl⟩
  have h1 : ∀ s ∈ V3, ByteArray.size s ≤ 1000 := by decide
  have := h1 s (List.mem_of_mem_take hs)
  unfold okS; omega
def W3 : List ByteArray := [⟨#[88]⟩, ⟨#[]⟩, ⟨#[81]⟩]
theorem set_self {α : Type} {l : List α} {i : Nat} {x : α} (h : l[i]? = some x) : l.set i x = l := by
  apply List.ext_getElem?
  intro j
  rw [List.getElem?_set]
  by_cases e : i = j
  · subst e; rw [if_pos rfl, h]; simp [get_lt h]
  · rw [if_neg e]
set_option maxHeartbeats 8000000 in
theorem c_spec_l7Model (c : CurV) (hc : c.ok) : LContract Try.prog 26 [.lp] (some (curA c)) modR := by
  refine contract_byL [5, 9, 12, 14, 16, 20, 12000000, 1100013, 400000 + 27, 500000 + 27, 700000 + 24, 700000 + 25, 100000 + 37, 100000 + 38, 100000 + 39, 100000 + 28] hma hTa Try.func26 (by kernel_rfl) (by kernel_rfl) ?_
  conv => whnf
  refine LoopK_introR [5, 9, 12, 14, 16, 20, 12000000, 1100013, 400000 + 27, 500000 + 27, 700000 + 24, 700000 + 25, 100000 + 37, 100000 + 38, 100000 + 39, 100000 + 28] hma hTa [(0, .key 100000), (2, .tree 2), (3, .tree 3), (4, .pl)] (fun p : Nat × List OptV × CurV => ⟨[(0, .ae 100000 0), (2, .fe 2 0), (1000002, .fa ⟨27, 2, [.agg [.sl [], .sl []]]⟩), (3, .fe 3 0), (1000003, .fa ⟨27, 2, [mdT p.2.1 []]⟩), (4, .d (iD p.1))], [(100000, some (curA p.2.2)), (2, none), (3, none)], []⟩) (fun p => p.2.1.length = p.1 ∧ p.1 ≤ 3 ∧ (∀ o ∈ p.2.1, optB o) ∧ CurV.ok p.2.2) (fun p => 10 - p.1) (by kernel_rfl) ?_ ?_
  · conv => whnf
    refine ResK_same md_zero ?_
    conv => whnf
    refine ResK_intro (U := []) (xs' := [mdT [] []]) (md_rv (u := []) (v := []) (.nilo _ _ (by decide)) (.nilo _ _ (by decide))) List.nodup_nil (by simp) ?_
    conv => whnf
    refine NoRefK_intro md_zero ?_
    conv => whnf
    refine NoRefK_intro (md_noRef [] []) ?_
    conv => whnf
    exact ⟨(0, [], c), ⟨rfl, by show 0 ≤ 3; omega, by simp, hc⟩, rfl⟩
  rintro ⟨i, os, c1⟩ ⟨hl, hi, hok, hc1⟩
  dsimp only at hl hi hok hc1
  dsimp only
  conv => whnf
  refine L_Below hc1 (fun v c2 hc2 hv _ => ?_)
  have hv := hv (by omega)
  conv => whnf
  refine WrK_i64 (by omega) (by omega) ?_
  conv => whnf
  refine brLt (fun h => ?_) (fun h => ?_) <;> conv => whnf
  · obtain ⟨s, hs1, hs2⟩ := n3_at (i := i) (by omega)
    refine NeedK_intro (opt_datL os).plain ?_
    conv => whnf
    refine IxA_intro i rfl (by omega) ?_
    conv => whnf
    refine getK_intro hs1 ?_
    conv => whnf
    refine LCallK_intro (c_spec_l1Below c2 hc2 3) ?_
    have hb := c2.below_bound (n := 3) (by decide)
    have hc3 := CurV.aft_ok hc2 3
    generalize c2.below 3 = w at hb ⊢
    generalize c2.aft 3 = c3 at hc3 ⊢
    conv => whnf
    refine WrK_i64 (by omega) (by omega) ?_
    conv => whnf
    refine SlA_intro (1 + w).toNat (by simp; omega) (by omega) ?_
    conv => whnf
    refine takeK_intro (xs' := (V3.take (1 + w).toNat).map sD) (by rw [List.map_take]; rfl) ?_
    have hv3 := v3_ok (1 + w).toNat
    generalize V3.take (1 + w).toNat = vs at hv3 ⊢
    conv => whnf
    refine AppK_intro (n := (os ++ [(⟨s, vs⟩ : OptV)]).length) (xs' := (os ++ [(⟨s, vs⟩ : OptV)]).map OptV.dat) (by simp) (app1 (by simp)) (by simp; omega) (by simp [OptV.dat, D.width, Ty.width]) ?_
    conv => whnf
    refine NeedK_intro (by simp) ?_
    conv => whnf
    refine KeysK_intro (by kernel_rfl) ?_
    conv => whnf
    refine WrK_i64 (by omega) (by omega) ?_
    conv => whnf
    refine ResK_same md_zero ?_
    conv => whnf
    refine ResK_intro (U := [28]) (xs' := [mdT (os ++ [(⟨s, vs⟩ : OptV)]) []]) (md_rv (u := [28]) (v := []) (.refc 28 _ ⟨47, 2, (os ++ [(⟨s, vs⟩ : OptV)]).map OptV.dat⟩ rfl rfl) (md_own2 [])) (by simp) (by simp) ?_
    conv => whnf
    refine NoRefK_intro md_zero ?_
    conv => whnf
    refine NoRefK_intro (md_noRef _ []) ?_
    conv => whnf
    exact ⟨(i + 1, os ++ [(⟨s, vs⟩ : OptV)], c3), ⟨by simp [hl], by show i + 1 ≤ 3; omega, fun y hy => (by rcases List.mem_append.1 hy with h1 | h1; exact hok y h1; simp at h1; subst h1; exact ⟨⟨hs2, hv3.1⟩, hv3.2⟩), hc3⟩, (by show 10 - (i + 1) < 10 - i; omega), rfl⟩
  have hos1 : 1 ≤ os.length := by omega
  have hos3 : os.length ≤ 3 := by omega
  refine L_Below hc2 (fun nr c3 hc3 hnr _ => ?_)
  have hnr := hnr (by omega)
  conv => whnf
  refine LoopK_introR [5, 9, 12, 14, 16, 20, 12000000, 1100013, 400000 + 27, 500000 + 27, 700000 + 24, 700000 + 25, 100000 + 37, 100000 + 38, 100000 + 39, 100000 + 28] hma hTa [(0, .key 100000), (2, .tree 2), (3, .tree 3), (5, .pl)] (fun p : Nat × List (List NodeV) × CurV => ⟨[(0, .ae 100000 0), (2, .fe 2 0), (1000002, .fa ⟨27, 2, [.agg [.sl [], .sl []]]⟩), (3, .fe 3 0), (1000003, .fa ⟨27, 2, [mdT os p.2.1]⟩), (5, .d (iD (nr - (p.1 : Int))))], [(100000, some (curA p.2.2)), (2, none), (3, none)], []⟩) (fun p => p.2.1.length = p.1 ∧ (p.1 : Int) ≤ nr ∧ (∀ r ∈ p.2.1, okL NodeV.ok r) ∧ CurV.ok p.2.2) (fun p => 10 - p.1) (by kernel_rfl) ?_ ?_
  · conv => whnf
    refine ResK_same md_zero ?_
    conv => whnf
    refine ResK_same (md_noRef os []) ?_
    conv => whnf
    refine NoRefK_intro md_zero ?_
    conv => whnf
    refine NoRefK_intro (md_noRef os []) ?_
    conv => whnf
    refine ⟨(0, [], c3), ⟨rfl, by show ((0 : Nat) : Int) ≤ nr; omega, by simp, hc3⟩, ?_⟩
    dsimp only
    rw [show nr - ((0 : Nat) : Int) = nr by omega]
    rfl
  rintro ⟨j, rs, c4⟩ ⟨hrl, hj, hrok, hc4⟩
  dsimp only at hrl hj hrok hc4
  dsimp only
  conv => whnf
  refine brLt (fun h5 => ?_) (fun h5 => ?_) <;> conv => whnf
  · refine NeedK_intro (rule_datL rs).plain ?_
    conv => whnf
    obtain ⟨d1, d2, d3, d4⟩ := drawN_ok 2 hc4
    refine LCallK_intro (c_spec_l6Draw 2 2 rfl c4 hc4 (by omega)) ?_
    generalize drawN 2 c4 = q at d1 d2 d3 d4 ⊢
    conv => whnf
    refine takeK_full rfl ?_
    conv => whnf
    refine AppK_intro (n := (rs ++ [q.1]).length) (xs' := (rs ++ [q.1]).map (lD NodeV.dat)) (by simp) (app1 (by simp)) (by simp; omega) (by simp [D.width, Ty.width]) ?_
    conv => whnf
    refine NeedK_intro (by simp) ?_
    conv => whnf
    refine KeysK_intro (by kernel_rfl) ?_
    conv => whnf
    refine WrK_i64 (by omega) (by omega) ?_
    conv => whnf
    refine ResK_same md_zero ?_
    conv => whnf
    refine ResK_intro (U := [41]) (xs' := [mdT os (rs ++ [q.1])]) (md_rv (u := []) (v := [41]) (md_own1 os) (.refc 41 _ ⟨55, 1, (rs ++ [q.1]).map (lD NodeV.dat)⟩ rfl rfl)) (by simp) (by simp) ?_
    conv => whnf
    refine NoRefK_intro md_zero ?_
    conv => whnf
    refine NoRefK_intro (md_noRef os _) ?_
    conv => whnf
    refine ⟨(j + 1, rs ++ [q.1], q.2), ⟨by simp [hrl], by show ((j + 1 : Nat) : Int) ≤ nr; omega, fun y hy => (by rcases List.mem_append.1 hy with h1 | h1; exact hrok y h1; simp at h1; subst h1; exact ⟨by omega, d4⟩), d1⟩, (by show 10 - (j + 1) < 10 - j; omega), ?_⟩
    dsimp only
    rw [show nr - ((j + 1 : Nat) : Int) = nr - (j : Int) - 1 by omega]
    rfl
  refine L_Below hc4 (fun k c5 hc5 _ _ => ?_)
  have hrs3 : rs.length ≤ 3 := by omega
  conv => whnf
  refine brEq (fun h6 => ?_) (fun h6 => ?_) <;> conv => whnf
  · refine NeedK_intro (rule_datL rs).plain ?_
    conv => whnf
    obtain ⟨d1, d2, d3⟩ := anyR_ok hc5
    refine LCallK_intro (c_spec_l6Any c5 hc5) ?_
    generalize anyR c5 = q at d1 d2 d3 ⊢
    conv => whnf
    refine takeK_full rfl ?_
    conv => whnf
    refine AppK_intro (n := (rs ++ [q.1]).length) (xs' := (rs ++ [q.1]).map (lD NodeV.dat)) (by simp) (app1 (by simp)) (by simp; omega) (by simp [D.width, Ty.width]) ?_
    conv => whnf
    refine NeedK_intro (by simp) ?_
    conv => whnf
    refine KeysK_intro (by kernel_rfl) ?_
    conv => whnf
    have ho := hok
    have hoL : os.length ≤ 4 := by omega
    have hr : ∀ r ∈ rs ++ [q.1], okL NodeV.ok r := fun y hy => by
      rcases List.mem_append.1 hy with h1 | h1
      · exact hrok y h1
      · rw [List.mem_singleton.1 h1]; exact ⟨by omega, d3⟩
    have hrL : (rs ++ [q.1]).length ≤ 4 := by simp; omega
    have hcF := d1
    generalize rs ++ [q.1] = rsF at hr hrL ⊢
    generalize q.2 = cF at hcF ⊢
    generalize os = osF at ho hoL ⊢
    refine LoopK_introR [5, 9, 12, 14, 16, 20, 12000000, 1100013, 400000 + 27, 500000 + 27, 700000 + 24, 700000 + 25, 100000 + 37, 100000 + 38, 100000 + 39, 100000 + 28] hma hTa [(0, .key 100000), (2, .tree 2), (3, .tree 3), (6, .pl)] (fun i : Nat => ⟨[(0, .ae 100000 0), (2, .fe 2 0), (1000002, .fa ⟨27, 2, [.agg [.sl [], .sl []]]⟩), (3, .fe 3 0), (1000003, .fa ⟨27, 2, [mdT osF rsF]⟩), (6, .d (iD i))], [(100000, some (curA cF)), (2, none), (3, none)], []⟩) (fun i => i ≤ osF.length) (fun i => osF.length - i) (by kernel_rfl) ?_ ?_
    · conv => whnf
      refine ResK_same md_zero ?_
      conv => whnf
      refine ResK_intro (U := [52]) (xs' := [mdT osF rsF]) (md_rv (u := []) (v := [52]) (md_own1 osF) (.refc 52 _ ⟨55, 1, rsF.map (lD NodeV.dat)⟩ rfl rfl)) (by simp) (by simp) ?_
      conv => whnf
      refine NoRefK_intro md_zero ?_
      conv => whnf
      refine NoRefK_intro (md_noRef osF rsF) ?_
      conv => whnf
      exact ⟨0, by omega, rfl⟩
    intro t ht
    have e1 : (List.map OptV.dat osF).length = osF.length := List.length_map _
    conv => whnf
    refine NeedK_intro (opt_datL osF).plain ?_
    conv => whnf
    refine brLt (fun h8 => ?_) (fun h8 => ?_) <;> conv => whnf
    · have htl : t < osF.length := by omega
      obtain ⟨o, hoA⟩ : ∃ o, osF[t]? = some o := ⟨osF[t], by simp⟩
      have hoB := ho o (get_mem hoA)
      have hoD : (List.map OptV.dat osF)[t]? = some o.dat := by rw [List.getElem?_map, hoA]; rfl
      refine IxA_intro t rfl (by omega) ?_
      conv => whnf
      refine getK_intro hoD ?_
      conv => whnf
      have hoV := hoB.2
      refine AppK_intro (n := o.values.length) (xs' := o.values.map sD) (by simp) (by simp) (by omega) (by simp [D.width, Ty.width]) ?_
      conv => whnf
      refine IxA_intro t rfl (by omega) ?_
      conv => whnf
      refine takeK_full (by simp) ?_
      conv => whnf
      refine getK_intro hoD ?_
      conv => whnf
      refine setK_intro (xs' := osF.map OptV.dat) (by rw [e1]; exact htl) (set_self hoD).symm ?_
      conv => whnf
      refine KeysK_intro (by kernel_rfl) ?_
      conv => whnf
      refine WrK_i64 (by omega) (by omega) ?_
      conv => whnf
      refine ResK_same md_zero ?_
      conv => whnf
      refine ResK_intro (U := [77]) (xs' := [mdT osF rsF]) (md_rv (u := [77]) (v := []) (.refc 77 _ ⟨47, 2, osF.map OptV.dat⟩ rfl rfl) (md_own2 rsF)) (by simp) (by simp) ?_
      conv => whnf
      refine NoRefK_intro md_zero ?_
      conv => whnf
      refine NoRefK_intro (md_noRef osF rsF) ?_
      conv => whnf
      exact ⟨t + 1, htl, Nat.sub_lt_sub_left htl (Nat.lt_succ_self t), rfl⟩
    · refine NeedK_intro (rule_datL rsF).clean.noRef ?_
      conv => whnf
      refine ⟨rfl, rfl, rfl, _, ⟨⟨osF, rsF⟩, cF, ⟨⟨by show osF.length ≤ _; omega, fun o h => (ho o h).1⟩, ⟨by show rsF.length ≤ _; omega, hr⟩⟩, hoL, fun o h => (ho o h).2, hcF, rfl, rfl⟩, ?_⟩
      conv => whnf
      refine NeedK_intro rfl ?_
      conv => whnf
      refine NeedK_intro rfl ?_
      conv => whnf
      refine ErK_intro (rsF.map (lD NodeV.dat)) (rule_datL rsF).clean (rule_erase0 rsF) ?_
      conv => whnf
      exact rfl
  refine WkK_out 3 3 290000 0 rfl rfl rfl rfl (opt_datL os).plain rfl (by omega) ?_
  conv => whnf
  refine brEq (fun h7 => ?_) (fun h7 => ?_) <;> conv => whnf
  · obtain ⟨o0, ho0⟩ : ∃ o, os[0]? = some o := ⟨os[0], by simp⟩
    have hoD : (List.map OptV.dat os)[0]? = some o0.dat := by rw [List.getElem?_map, ho0]; rfl
    refine IxA_intro 0 rfl (by rw [List.length_map]; omega) ?_
    conv => whnf
    refine getK_intro hoD ?_
    conv => whnf
    refine AppK_intro (n := (os ++ [o0]).length) (xs' := (os ++ [o0]).map OptV.dat) (by simp) (app1 (by simp)) (by simp; omega) (by simp [OptV.dat, D.width, Ty.width]) ?_
    conv => whnf
    refine NeedK_intro (by simp) ?_
    conv => whnf
    refine KeysK_intro (by kernel_rfl) ?_
    conv => whnf
    have ho : ∀ o ∈ os ++ [o0], optB o := fun y hy => by
      rcases List.mem_append.1 hy with h1 | h1
      · exact hok y h1
      · rw [List.mem_singleton.1 h1]; exact hok o0 (get_mem ho0)
    have hoL : (os ++ [o0]).length ≤ 4 := by simp; omega
    have hr := hrok
    have hrL : rs.length ≤ 4 := by omega
    have hcF := hc5
    generalize os ++ [o0] = osF at ho hoL ⊢
    generalize rs = rsF at hr hrL ⊢
    generalize c5 = cF at hcF ⊢
    refine LoopK_introR [5, 9, 12, 14, 16, 20, 12000000, 1100013, 400000 + 27, 500000 + 27, 700000 + 24, 700000 + 25, 100000 + 37, 100000 + 38, 100000 + 39, 100000 + 28] hma hTa [(0, .key 100000), (2, .tree 2), (3, .tree 3), (6, .pl)] (fun i : Nat => ⟨[(0, .ae 100000 0), (2, .fe 2 0), (1000002, .fa ⟨27, 2, [.agg [.sl [], .sl []]]⟩), (3, .fe 3 0), (1000003, .fa ⟨27, 2, [mdT osF rsF]⟩), (6, .d (iD i))], [(100000, some (curA cF)), (2, none), (3, none)], []⟩) (fun i => i ≤ osF.length) (fun i => osF.length - i) (by kernel_rfl) ?_ ?_
    · conv => whnf
      refine ResK_same md_zero ?_
      conv => whnf
      refine ResK_intro (U := [63]) (xs' := [mdT osF rsF]) (md_rv (u := [63]) (v := []) (.refc 63 _ ⟨47, 2, osF.map OptV.dat⟩ rfl rfl) (md_own2 rsF)) (by simp) (by simp) ?_
      conv => whnf
      refine NoRefK_intro md_zero ?_
      conv => whnf
      refine NoRefK_intro (md_noRef osF rsF) ?_
      conv => whnf
      exact ⟨0, by omega, rfl⟩
    intro t ht
    have e1 : (List.map OptV.dat osF).length = osF.length := List.length_map _
    conv => whnf
    refine NeedK_intro (opt_datL osF).plain ?_
    conv => whnf
    refine brLt (fun h8 => ?_) (fun h8 => ?_) <;> conv => whnf
    · have htl : t < osF.length := by omega
      obtain ⟨o, hoA⟩ : ∃ o, osF[t]? = some o := ⟨osF[t], by simp⟩
      have hoB := ho o (get_mem hoA)
      have hoD : (List.map OptV.dat osF)[t]? = some o.dat := by rw [List.getElem?_map, hoA]; rfl
      refine IxA_intro t rfl (by omega) ?_
      conv => whnf
      refine getK_intro hoD ?_
      conv => whnf
      have hoV := hoB.2
      refine AppK_intro (n := o.values.length) (xs' := o.values.map sD) (by simp) (by simp) (by omega) (by simp [D.width, Ty.width]) ?_
      conv => whnf
      refine IxA_intro t rfl (by omega) ?_
      conv => whnf
      refine takeK_full (by simp) ?_
      conv => whnf
      refine getK_intro hoD ?_
      conv => whnf
      refine setK_intro (xs' := osF.map OptV.dat) (by rw [e1]; exact htl) (set_self hoD).symm ?_
      conv => whnf
      refine KeysK_intro (by kernel_rfl) ?_
      conv => whnf
      refine WrK_i64 (by omega) (by omega) ?_
      conv => whnf
      refine ResK_same md_zero ?_
      conv => whnf
      refine ResK_intro (U := [77]) (xs' := [mdT osF rsF]) (md_rv (u := [77]) (v := []) (.refc 77 _ ⟨47, 2, osF.map OptV.dat⟩ rfl rfl) (md_own2 rsF)) (by simp) (by simp) ?_
      conv => whnf
      refine NoRefK_intro md_zero ?_
      conv => whnf
      refine NoRefK_intro (md_noRef osF rsF) ?_
      conv => whnf
      exact ⟨t + 1, htl, Nat.sub_lt_sub_left htl (Nat.lt_succ_self t), rfl⟩
    · refine NeedK_intro (rule_datL rsF).clean.noRef ?_
      conv => whnf
      refine ⟨rfl, rfl, rfl, _, ⟨⟨osF, rsF⟩, cF, ⟨⟨by show osF.length ≤ _; omega, fun o h => (ho o h).1⟩, ⟨by show rsF.length ≤ _; omega, hr⟩⟩, hoL, fun o h => (ho o h).2, hcF, rfl, rfl⟩, ?_⟩
      conv => whnf
      refine NeedK_intro rfl ?_
      conv => whnf
      refine NeedK_intro rfl ?_
      conv => whnf
      refine ErK_intro (rsF.map (lD NodeV.dat)) (rule_datL rsF).clean (rule_erase0 rsF) ?_
      conv => whnf
      exact rfl
  refine brEq (fun h9 => ?_) (fun h9 => ?_) <;> conv => whnf
  · obtain ⟨o0, ho0⟩ : ∃ o, os[0]? = some o := ⟨os[0], by simp⟩
    have hoD : (List.map OptV.dat os)[0]? = some o0.dat := by rw [List.getElem?_map, ho0]; rfl
    have hpk : okS (c5.pick W3) := by
      have h1 : ∀ s ∈ W3, ByteArray.size s ≤ 1000 := by decide
      have := h1 _ (c5.pick_mem (l := W3) (by decide))
      unfold okS; omega
    refine LCallK_intro (c_spec_l1Pick c5 hc5 W3 (by decide) (by decide)) ?_
    have hc6 := CurV.aft_ok hc5 W3.length
    generalize c5.pick W3 = s at hpk ⊢
    generalize c5.aft W3.length = c6 at hc6 ⊢
    conv => whnf
    refine IxA_intro 0 rfl (by rw [List.length_map]; omega) ?_
    conv => whnf
    refine getK_intro hoD ?_
    conv => whnf
    refine setK_intro (xs' := (os.set 0 ⟨o0.name, [⟨#[88]⟩, s]⟩).map OptV.dat) (by rw [List.length_map]; omega) (by rw [List.map_set]; rfl) ?_
    conv => whnf
    refine KeysK_intro (by kernel_rfl) ?_
    conv => whnf
    have hlS : (os.set 0 (⟨o0.name, [⟨#[88]⟩, s]⟩ : OptV)).length = os.length := List.length_set ..
    have ho : ∀ o ∈ os.set 0 (⟨o0.name, [⟨#[88]⟩, s]⟩ : OptV), optB o := fun y hy => by
      rcases List.mem_or_eq_of_mem_set hy with h1 | h1
      · exact hok y h1
      · rw [h1]
        refine ⟨⟨(hok o0 (get_mem ho0)).1.1, by simp, fun x hx => ?_⟩, by simp⟩
        simp only [List.mem_cons, List.not_mem_nil, or_false] at hx
        rcases hx with rfl | rfl
        · unfold okS; decide
        · exact hpk
    have hoL : (os.set 0 (⟨o0.name, [⟨#[88]⟩, s]⟩ : OptV)).length ≤ 4 := by omega
    have hr := hrok
    have hrL : rs.length ≤ 4 := by omega
    have hcF := hc6
    generalize os.set 0 (⟨o0.name, [⟨#[88]⟩, s]⟩ : OptV) = osF at ho hoL ⊢
    generalize rs = rsF at hr hrL ⊢
    generalize c6 = cF at hcF ⊢
    refine LoopK_introR [5, 9, 12, 14, 16, 20, 12000000, 1100013, 400000 + 27, 500000 + 27, 700000 + 24, 700000 + 25, 100000 + 37, 100000 + 38, 100000 + 39, 100000 + 28] hma hTa [(0, .key 100000), (2, .tree 2), (3, .tree 3), (6, .pl)] (fun i : Nat => ⟨[(0, .ae 100000 0), (2, .fe 2 0), (1000002, .fa ⟨27, 2, [.agg [.sl [], .sl []]]⟩), (3, .fe 3 0), (1000003, .fa ⟨27, 2, [mdT osF rsF]⟩), (6, .d (iD i))], [(100000, some (curA cF)), (2, none), (3, none)], []⟩) (fun i => i ≤ osF.length) (fun i => osF.length - i) (by kernel_rfl) ?_ ?_
    · conv => whnf
      refine ResK_same md_zero ?_
      conv => whnf
      refine ResK_intro (U := [290000]) (xs' := [mdT osF rsF]) (md_rv (u := [290000]) (v := []) (.refc 290000 _ ⟨47, 2, osF.map OptV.dat⟩ rfl rfl) (md_own2 rsF)) (by simp) (by simp) ?_
      conv => whnf
      refine NoRefK_intro md_zero ?_
      conv => whnf
      refine NoRefK_intro (md_noRef osF rsF) ?_
      conv => whnf
      exact ⟨0, by omega, rfl⟩
    intro t ht
    have e1 : (List.map OptV.dat osF).length = osF.length := List.length_map _
    conv => whnf
    refine NeedK_intro (opt_datL osF).plain ?_
    conv => whnf
    refine brLt (fun h8 => ?_) (fun h8 => ?_) <;> conv => whnf
    · have htl : t < osF.length := by omega
      obtain ⟨o, hoA⟩ : ∃ o, osF[t]? = some o := ⟨osF[t], by simp⟩
      have hoB := ho o (get_mem hoA)
      have hoD : (List.map OptV.dat osF)[t]? = some o.dat := by rw [List.getElem?_map, hoA]; rfl
      refine IxA_intro t rfl (by omega) ?_
      conv => whnf
      refine getK_intro hoD ?_
      conv => whnf
      have hoV := hoB.2
      refine AppK_intro (n := o.values.length) (xs' := o.values.map sD) (by simp) (by simp) (by omega) (by simp [D.width, Ty.width]) ?_
      conv => whnf
      refine IxA_intro t rfl (by omega) ?_
      conv => whnf
      refine takeK_full (by simp) ?_
      conv => whnf
      refine getK_intro hoD ?_
      conv => whnf
      refine setK_intro (xs' := osF.map OptV.dat) (by rw [e1]; exact htl) (set_self hoD).symm ?_
      conv => whnf
      refine KeysK_intro (by kernel_rfl) ?_
      conv => whnf
      refine WrK_i64 (by omega) (by omega) ?_
      conv => whnf
      refine ResK_same md_zero ?_
      conv => whnf
      refine ResK_intro (U := [77]) (xs' := [mdT osF rsF]) (md_rv (u := [77]) (v := []) (.refc 77 _ ⟨47, 2, osF.map OptV.dat⟩ rfl rfl) (md_own2 rsF)) (by simp) (by simp) ?_
      conv => whnf
      refine NoRefK_intro md_zero ?_
      conv => whnf
      refine NoRefK_intro (md_noRef osF rsF) ?_
      conv => whnf
      exact ⟨t + 1, htl, Nat.sub_lt_sub_left htl (Nat.lt_succ_self t), rfl⟩
    · refine NeedK_intro (rule_datL rsF).clean.noRef ?_
      conv => whnf
      refine ⟨rfl, rfl, rfl, _, ⟨⟨osF, rsF⟩, cF, ⟨⟨by show osF.length ≤ _; omega, fun o h => (ho o h).1⟩, ⟨by show rsF.length ≤ _; omega, hr⟩⟩, hoL, fun o h => (ho o h).2, hcF, rfl, rfl⟩, ?_⟩
      conv => whnf
      refine NeedK_intro rfl ?_
      conv => whnf
      refine NeedK_intro rfl ?_
      conv => whnf
      refine ErK_intro (rsF.map (lD NodeV.dat)) (rule_datL rsF).clean (rule_erase0 rsF) ?_
      conv => whnf
      exact rfl
  · have ho := hok
    have hoL : os.length ≤ 4 := by omega
    have hr := hrok
    have hrL : rs.length ≤ 4 := by omega
    have hcF := hc5
    generalize os = osF at ho hoL ⊢
    generalize rs = rsF at hr hrL ⊢
    generalize c5 = cF at hcF ⊢
    refine LoopK_introR [5, 9, 12, 14, 16, 20, 12000000, 1100013, 400000 + 27, 500000 + 27, 700000 + 24, 700000 + 25, 100000 + 37, 100000 + 38, 100000 + 39, 100000 + 28] hma hTa [(0, .key 100000), (2, .tree 2), (3, .tree 3), (6, .pl)] (fun i : Nat => ⟨[(0, .ae 100000 0), (2, .fe 2 0), (1000002, .fa ⟨27, 2, [.agg [.sl [], .sl []]]⟩), (3, .fe 3 0), (1000003, .fa ⟨27, 2, [mdT osF rsF]⟩), (6, .d (iD i))], [(100000, some (curA cF)), (2, none), (3, none)], []⟩) (fun i => i ≤ osF.length) (fun i => osF.length - i) (by kernel_rfl) ?_ ?_
    · conv => whnf
      refine ResK_same md_zero ?_
      conv => whnf
      refine ResK_intro (U := [290000]) (xs' := [mdT osF rsF]) (md_rv (u := [290000]) (v := []) (.refc 290000 _ ⟨47, 2, osF.map OptV.dat⟩ rfl rfl) (md_own2 rsF)) (by simp) (by simp) ?_
      conv => whnf
      refine NoRefK_intro md_zero ?_
      conv => whnf
      refine NoRefK_intro (md_noRef osF rsF) ?_
      conv => whnf
      exact ⟨0, by omega, rfl⟩
    intro t ht
    have e1 : (List.map OptV.dat osF).length = osF.length := List.length_map _
    conv => whnf
    refine NeedK_intro (opt_datL osF).plain ?_
    conv => whnf
    refine brLt (fun h8 => ?_) (fun h8 => ?_) <;> conv => whnf
    · have htl : t < osF.length := by omega
      obtain ⟨o, hoA⟩ : ∃ o, osF[t]? = some o := ⟨osF[t], by simp⟩
      have hoB := ho o (get_mem hoA)
      have hoD : (List.map OptV.dat osF)[t]? = some o.dat := by rw [List.getElem?_map, hoA]; rfl
      refine IxA_intro t rfl (by omega) ?_
      conv => whnf
      refine getK_intro hoD ?_
      conv => whnf
      have hoV := hoB.2
      refine AppK_intro (n := o.values.length) (xs' := o.values.map sD) (by simp) (by simp) (by omega) (by simp [D.width, Ty.width]) ?_
      conv => whnf
      refine IxA_intro t rfl (by omega) ?_
      conv => whnf
      refine takeK_full (by simp) ?_
      conv => whnf
      refine getK_intro hoD ?_
      conv => whnf
      refine setK_intro (xs' := osF.map OptV.dat) (by rw [e1]; exact htl) (set_self hoD).symm ?_
      conv => whnf
      refine KeysK_intro (by kernel_rfl) ?_
      conv => whnf
      refine WrK_i64 (by omega) (by omega) ?_
      conv => whnf
      refine ResK_same md_zero ?_
      conv => whnf
      refine ResK_intro (U := [77]) (xs' := [mdT osF rsF]) (md_rv (u := [77]) (v := []) (.refc 77 _ ⟨47, 2, osF.map OptV.dat⟩ rfl rfl) (md_own2 rsF)) (by simp) (by simp) ?_
      conv => whnf
      refine NoRefK_intro md_zero ?_
      conv => whnf
      refine NoRefK_intro (md_noRef osF rsF) ?_
      conv => whnf
      exact ⟨t + 1, htl, Nat.sub_lt_sub_left htl (Nat.lt_succ_self t), rfl⟩
    · refine NeedK_intro (rule_datL rsF).clean.noRef ?_
      conv => whnf
      refine ⟨rfl, rfl, rfl, _, ⟨⟨osF, rsF⟩, cF, ⟨⟨by show osF.length ≤ _; omega, fun o h => (ho o h).1⟩, ⟨by show rsF.length ≤ _; omega, hr⟩⟩, hoL, fun o h => (ho o h).2, hcF, rfl, rfl⟩, ?_⟩
      conv => whnf
      refine NeedK_intro rfl ?_
      conv => whnf
      refine NeedK_intro rfl ?_
      conv => whnf
      refine ErK_intro (rsF.map (lD NodeV.dat)) (rule_datL rsF).clean (rule_erase0 rsF) ?_
      conv => whnf
      exact rfl

end Go.DL
