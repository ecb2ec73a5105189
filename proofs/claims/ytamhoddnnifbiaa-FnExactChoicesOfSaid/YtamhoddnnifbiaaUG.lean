/- Contracts of functions of the program, at this seat: what each call returns, by its arguments as data; each states its own conditions. -/
import Derived.Test.YtamhoddnnifbiaaXA
import Derived.Test.YtamhoddnnifbiaaV
namespace Go.DL
set_option maxRecDepth 100000
set_option maxHeartbeats 2000000
set_option linter.unusedSimpArgs false
set_option linter.unusedVariables false
open Go.RowKit Go.Proofs Go.Proofs.Ytamhoddnnifbiaa

def mkRowP (r : List PickV) (k : Int) : List PickV := mkPickL k r.length
def mkRowW (r : List PickV) : Int := 2 * (r.length : Int)
theorem rowW_bnd (r : List PickV) : 0 ≤ mkRowW r ∧ mkRowW r ≤ 5 * (1 + wtL PickV.wt r : Nat) := by
  have h : r.length ≤ wtL PickV.wt r := wtL_len
  unfold mkRowW
  constructor <;> omega
abbrev mkRows (l : List (List PickV)) (k : Int) : List (List PickV) := mkG mkRowP mkRowW l k
abbrev mkRowsK (l : List (List PickV)) (k : Int) : Int := mkGk mkRowW l k
theorem mkRows_len (l : List (List PickV)) (k : Int) : (mkRows l k).length = l.length := mkG_len ..
theorem mkRowsK_bnd (l : List (List PickV)) (k : Int) : k ≤ mkRowsK l k ∧ mkRowsK l k ≤ k + 5 * (wtL (wtL PickV.wt) l : Nat) := mkGk_bnd rowW_bnd l k
theorem mkG_get {α : Type} {f : α → Int → α} {w : α → Int} {l : List α} {i : Nat} {x : α} (h : l[i]? = some x) (k : Int) : (mkG f w l k)[i]? = some (f x (mkGk w (l.take i) k)) := by
  induction l generalizing i k with
  | nil => simp at h
  | cons y r ih =>
    cases i with
    | zero => simp at h; subst h; simp [mkG, mkGk]
    | succ i => simpa [mkG, mkGk] using ih (by simpa using h) (k + w y)

set_option maxHeartbeats 4000000 in
theorem c_laws_markPickSS0 (l : List (List PickV)) (hw : wtL (wtL PickV.wt) l ≤ 1048576) (k : Int) (h1 : 1 ≤ k) (h2 : k ≤ 30000000) : TContract Try.prog 16 [.fv 100000 l.length, .d (iD k)] [⟨50, 1, l.map rowT⟩] [⟨50, 1, (mkG mkRowP mkRowW l k).map rowT⟩] (.int .i64 (mkGk mkRowW l k)) := by
  have hlen : l.length ≤ 1048576 := Nat.le_trans wtL_len hw
  refine contract_byT [100000 + 31, 700000 + 50] hma hTa Try.func16 (by kernel_rfl) (by kernel_rfl) rfl (fun i B B' h1 h2 => ?_) (fun B hB => ?_) ?_
  · cases i with
    | zero => simp at h1 h2; subst h1; subst h2; exact ⟨rfl, rfl, by simp [mkG_len]⟩
    | succ i => simp at h1
  · rw [List.mem_singleton.1 hB]; exact pureL_map row_pure _
  conv => whnf
  have e1 : (List.map rowT l).length = l.length := List.length_map _
  refine LoopK_introR [100000 + 31, 700000 + 50] hma hTa [(0, .tree 100000), (1, .pl), (5, .pl)] (fun i : Nat => ⟨[(0, .fv 100000 l.length), (1000000 + 100000, .fa ⟨50, 1, (mkG mkRowP mkRowW (l.take i) k).map rowT ++ (l.drop i).map rowT⟩), (1, .d (iD (mkGk mkRowW (l.take i) k))), (5, .d (iD i))], [(100000, none)], []⟩) (fun i => i ≤ l.length) (fun i => l.length - i) (by kernel_rfl) ?_ ?_
  · conv => whnf
    refine ResK_same (pureL_map row_pure _).noRef ?_
    conv => whnf
    refine NoRefK_intro (pureL_map row_pure _).noRef ?_
    conv => whnf
    exact ⟨0, by omega, rfl⟩
  · intro i hi
    conv => whnf
    refine brLt (fun h => ?_) (fun h => ?_) <;> conv => whnf
    · have hlt : i < l.length := by omega
      have hd : (l.drop i).map rowT = rowT (l[i]) :: (l.drop (i + 1)).map rowT := by rw [List.drop_eq_getElem_cons hlt]; rfl
      have htk : l.take (i + 1) = l.take i ++ [l[i]] := by rw [List.take_add_one]; simp [hlt]
      have hpl : ((mkG mkRowP mkRowW (l.take i) k).map rowT).length = i := by rw [List.length_map, mkG_len, List.length_take]; omega
      have hln : ((mkG mkRowP mkRowW (l.take i) k).map rowT ++ rowT (l[i]) :: (l.drop (i + 1)).map rowT).length = l.length := by rw [List.length_append, hpl, List.length_cons, List.length_map, List.length_drop]; omega
      have fin : (mkG mkRowP mkRowW (l.take (i + 1)) k).map rowT ++ (l.drop (i + 1)).map rowT = (mkG mkRowP mkRowW (l.take i) k).map rowT ++ rowT (mkRowP l[i] (mkGk mkRowW (l.take i) k)) :: (l.drop (i + 1)).map rowT := by rw [htk, mkG_snoc]; simp
      have hκ2 : mkGk mkRowW (l.take (i + 1)) k = mkGk mkRowW (l.take i) k + mkRowW l[i] := by rw [htk, mkGk_snoc]
      have hb := mkGk_bnd rowW_bnd (l.take i) k
      have hb2 := wtL_take (wtL PickV.wt) l i
      have hb3 := rowW_bnd l[i]
      have hb4 := wtL_mem (wt := (wtL PickV.wt)) (List.getElem_mem hlt)
      have hb5 : l[i].length ≤ 1048576 := Nat.le_trans wtL_len (Nat.le_trans hb4 hw)
      rw [hd]
      have hpp : PureL ((mkG mkRowP mkRowW (l.take i) k).map rowT) := pureL_map row_pure _
      generalize (mkG mkRowP mkRowW (l.take i) k).map rowT = pre at hpl hln fin hpp ⊢
      generalize l[i] = x at hln fin hκ2 hb3 hb4 hb5 ⊢
      generalize mkGk mkRowW (l.take i) k = κ at hb fin hκ2 ⊢
      have hll : pre.length + (((l.drop (i + 1)).map rowT).length + 1) = l.length := by rw [List.length_append, List.length_cons] at hln; exact hln
      repeat' first
        | (refine CallK_intro (c_laws_markText _ (by omega) (by omega)) ?_; conv => whnf)
        | (refine IxA_intro i rfl hlt ?_; conv => whnf)
        | (refine getK_intro (get_mid hpl) ?_; conv => whnf)
        | (refine setK_intro (by rw [List.length_append, List.length_cons]; omega) (set_mid hpl).symm ?_; conv => whnf)
        | (refine WrK_i64 (by omega) (by omega) ?_; conv => whnf)
        | (refine NeedK_intro (flat_plain (flatL_map pick_flatD _)) ?_; conv => whnf)
        | (refine LCallK_intro (c_laws_markPickS _ hb5 _ (by omega) (by omega)) ?_; conv => whnf)
        | (refine NeedK_intro (by rfl) ?_; conv => whnf)
      refine ResK_intro (U := [15]) (xs' := pre ++ rowT (mkRowP x κ) :: (l.drop (i + 1)).map rowT)
        (RVL.app (RVL.same hpp.noRef) (RVL.cons (x := .ref 15 (x.map PickV.dat).length) (x' := rowT (mkRowP x κ)) rfl
          (RVs.one (.refc 15 _ ⟨89, 2, (mkPickL κ x.length).map PickV.dat⟩ rfl rfl)) (RVL.same (pureL_map row_pure _).noRef))) (by simp) (by simp) ?_
      conv => whnf
      refine NoRefK_intro (pureL_append hpp (pureL_cons (row_pure _) (pureL_map row_pure _))).noRef ?_
      conv => whnf
      refine ⟨i + 1, hlt, (by show l.length - (i + 1) < l.length - i; omega), ?_⟩
      have e5 : κ + 2 * (x.length : Int) = mkGk mkRowW (l.take (i + 1)) k := by rw [hκ2]; unfold mkRowW; omega
      dsimp only
      rw [fin, ← e5]
      rfl
    · have e2 : i = l.length := by omega
      subst e2
      rw [List.drop_of_length_le (Nat.le_refl _), List.map_nil, List.append_nil, List.take_length]
      exact ⟨rfl, rfl, rfl, rfl, trivial⟩
theorem c_laws_markPickSS (l : List (List PickV)) (hw : wtL (wtL PickV.wt) l ≤ 1048576) (k : Int) (h1 : 1 ≤ k) (h2 : k ≤ 30000000) : TContract Try.prog 16 [.fv 100000 (l.map rowT).length, .d (iD k)] [⟨50, 1, l.map rowT⟩] [⟨50, 1, (mkG mkRowP mkRowW l k).map rowT⟩] (.int .i64 (mkGk mkRowW l k)) := by
  rw [List.length_map]
  exact c_laws_markPickSS0 l hw k h1 h2

theorem c_laws_heldPickSS (l : List (List PickV)) (hw : wtL (wtL PickV.wt) l ≤ 1048576) (k : Int) (h1 : 1 ≤ k) (h2 : k ≤ 30000000) : Contract Try.prog 17 [.d (lD (lD PickV.dat) (mkRows l k)), .d (iD k)] (.one (.d (iD (mkRowsK l k)))) := by
  have hlen : l.length ≤ 1048576 := Nat.le_trans wtL_len hw
  refine contract_by hma hTa Try.func17 (by kernel_rfl) (by kernel_rfl) ?_
  conv => whnf
  have e1 : (List.map (lD PickV.dat) (mkRows l k)).length = l.length := by rw [List.length_map, mkRows_len]
  refine LoopK_intro hma hTa [(0, .pl), (1, .pl), (5, .pl)] (fun i : Nat => ⟨[(0, .d (lD (lD PickV.dat) (mkRows l k))), (1, .d (iD (mkRowsK (l.take i) k))), (5, .d (iD i))], [], []⟩) (fun i => i ≤ l.length) (fun i => l.length - i) (by kernel_rfl) ?_ ?_
  · conv => whnf
    exact ⟨0, by omega, rfl⟩
  · intro i hi
    conv => whnf
    refine brLt (fun h => ?_) (fun h => ?_) <;> conv => whnf
    · have hlt : i < l.length := by omega
      have hx0 : l[i]? = some l[i] := List.getElem?_eq_getElem hlt
      have htk : l.take (i + 1) = l.take i ++ [l[i]] := take_snoc hx0
      have hx : (mkRows l k)[i]? = some (mkRowP l[i] (mkRowsK (l.take i) k)) := mkG_get (f := mkRowP) (w := mkRowW) hx0 k
      have hκ2 : mkRowsK (l.take (i + 1)) k = mkRowsK (l.take i) k + mkRowW l[i] := by unfold mkRowsK; rw [htk, mkGk_snoc]
      have hb := mkRowsK_bnd (l.take i) k
      have hb2 := wtL_take (wtL PickV.wt) l i
      have hb3 : l[i].length ≤ 1048576 := Nat.le_trans wtL_len (Nat.le_trans (wtL_mem (wt := wtL PickV.wt) (List.getElem_mem hlt)) hw)
      generalize l[i] = x at hx hκ2 hb3
      generalize mkRowsK (l.take i) k = κ at hb hx hκ2 ⊢
      have hκ3 : mkRowW x = 2 * (x.length : Int) := rfl
      refine IxK_map i rfl hx ?_
      conv => whnf
      refine CallK_intro (c_laws_heldPickS x.length hb3 κ (by omega) (by omega)) ?_
      conv => whnf
      refine brLt (fun h => by exfalso; omega) (fun _ => ?_)
      conv => whnf
      refine WrK_i64 (by omega) (by omega) ?_
      conv => whnf
      refine ⟨i + 1, hlt, Nat.sub_lt_sub_left hlt (Nat.lt_succ_self i), ?_⟩
      have e5 : κ + 2 * (x.length : Int) = mkRowsK (l.take (i + 1)) k := by omega
      dsimp only
      rw [← e5]
      rfl
    · rw [List.take_of_length_le (by omega)]

theorem sumW_le2 {α : Type} {f : α → Nat} {b : Nat} : ∀ {l : List α}, (∀ x ∈ l, f x ≤ b) → sumW f l ≤ l.length * b
  | [], _ => by simp [sumW]
  | x :: l, h => by
    have h1 := h x (by simp)
    have h2 := sumW_le2 (f := f) (b := b) (l := l) fun y hy => h y (by simp [hy])
    rw [sumW_cons, List.length_cons, Nat.add_mul]; omega
theorem choicesV_ok (m : ModelV) (hm : m.ok) : okL (okL PickV.ok) (choicesV m) ∧ wtL (wtL PickV.wt) (choicesV m) ≤ 20000 := by
  by_cases h : isModelP m
  · rw [show choicesV m = _ from ifP_t h]
    have h1 := rows_bound h m.options.length
    have h3 := rows_ok hm m.options.length
    rw [List.take_length] at h1 h3
    have h4 : 4 ^ m.options.length ≤ 256 := Nat.pow_le_pow_right (by omega) (show m.options.length ≤ 4 from h.1)
    have hl : (choicesN m).length ≤ 256 := Nat.le_trans (List.length_filter_le _ _) (Nat.le_trans h1.1 h4)
    have hr : ∀ r ∈ choicesN m, r.length ≤ 4 ∧ (∀ p ∈ r, PickV.ok p) ∧ fullP m.options r := fun r hr => by
      have h5 := (List.mem_filter.1 hr).1
      exact ⟨Nat.le_trans (h1.2 r h5) h.1, h3 r h5, mem_rowsN.1 h5⟩
    refine ⟨⟨by omega, fun r hr2 => ⟨by have := (hr r hr2).1; omega, (hr r hr2).2.1⟩⟩, ?_⟩
    have h6 : sumW (wtL PickV.wt) (choicesN m) ≤ (choicesN m).length * 68 := sumW_le2 fun r hr2 => by
      obtain ⟨a, b, c⟩ := hr r hr2
      have h7 : sumW PickV.wt r ≤ r.length * 16 := sumW_le2 fun p hp => by
        obtain ⟨i, hi⟩ := List.getElem?_of_mem hp
        obtain ⟨o, ho⟩ : ∃ o, m.options[i]? = some o := ⟨m.options[i]'(by rw [← c.1]; exact get_lt hi), by simp⟩
        obtain ⟨c1, c2⟩ := c.2 i o p ho hi
        have h8 := (h.2.2.2.2 i o.name (by rw [List.getElem?_map, ho]; rfl)).1.2.2
        obtain ⟨j, hj⟩ := List.getElem?_of_mem c2
        have h9 := ((h.2.2.1 o (get_mem ho)).2.2 j p.value hj).1.2.2
        unfold PickV.wt
        rw [c1]; omega
      unfold wtL; omega
    show (choicesN m).length + sumW (wtL PickV.wt) (choicesN m) ≤ 20000
    omega
  · rw [show choicesV m = _ from ifP_f h]; exact ⟨⟨by simp, by simp⟩, by simp [wtL, sumW]⟩

theorem allN_nil (m : ModelV) : allN m [] = choicesN m := by
  unfold allN choicesN
  have e : (fun all o => List.flatMap (extF [] o) all) = fun (all : List (List PickV)) (o : OptV) => List.flatMap (extR o) all := by
    funext all o
    congr 1
    funext row
    unfold extF extR
    congr 1
    rw [List.filter_eq_self]
    exact fun v _ => tr_t (fun p hp => by simp at hp)
  unfold rowsF rowsN
  rw [e]
theorem c_spec_ChoicesOfV (m : ModelV) (hm : m.ok) : Contract Try.prog 10 [.d m.dat] (.one (.own ⟨50, 1, (choicesV m).map (lD PickV.dat)⟩)) := by
  refine contract_by hma hTa Try.func10 (by kernel_rfl) (by kernel_rfl) ?_
  conv => whnf
  refine CallK_tr (c_spec_IsModel _ hm) (fun h => ?_) (fun h => ?_) <;> conv => whnf
  · rw [show choicesV m = _ from ifP_t h, ← allN_nil]
    refine CallK_intro (c_spec_l7All m hm h [] ⟨by simp, by simp⟩) ?_
    conv => whnf
    exact ⟨rfl, rfl, rfl, rfl⟩
  · rw [show choicesV m = _ from ifP_f h]
    exact ⟨rfl, rfl, rfl, rfl⟩

end Go.DL
