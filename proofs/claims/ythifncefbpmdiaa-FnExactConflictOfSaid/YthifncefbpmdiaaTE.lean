/- Contracts of functions of the program, at this seat: what each call returns, by its arguments as data; each states its own conditions. -/
import Derived.Test.YthifncefbpmdiaaTB
namespace Go.DL
set_option maxRecDepth 100000
set_option maxHeartbeats 2000000
set_option linter.unusedSimpArgs false
set_option linter.unusedVariables false
open Go.RowKit Go.Proofs Go.Proofs.Ythifncefbpmdiaa

def mkG {α : Type} (f : α → Int → α) (w : α → Int) : List α → Int → List α
  | [], _ => []
  | x :: r, k => f x k :: mkG f w r (k + w x)
def mkGk {α : Type} (w : α → Int) : List α → Int → Int
  | [], k => k
  | x :: r, k => mkGk w r (k + w x)
theorem mkG_len {α : Type} (f : α → Int → α) (w : α → Int) : ∀ (l : List α) (k : Int), (mkG f w l k).length = l.length
  | [], _ => rfl
  | x :: r, k => by simp [mkG, mkG_len f w r]
theorem mkG_snoc {α : Type} (f : α → Int → α) (w : α → Int) (x : α) : ∀ (l : List α) (k : Int), mkG f w (l ++ [x]) k = mkG f w l k ++ [f x (mkGk w l k)]
  | [], _ => rfl
  | y :: r, k => by simp [mkG, mkGk, mkG_snoc f w x r]
theorem mkGk_snoc {α : Type} (w : α → Int) (x : α) : ∀ (l : List α) (k : Int), mkGk w (l ++ [x]) k = mkGk w l k + w x
  | [], _ => rfl
  | y :: r, k => by simp [mkGk, mkGk_snoc w x r]
theorem mkGk_bnd {α : Type} {w : α → Int} {wt : α → Nat} (hw : ∀ x, 0 ≤ w x ∧ w x ≤ 5 * (1 + wt x : Nat)) : ∀ (l : List α) (k : Int), k ≤ mkGk w l k ∧ mkGk w l k ≤ k + 5 * (wtL wt l : Nat)
  | [], k => by simp [mkGk]; omega
  | x :: r, k => by
    obtain ⟨h1, h2⟩ := mkGk_bnd hw r (k + w x)
    have h3 : wtL wt (x :: r) = wtL wt r + 1 + wt x := by unfold wtL; rw [sumW_cons]; simp; omega
    obtain ⟨h4, h5⟩ := hw x
    unfold mkGk
    rw [h3]
    constructor <;> omega
/-- An option whose list is its own. -/
def OptV.trd (x : OptV) : D := .agg [sD x.name, .own 9 1 (x.values.map sD)]
/-- A list of nodes that is its own. -/
def ruleT (r : List NodeV) : D := .own 176 3 (r.map NodeV.dat)
theorem txt_flat (l : List ByteArray) : FlatL (l.map sD) := flatL_map (f := sD) (fun _ => trivial) l
theorem opt_pure (x : OptV) : ∀ d ∈ x.trd.fl, PureD d := by
  intro d hd
  simp [OptV.trd, D.fl] at hd
  rcases hd with rfl | rfl
  · exact .sc _
  · exact .own _ _ _ (txt_flat _).pure
theorem opt_erase (x : OptV) : erase x.trd = x.dat := by
  simp [OptV.trd, OptV.dat, erase, eraseL, eraseL_flat (txt_flat x.values)]
theorem rule_pure (r : List NodeV) : ∀ d ∈ (ruleT r).fl, PureD d := by
  intro d hd
  rw [show (ruleT r).fl = [ruleT r] from rfl] at hd
  rw [List.mem_singleton.1 hd]
  exact .own _ _ _ (flatL_map node_flatD _).pure
theorem rule_erase (r : List NodeV) : erase (ruleT r) = lD NodeV.dat r := by
  simp [ruleT, erase, eraseL_flat (flatL_map node_flatD r)]
def ModelV.trd (x : ModelV) : D := .agg [.own 163 2 (x.options.map OptV.trd), .own 122 1 (x.rules.map ruleT)]
theorem model_pure (x : ModelV) : ∀ d ∈ x.trd.fl, PureD d := by
  intro d hd
  simp [ModelV.trd, D.fl] at hd
  rcases hd with rfl | rfl
  · exact .own _ _ _ (pureL_map opt_pure _)
  · exact .own _ _ _ (pureL_map rule_pure _)
theorem model_erase (x : ModelV) : erase x.trd = x.dat := by
  simp only [ModelV.trd, ModelV.dat, erase, eraseL, eraseL_mapTo opt_erase, eraseL_mapTo rule_erase]

set_option maxHeartbeats 400000 in
theorem c_laws_toOptionT (x : OptV) (hw : x.wt ≤ 1048576) (hx : x.ok) : Contract Try.prog 155 [.d x.dat] (.one (.tr x.trd)) := by
  have hw2 : wtL ByteArray.size x.values ≤ 1048576 := by unfold OptV.wt at hw; omega
  obtain ⟨_, hk⟩ := hx
  refine contract_byR [400000 + 163] hma hTa Try.func155 (by kernel_rfl) (by kernel_rfl) ?_
  conv => whnf
  refine CallK_intro (c_laws_toStringS _ hw2 hk.2) ?_
  conv => whnf
  refine NeedK_intro rfl ?_
  conv => whnf
  exact ⟨rfl, rfl, rfl, rfl, rfl, txt_flat _, trivial⟩
theorem zopt_pure : ∀ d ∈ (D.agg [sD ⟨#[]⟩, .sl []]).fl, PureD d := by
  intro d hd
  simp [D.fl] at hd
  rcases hd with rfl | rfl
  · exact .sc _
  · exact .nil
theorem zrule_pure : ∀ d ∈ (D.sl []).fl, PureD d := by
  intro d hd
  rw [List.mem_singleton.1 hd]; exact .nil
theorem opt_ok (x : OptV) (d : D) (hd : d ∈ x.trd.fl) : Clean d := pureD_clean (opt_pure x d hd)

set_option maxHeartbeats 400000 in
theorem c_laws_toOptionST (l : List OptV) (hw : wtL OptV.wt l ≤ 1048576) (hok : ∀ v ∈ l, OptV.ok v) : Contract Try.prog 122 [.d (lD OptV.dat l)] (.one (.tr (.own 163 2 (l.map OptV.trd)))) := by
  have hlen : l.length ≤ 1048576 := Nat.le_trans wtL_len hw
  refine contract_byR [400000 + 86, 600000 + 155] hma hTa Try.func122 (by kernel_rfl) (by kernel_rfl) ?_
  conv => whnf
  have e1 : (List.map OptV.dat l).length = l.length := List.length_map _
  have e1' : (List.map OptV.trd l).length = l.length := List.length_map _
  refine MkK_intro l.length (by omega) (by omega) (by omega) ?_
  conv => whnf
  refine LoopK_introR [400000 + 86, 600000 + 155] hma hTa [(0, .pl), (2, .pl), (3, .tree 7), (4, .pl)] (fun i : Nat => ⟨[(0, .d (lD OptV.dat l)), (2, .nil), (3, .fv 7 l.length), (1000000 + 7, .fa ⟨163, 2, (l.take i).map OptV.trd ++ List.replicate (l.length - i) (D.agg [sD ⟨#[]⟩, .sl []])⟩), (4, .d (iD i))], [(7, none)], []⟩) (fun i => i ≤ l.length) (fun i => l.length - i) (by kernel_rfl) ?_ ?_
  · conv => whnf
    refine ResK_same (pureL_rep _ zopt_pure).noRef ?_
    conv => whnf
    refine NoRefK_intro (pureL_rep _ zopt_pure).noRef ?_
    conv => whnf
    exact ⟨0, by omega, rfl⟩
  · intro i hi
    conv => whnf
    refine brLt (fun h => ?_) (fun h => ?_) <;> conv => whnf
    · refine IxK_mapLt _ rfl (by omega) (fun x hx => ?_)
      conv => whnf
      refine CallK_intro (c_laws_toOptionT _ (Nat.le_trans (wtL_mem (get_mem hx)) hw) (hok _ (get_mem hx))) ?_
      conv => whnf
      refine NeedK_intro (opt_ok x) ?_
      conv => whnf
      refine IxA_intro i rfl (by omega) ?_
      conv => whnf
      have hpl : ((l.take i).map OptV.trd).length = i := by rw [List.length_map, List.length_take]; omega
      have hrp : List.replicate (l.length - i) (D.agg [sD ⟨#[]⟩, .sl []]) = D.agg [sD ⟨#[]⟩, .sl []] :: List.replicate (l.length - (i + 1)) (D.agg [sD ⟨#[]⟩, .sl []]) := by
        rw [show l.length - i = (l.length - (i + 1)) + 1 by omega]; rfl
      rw [hrp]
      try (refine NeedK_intro rfl ?_; conv => whnf)
      refine setK_intro (by rw [List.length_append, List.length_cons]; omega) (set_mid hpl).symm ?_
      conv => whnf
      refine WrK_i64 (by omega) (by omega) ?_
      conv => whnf
      refine ResK_intro (U := [202001]) (xs' := (l.take i).map OptV.trd ++ OptV.trd x :: List.replicate (l.length - (i + 1)) (D.agg [sD ⟨#[]⟩, .sl []]))
        (RVL.app (RVL.same (pureL_map opt_pure _).noRef) (RVL.cons (x := .agg [sD x.name, .ref 202001 (x.values.map sD).length]) (x' := OptV.trd x) rfl (RVs.app (a := [sD x.name]) (RVs.same (fun d hd => by rw [List.mem_singleton.1 hd]; exact .sc _)) (RVs.one (.reff 202001 _ ⟨9, 1, x.values.map sD⟩ rfl (txt_flat _).pure.noRef))) (RVL.same (pureL_rep _ zopt_pure).noRef))) (by simp) (by simp) ?_
      conv => whnf
      refine NoRefK_intro (pureL_append (pureL_map opt_pure _) (pureL_cons (opt_pure x) (pureL_rep _ zopt_pure))).noRef ?_
      conv => whnf
      have fin : (l.take (i + 1)).map OptV.trd ++ List.replicate (l.length - (i + 1)) (D.agg [sD ⟨#[]⟩, .sl []]) = (l.take i).map OptV.trd ++ OptV.trd x :: List.replicate (l.length - (i + 1)) (D.agg [sD ⟨#[]⟩, .sl []]) := by
        rw [List.take_add_one, hx]; simp
      exact ⟨i + 1, get_lt hx, (by show l.length - (i + 1) < l.length - i; omega), by dsimp only; rw [fin]; rfl⟩
    · have e2 : i = l.length := by omega
      subst e2
      rw [List.take_length, Nat.sub_self, List.replicate_zero, List.append_nil]
      exact ⟨rfl, rfl, e1'.symm, rfl, pureL_map opt_pure _⟩

set_option maxHeartbeats 400000 in
theorem c_laws_toCondNodeSST (l : List (List NodeV)) (hw : wtL (wtL NodeV.wt) l ≤ 1048576) (hok : ∀ v ∈ l, (okL NodeV.ok) v) : Contract Try.prog 123 [.d (lD (lD NodeV.dat) l)] (.one (.tr (.own 122 1 (l.map ruleT)))) := by
  have hlen : l.length ≤ 1048576 := Nat.le_trans wtL_len hw
  refine contract_byR [400000 + 87] hma hTa Try.func123 (by kernel_rfl) (by kernel_rfl) ?_
  conv => whnf
  have e1 : (List.map (lD NodeV.dat) l).length = l.length := List.length_map _
  have e1' : (List.map ruleT l).length = l.length := List.length_map _
  refine MkK_intro l.length (by omega) (by omega) (by omega) ?_
  conv => whnf
  refine LoopK_introR [400000 + 87] hma hTa [(0, .pl), (2, .pl), (3, .tree 7), (4, .pl)] (fun i : Nat => ⟨[(0, .d (lD (lD NodeV.dat) l)), (2, .nil), (3, .fv 7 l.length), (1000000 + 7, .fa ⟨122, 1, (l.take i).map ruleT ++ List.replicate (l.length - i) (D.sl [])⟩), (4, .d (iD i))], [(7, none)], []⟩) (fun i => i ≤ l.length) (fun i => l.length - i) (by kernel_rfl) ?_ ?_
  · conv => whnf
    refine ResK_same (pureL_rep _ zrule_pure).noRef ?_
    conv => whnf
    refine NoRefK_intro (pureL_rep _ zrule_pure).noRef ?_
    conv => whnf
    exact ⟨0, by omega, rfl⟩
  · intro i hi
    conv => whnf
    refine brLt (fun h => ?_) (fun h => ?_) <;> conv => whnf
    · refine IxK_mapLt _ rfl (by omega) (fun x hx => ?_)
      conv => whnf
      refine CallK_intro (c_laws_toCondNodeS _ (Nat.le_trans (wtL_mem (get_mem hx)) hw) (hok _ (get_mem hx)).2) ?_
      conv => whnf
      refine IxA_intro i rfl (by omega) ?_
      conv => whnf
      have hpl : ((l.take i).map ruleT).length = i := by rw [List.length_map, List.length_take]; omega
      have hrp : List.replicate (l.length - i) (D.sl []) = D.sl [] :: List.replicate (l.length - (i + 1)) (D.sl []) := by
        rw [show l.length - i = (l.length - (i + 1)) + 1 by omega]; rfl
      rw [hrp]
      try (refine NeedK_intro rfl ?_; conv => whnf)
      refine setK_intro (by rw [List.length_append, List.length_cons]; omega) (set_mid hpl).symm ?_
      conv => whnf
      refine WrK_i64 (by omega) (by omega) ?_
      conv => whnf
      refine ResK_intro (U := [20]) (xs' := (l.take i).map ruleT ++ ruleT x :: List.replicate (l.length - (i + 1)) (D.sl []))
        (RVL.app (RVL.same (pureL_map rule_pure _).noRef) (RVL.cons (x := .ref 20 (x.map NodeV.dat).length) (x' := ruleT x) rfl (RVs.one (.refc 20 _ ⟨176, 3, x.map NodeV.dat⟩ rfl rfl)) (RVL.same (pureL_rep _ zrule_pure).noRef))) (by simp) (by simp) ?_
      conv => whnf
      refine NoRefK_intro (pureL_append (pureL_map rule_pure _) (pureL_cons (rule_pure x) (pureL_rep _ zrule_pure))).noRef ?_
      conv => whnf
      have fin : (l.take (i + 1)).map ruleT ++ List.replicate (l.length - (i + 1)) (D.sl []) = (l.take i).map ruleT ++ ruleT x :: List.replicate (l.length - (i + 1)) (D.sl []) := by
        rw [List.take_add_one, hx]; simp
      exact ⟨i + 1, get_lt hx, (by show l.length - (i + 1) < l.length - i; omega), by dsimp only; rw [fin]; rfl⟩
    · have e2 : i = l.length := by omega
      subst e2
      rw [List.take_length, Nat.sub_self, List.replicate_zero, List.append_nil]
      exact ⟨rfl, rfl, e1'.symm, rfl, pureL_map rule_pure _⟩

def mkOpt (x : OptV) (k : Int) : OptV := ⟨mtext k, mkStringL (k + 1) x.values.length⟩
def mkOptW (x : OptV) : Int := 1 + 1 * (x.values.length : Int)
def mkRule (r : List NodeV) (k : Int) : List NodeV := mkCondNodeL k r.length
def mkRuleW (r : List NodeV) : Int := 3 * (r.length : Int)
theorem optW_bnd (x : OptV) : 0 ≤ mkOptW x ∧ mkOptW x ≤ 5 * (1 + x.wt : Nat) := by
  have h : x.values.length ≤ x.wt := by unfold OptV.wt wtL; omega
  unfold mkOptW
  constructor <;> omega
theorem ruleW_bnd (r : List NodeV) : 0 ≤ mkRuleW r ∧ mkRuleW r ≤ 5 * (1 + wtL NodeV.wt r : Nat) := by
  have h : r.length ≤ wtL NodeV.wt r := wtL_len
  unfold mkRuleW
  constructor <;> omega

set_option maxHeartbeats 4000000 in
theorem c_laws_markOptionS0 (l : List OptV) (hw : wtL OptV.wt l ≤ 1048576) (k : Int) (h1 : 1 ≤ k) (h2 : k ≤ 30000000) : TContract Try.prog 129 [.fv 100000 l.length, .d (iD k)] [⟨163, 2, l.map OptV.trd⟩] [⟨163, 2, (mkG mkOpt mkOptW l k).map OptV.trd⟩] (.int .i64 (mkGk mkOptW l k)) := by
  have hlen : l.length ≤ 1048576 := Nat.le_trans wtL_len hw
  refine contract_byT [100000 + 50, 700000 + 41] hma hTa Try.func129 (by kernel_rfl) (by kernel_rfl) rfl (fun i B B' h1 h2 => ?_) (fun B hB => ?_) ?_
  · cases i with
    | zero => simp at h1 h2; subst h1; subst h2; exact ⟨rfl, rfl, by simp [mkG_len]⟩
    | succ i => simp at h1
  · rw [List.mem_singleton.1 hB]; exact pureL_map opt_pure _
  conv => whnf
  have e1 : (List.map OptV.trd l).length = l.length := List.length_map _
  refine LoopK_introR [100000 + 50, 700000 + 41] hma hTa [(0, .tree 100000), (1, .pl), (5, .pl)] (fun i : Nat => ⟨[(0, .fv 100000 l.length), (1000000 + 100000, .fa ⟨163, 2, (mkG mkOpt mkOptW (l.take i) k).map OptV.trd ++ (l.drop i).map OptV.trd⟩), (1, .d (iD (mkGk mkOptW (l.take i) k))), (5, .d (iD i))], [(100000, none)], []⟩) (fun i => i ≤ l.length) (fun i => l.length - i) (by kernel_rfl) ?_ ?_
  · conv => whnf
    refine ResK_same (pureL_map opt_pure _).noRef ?_
    conv => whnf
    refine NoRefK_intro (pureL_map opt_pure _).noRef ?_
    conv => whnf
    exact ⟨0, by omega, rfl⟩
  · intro i hi
    conv => whnf
    refine brLt (fun h => ?_) (fun h => ?_) <;> conv => whnf
    · have hlt : i < l.length := by omega
      have hd : (l.drop i).map OptV.trd = OptV.trd (l[i]) :: (l.drop (i + 1)).map OptV.trd := by rw [List.drop_eq_getElem_cons hlt]; rfl
      have htk : l.take (i + 1) = l.take i ++ [l[i]] := by rw [List.take_add_one]; simp [hlt]
      have hpl : ((mkG mkOpt mkOptW (l.take i) k).map OptV.trd).length = i := by rw [List.length_map, mkG_len, List.length_take]; omega
      have hln : ((mkG mkOpt mkOptW (l.take i) k).map OptV.trd ++ OptV.trd (l[i]) :: (l.drop (i + 1)).map OptV.trd).length = l.length := by rw [List.length_append, hpl, List.length_cons, List.length_map, List.length_drop]; omega
      have fin : (mkG mkOpt mkOptW (l.take (i + 1)) k).map OptV.trd ++ (l.drop (i + 1)).map OptV.trd = (mkG mkOpt mkOptW (l.take i) k).map OptV.trd ++ OptV.trd (mkOpt l[i] (mkGk mkOptW (l.take i) k)) :: (l.drop (i + 1)).map OptV.trd := by rw [htk, mkG_snoc]; simp
      have hκ2 : mkGk mkOptW (l.take (i + 1)) k = mkGk mkOptW (l.take i) k + mkOptW l[i] := by rw [htk, mkGk_snoc]
      have hb := mkGk_bnd optW_bnd (l.take i) k
      have hb2 := wtL_take OptV.wt l i
      have hb3 := optW_bnd l[i]
      have hb4 := wtL_mem (wt := OptV.wt) (List.getElem_mem hlt)
      have hb5 : l[i].values.length ≤ 1048576 := Nat.le_trans (show l[i].values.length ≤ OptV.wt l[i] by unfold OptV.wt wtL; omega) (Nat.le_trans hb4 hw)
      rw [hd]
      have hpp : PureL ((mkG mkOpt mkOptW (l.take i) k).map OptV.trd) := pureL_map opt_pure _
      generalize (mkG mkOpt mkOptW (l.take i) k).map OptV.trd = pre at hpl hln fin hpp ⊢
      generalize l[i] = x at hln fin hκ2 hb3 hb4 hb5 ⊢
      generalize mkGk mkOptW (l.take i) k = κ at hb fin hκ2 ⊢
      have hll : pre.length + (((l.drop (i + 1)).map OptV.trd).length + 1) = l.length := by rw [List.length_append, List.length_cons] at hln; exact hln
      repeat' first
        | (refine CallK_intro (c_laws_markText _ (by omega) (by omega)) ?_; conv => whnf)
        | (refine IxA_intro i rfl hlt ?_; conv => whnf)
        | (refine getK_intro (get_mid hpl) ?_; conv => whnf)
        | (refine setK_intro (by rw [List.length_append, List.length_cons]; omega) (set_mid hpl).symm ?_; conv => whnf)
        | (refine WrK_i64 (by omega) (by omega) ?_; conv => whnf)
        | (refine NeedK_intro (flat_plain (txt_flat _)) ?_; conv => whnf)
        | (refine LCallK_intro (c_laws_markStringS _ hb5 _ (by omega) (by omega)) ?_; conv => whnf)
        | (refine NeedK_intro (by rfl) ?_; conv => whnf)
      refine ResK_intro (U := [24]) (xs' := pre ++ (mkOpt x κ).trd :: (l.drop (i + 1)).map OptV.trd)
        (RVL.app (RVL.same hpp.noRef) (RVL.cons (x := .agg [sD (mtext κ), .ref 24 (x.values.map sD).length]) (x' := (mkOpt x κ).trd) rfl (RVs.app (a := [sD (mtext κ)]) (RVs.same (fun d hd => by rw [List.mem_singleton.1 hd]; exact .sc _))
          (RVs.one (.refc 24 _ ⟨9, 1, (mkStringL (κ + 1) x.values.length).map sD⟩ rfl rfl))) (RVL.same (pureL_map opt_pure _).noRef))) (by simp) (by simp) ?_
      conv => whnf
      refine NoRefK_intro (pureL_append hpp (pureL_cons (opt_pure _) (pureL_map opt_pure _))).noRef ?_
      conv => whnf
      refine ⟨i + 1, hlt, (by show l.length - (i + 1) < l.length - i; omega), ?_⟩
      have e5 : κ + 1 + 1 * (x.values.length : Int) = mkGk mkOptW (l.take (i + 1)) k := by rw [hκ2]; unfold mkOptW; omega
      dsimp only
      rw [fin, ← e5]
      rfl
    · have e2 : i = l.length := by omega
      subst e2
      rw [List.drop_of_length_le (Nat.le_refl _), List.map_nil, List.append_nil, List.take_length]
      exact ⟨rfl, rfl, rfl, rfl, trivial⟩
theorem c_laws_markOptionS (l : List OptV) (hw : wtL OptV.wt l ≤ 1048576) (k : Int) (h1 : 1 ≤ k) (h2 : k ≤ 30000000) : TContract Try.prog 129 [.fv 100000 (l.map OptV.trd).length, .d (iD k)] [⟨163, 2, l.map OptV.trd⟩] [⟨163, 2, (mkG mkOpt mkOptW l k).map OptV.trd⟩] (.int .i64 (mkGk mkOptW l k)) := by
  rw [List.length_map]
  exact c_laws_markOptionS0 l hw k h1 h2

set_option maxHeartbeats 4000000 in
theorem c_laws_markCondNodeSS0 (l : List (List NodeV)) (hw : wtL (wtL NodeV.wt) l ≤ 1048576) (k : Int) (h1 : 1 ≤ k) (h2 : k ≤ 30000000) : TContract Try.prog 130 [.fv 100000 l.length, .d (iD k)] [⟨122, 1, l.map ruleT⟩] [⟨122, 1, (mkG mkRule mkRuleW l k).map ruleT⟩] (.int .i64 (mkGk mkRuleW l k)) := by
  have hlen : l.length ≤ 1048576 := Nat.le_trans wtL_len hw
  refine contract_byT [100000 + 100, 700000 + 122] hma hTa Try.func130 (by kernel_rfl) (by kernel_rfl) rfl (fun i B B' h1 h2 => ?_) (fun B hB => ?_) ?_
  · cases i with
    | zero => simp at h1 h2; subst h1; subst h2; exact ⟨rfl, rfl, by simp [mkG_len]⟩
    | succ i => simp at h1
  · rw [List.mem_singleton.1 hB]; exact pureL_map rule_pure _
  conv => whnf
  have e1 : (List.map ruleT l).length = l.length := List.length_map _
  refine LoopK_introR [100000 + 100, 700000 + 122] hma hTa [(0, .tree 100000), (1, .pl), (5, .pl)] (fun i : Nat => ⟨[(0, .fv 100000 l.length), (1000000 + 100000, .fa ⟨122, 1, (mkG mkRule mkRuleW (l.take i) k).map ruleT ++ (l.drop i).map ruleT⟩), (1, .d (iD (mkGk mkRuleW (l.take i) k))), (5, .d (iD i))], [(100000, none)], []⟩) (fun i => i ≤ l.length) (fun i => l.length - i) (by kernel_rfl) ?_ ?_
  · conv => whnf
    refine ResK_same (pureL_map rule_pure _).noRef ?_
    conv => whnf
    refine NoRefK_intro (pureL_map rule_pure _).noRef ?_
    conv => whnf
    exact ⟨0, by omega, rfl⟩
  · intro i hi
    conv => whnf
    refine brLt (fun h => ?_) (fun h => ?_) <;> conv => whnf
    · have hlt : i < l.length := by omega
      have hd : (l.drop i).map ruleT = ruleT (l[i]) :: (l.drop (i + 1)).map ruleT := by rw [List.drop_eq_getElem_cons hlt]; rfl
      have htk : l.take (i + 1) = l.take i ++ [l[i]] := by rw [List.take_add_one]; simp [hlt]
      have hpl : ((mkG mkRule mkRuleW (l.take i) k).map ruleT).length = i := by rw [List.length_map, mkG_len, List.length_take]; omega
      have hln : ((mkG mkRule mkRuleW (l.take i) k).map ruleT ++ ruleT (l[i]) :: (l.drop (i + 1)).map ruleT).length = l.length := by rw [List.length_append, hpl, List.length_cons, List.length_map, List.length_drop]; omega
      have fin : (mkG mkRule mkRuleW (l.take (i + 1)) k).map ruleT ++ (l.drop (i + 1)).map ruleT = (mkG mkRule mkRuleW (l.take i) k).map ruleT ++ ruleT (mkRule l[i] (mkGk mkRuleW (l.take i) k)) :: (l.drop (i + 1)).map ruleT := by rw [htk, mkG_snoc]; simp
      have hκ2 : mkGk mkRuleW (l.take (i + 1)) k = mkGk mkRuleW (l.take i) k + mkRuleW l[i] := by rw [htk, mkGk_snoc]
      have hb := mkGk_bnd ruleW_bnd (l.take i) k
      have hb2 := wtL_take (wtL NodeV.wt) l i
      have hb3 := ruleW_bnd l[i]
      have hb4 := wtL_mem (wt := (wtL NodeV.wt)) (List.getElem_mem hlt)
      have hb5 : l[i].length ≤ 1048576 := Nat.le_trans wtL_len (Nat.le_trans hb4 hw)
      rw [hd]
      have hpp : PureL ((mkG mkRule mkRuleW (l.take i) k).map ruleT) := pureL_map rule_pure _
      generalize (mkG mkRule mkRuleW (l.take i) k).map ruleT = pre at hpl hln fin hpp ⊢
      generalize l[i] = x at hln fin hκ2 hb3 hb4 hb5 ⊢
      generalize mkGk mkRuleW (l.take i) k = κ at hb fin hκ2 ⊢
      have hll : pre.length + (((l.drop (i + 1)).map ruleT).length + 1) = l.length := by rw [List.length_append, List.length_cons] at hln; exact hln
      repeat' first
        | (refine CallK_intro (c_laws_markText _ (by omega) (by omega)) ?_; conv => whnf)
        | (refine IxA_intro i rfl hlt ?_; conv => whnf)
        | (refine getK_intro (get_mid hpl) ?_; conv => whnf)
        | (refine setK_intro (by rw [List.length_append, List.length_cons]; omega) (set_mid hpl).symm ?_; conv => whnf)
        | (refine WrK_i64 (by omega) (by omega) ?_; conv => whnf)
        | (refine NeedK_intro (flat_plain (flatL_map node_flatD _)) ?_; conv => whnf)
        | (refine LCallK_intro (c_laws_markCondNodeS _ hb5 _ (by omega) (by omega)) ?_; conv => whnf)
        | (refine NeedK_intro (by rfl) ?_; conv => whnf)
      refine ResK_intro (U := [15]) (xs' := pre ++ ruleT (mkRule x κ) :: (l.drop (i + 1)).map ruleT)
        (RVL.app (RVL.same hpp.noRef) (RVL.cons (x := .ref 15 (x.map NodeV.dat).length) (x' := ruleT (mkRule x κ)) rfl
          (RVs.one (.refc 15 _ ⟨176, 3, (mkCondNodeL κ x.length).map NodeV.dat⟩ rfl rfl)) (RVL.same (pureL_map rule_pure _).noRef))) (by simp) (by simp) ?_
      conv => whnf
      refine NoRefK_intro (pureL_append hpp (pureL_cons (rule_pure _) (pureL_map rule_pure _))).noRef ?_
      conv => whnf
      refine ⟨i + 1, hlt, (by show l.length - (i + 1) < l.length - i; omega), ?_⟩
      have e5 : κ + 3 * (x.length : Int) = mkGk mkRuleW (l.take (i + 1)) k := by rw [hκ2]; unfold mkRuleW; omega
      dsimp only
      rw [fin, ← e5]
      rfl
    · have e2 : i = l.length := by omega
      subst e2
      rw [List.drop_of_length_le (Nat.le_refl _), List.map_nil, List.append_nil, List.take_length]
      exact ⟨rfl, rfl, rfl, rfl, trivial⟩
theorem c_laws_markCondNodeSS (l : List (List NodeV)) (hw : wtL (wtL NodeV.wt) l ≤ 1048576) (k : Int) (h1 : 1 ≤ k) (h2 : k ≤ 30000000) : TContract Try.prog 130 [.fv 100000 (l.map ruleT).length, .d (iD k)] [⟨122, 1, l.map ruleT⟩] [⟨122, 1, (mkG mkRule mkRuleW l k).map ruleT⟩] (.int .i64 (mkGk mkRuleW l k)) := by
  rw [List.length_map]
  exact c_laws_markCondNodeSS0 l hw k h1 h2

end Go.DL
