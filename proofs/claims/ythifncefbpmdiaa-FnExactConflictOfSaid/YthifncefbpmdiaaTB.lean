/- Contracts of functions of the program, at this seat: what each call returns, by its arguments as data; each states its own conditions. -/
import Derived.Test.YthifncefbpmdiaaTA
namespace Go.DL
set_option maxRecDepth 100000
set_option maxHeartbeats 2000000
set_option linter.unusedSimpArgs false
set_option linter.unusedVariables false
open Go.RowKit Go.Proofs Go.Proofs.Ythifncefbpmdiaa

def mkLine (x : LineV) (k : Int) : LineV := ⟨mtext k, mtext (k + 1), k + 1 + 1, k + 1 + 1 + 1, k + 1 + 1 + 1 + 1, mkCondNodeL (k + 1 + 1 + 1 + 1 + 1) x.when.length⟩
def mkLw (x : LineV) : Int := 5 + 3 * (x.when.length : Int)
def mkLs : List LineV → Int → List LineV
  | [], _ => []
  | x :: r, k => mkLine x k :: mkLs r (k + mkLw x)
def mkLk : List LineV → Int → Int
  | [], k => k
  | x :: r, k => mkLk r (k + mkLw x)
theorem mkLs_len : ∀ (l : List LineV) (k : Int), (mkLs l k).length = l.length
  | [], _ => rfl
  | x :: r, k => by simp [mkLs, mkLs_len r]
theorem mkLs_snoc (x : LineV) : ∀ (l : List LineV) (k : Int), mkLs (l ++ [x]) k = mkLs l k ++ [mkLine x (mkLk l k)]
  | [], _ => rfl
  | y :: r, k => by simp [mkLs, mkLk, mkLs_snoc x r]
theorem mkLk_snoc (x : LineV) : ∀ (l : List LineV) (k : Int), mkLk (l ++ [x]) k = mkLk l k + mkLw x
  | [], _ => rfl
  | y :: r, k => by simp [mkLk, mkLk_snoc x r]
theorem mkLk_bnd : ∀ (l : List LineV) (k : Int), k ≤ mkLk l k ∧ mkLk l k ≤ k + 5 * (wtL LineV.wt l : Nat)
  | [], k => by simp [mkLk]; omega
  | x :: r, k => by
    obtain ⟨h1, h2⟩ := mkLk_bnd r (k + mkLw x)
    have h3 : wtL LineV.wt (x :: r) = wtL LineV.wt r + 1 + LineV.wt x := by unfold wtL; rw [sumW_cons]; simp; omega
    have h4 : x.when.length ≤ LineV.wt x := by unfold LineV.wt wtL; omega
    unfold mkLk
    rw [h3]
    unfold mkLw at h1 h2 ⊢
    constructor <;> omega
theorem wtL_take {α : Type} (wt : α → Nat) (l : List α) (i : Nat) : wtL wt (l.take i) ≤ wtL wt l := by
  unfold wtL
  have := sumW_take_le wt l i
  have : (l.take i).length ≤ l.length := by simp; omega
  omega
set_option maxHeartbeats 4000000 in
theorem c_laws_markBillLineS0 (l : List LineV) (hw : wtL LineV.wt l ≤ 1048576) (k : Int) (h1 : 1 ≤ k) (h2 : k ≤ 30000000) : TContract Try.prog 40 [.fv 100000 l.length, .d (iD k)] [⟨124, 6, l.map LineV.trd⟩] [⟨124, 6, (mkLs l k).map LineV.trd⟩] (.int .i64 (mkLk l k)) := by
  have hlen : l.length ≤ 1048576 := Nat.le_trans wtL_len hw
  refine contract_byT [100000 + 100, 700000 + 122] hma hTa Try.func40 (by kernel_rfl) (by kernel_rfl) rfl (fun i B B' h1 h2 => ?_) (fun B hB => ?_) ?_
  · cases i with
    | zero => simp at h1 h2; subst h1; subst h2; exact ⟨rfl, rfl, by simp [mkLs_len]⟩
    | succ i => simp at h1
  · rw [List.mem_singleton.1 hB]; exact pureL_map trd_pure _
  conv => whnf
  have e1 : (List.map LineV.trd l).length = l.length := List.length_map _
  refine LoopK_introR [100000 + 100, 700000 + 122] hma hTa [(0, .tree 100000), (1, .pl), (5, .pl)] (fun i : Nat => ⟨[(0, .fv 100000 l.length), (1000000 + 100000, .fa ⟨124, 6, (mkLs (l.take i) k).map LineV.trd ++ (l.drop i).map LineV.trd⟩), (1, .d (iD (mkLk (l.take i) k))), (5, .d (iD i))], [(100000, none)], []⟩) (fun i => i ≤ l.length) (fun i => l.length - i) (by kernel_rfl) ?_ ?_
  · conv => whnf
    refine ResK_same (pureL_map trd_pure _).noRef ?_
    conv => whnf
    refine NoRefK_intro (pureL_map trd_pure _).noRef ?_
    conv => whnf
    exact ⟨0, by omega, rfl⟩
  · intro i hi
    conv => whnf
    refine brLt (fun h => ?_) (fun h => ?_) <;> conv => whnf
    · have hlt : i < l.length := by omega
      have hd : (l.drop i).map LineV.trd = LineV.trd (l[i]) :: (l.drop (i + 1)).map LineV.trd := by rw [List.drop_eq_getElem_cons hlt]; rfl
      have htk : l.take (i + 1) = l.take i ++ [l[i]] := by rw [List.take_add_one]; simp [hlt]
      have hpl : ((mkLs (l.take i) k).map LineV.trd).length = i := by rw [List.length_map, mkLs_len, List.length_take]; omega
      have hln : ((mkLs (l.take i) k).map LineV.trd ++ LineV.trd (l[i]) :: (l.drop (i + 1)).map LineV.trd).length = l.length := by rw [List.length_append, hpl, List.length_cons, List.length_map, List.length_drop]; omega
      have fin : (mkLs (l.take (i + 1)) k).map LineV.trd ++ (l.drop (i + 1)).map LineV.trd = (mkLs (l.take i) k).map LineV.trd ++ LineV.trd (mkLine l[i] (mkLk (l.take i) k)) :: (l.drop (i + 1)).map LineV.trd := by rw [htk, mkLs_snoc]; simp
      have hκ2 : mkLk (l.take (i + 1)) k = mkLk (l.take i) k + mkLw l[i] := by rw [htk, mkLk_snoc]
      have hb := mkLk_bnd (l.take i) k
      have hb2 := wtL_take LineV.wt l i
      have hb3 : l[i].when.length ≤ 1048576 := by
        have := wtL_mem (wt := LineV.wt) (List.getElem_mem hlt)
        have h4 : l[i].when.length ≤ LineV.wt l[i] := by unfold LineV.wt wtL; omega
        omega
      rw [hd]
      have hpp : PureL ((mkLs (l.take i) k).map LineV.trd) := pureL_map trd_pure _
      generalize (mkLs (l.take i) k).map LineV.trd = pre at hpl hln fin hpp ⊢
      generalize l[i] = x at hln fin hκ2 hb3 ⊢
      generalize mkLk (l.take i) k = κ at hb fin hκ2 ⊢
      have hll : pre.length + (((l.drop (i + 1)).map LineV.trd).length + 1) = l.length := by rw [List.length_append, List.length_cons] at hln; exact hln
      have hκ3 : mkLw x = 5 + 3 * (x.when.length : Int) := rfl
      repeat' first
        | (refine CallK_intro (c_laws_markText _ (by omega) (by omega)) ?_; conv => whnf)
        | (refine IxA_intro i rfl hlt ?_; conv => whnf)
        | (refine getK_intro (get_mid hpl) ?_; conv => whnf)
        | (refine setK_intro (by rw [List.length_append, List.length_cons]; omega) (set_mid hpl).symm ?_; conv => whnf)
        | (refine WrK_i64 (by omega) (by omega) ?_; conv => whnf)
        | (refine NeedK_intro (flat_plain (flatL_map node_flatD _)) ?_; conv => whnf)
        | (refine NeedK_intro (by rfl) ?_; conv => whnf)
        | (refine LCallK_intro (c_laws_markCondNodeS _ hb3 _ (by omega) (by omega)) ?_; conv => whnf)
      refine ResK_intro (U := [53]) (xs' := pre ++ (mkLine x κ).trd :: (l.drop (i + 1)).map LineV.trd)
        (RVL.app (RVL.same hpp.noRef) (RVL.cons (x := .agg [sD (mtext κ), sD (mtext (κ + 1)), iD (κ + 1 + 1), iD (κ + 1 + 1 + 1), iD (κ + 1 + 1 + 1 + 1), .ref 53 (x.when.map NodeV.dat).length]) (x' := (mkLine x κ).trd) rfl (RVs.app (a := [sD (mtext κ), sD (mtext (κ + 1)), iD (κ + 1 + 1), iD (κ + 1 + 1 + 1), iD (κ + 1 + 1 + 1 + 1)]) (RVs.same (fun d hd => by simp at hd; rcases hd with rfl | rfl | rfl | rfl | rfl <;> exact .sc _))
          (RVs.one (.refc 53 _ ⟨176, 3, (mkCondNodeL (κ + 1 + 1 + 1 + 1 + 1) x.when.length).map NodeV.dat⟩ rfl rfl))) (RVL.same (pureL_map trd_pure _).noRef))) (by simp) (by simp) ?_
      conv => whnf
      refine NoRefK_intro (pureL_append hpp (pureL_cons (trd_pure _) (pureL_map trd_pure _))).noRef ?_
      conv => whnf
      refine ⟨i + 1, hlt, (by show l.length - (i + 1) < l.length - i; omega), ?_⟩
      have e5 : κ + 1 + 1 + 1 + 1 + 1 + 3 * (x.when.length : Int) = mkLk (l.take (i + 1)) k := by omega
      dsimp only
      rw [fin, ← e5]
      rfl
    · have e2 : i = l.length := by omega
      subst e2
      rw [List.drop_of_length_le (Nat.le_refl _), List.map_nil, List.append_nil, List.take_length]
      exact ⟨rfl, rfl, rfl, rfl, trivial⟩
theorem c_laws_markBillLineS (l : List LineV) (hw : wtL LineV.wt l ≤ 1048576) (k : Int) (h1 : 1 ≤ k) (h2 : k ≤ 30000000) : TContract Try.prog 40 [.fv 100000 (l.map LineV.trd).length, .d (iD k)] [⟨124, 6, l.map LineV.trd⟩] [⟨124, 6, (mkLs l k).map LineV.trd⟩] (.int .i64 (mkLk l k)) := by
  rw [List.length_map]
  exact c_laws_markBillLineS0 l hw k h1 h2

end Go.DL
