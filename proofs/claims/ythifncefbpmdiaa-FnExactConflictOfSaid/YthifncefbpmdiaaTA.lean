/- Contracts of functions of the program, at this seat: what each call returns, by its arguments as data; each states its own conditions. -/
import Derived.Test.YthifncefbpmdiaaS1
namespace Go.DL
set_option maxRecDepth 100000
set_option maxHeartbeats 2000000
set_option linter.unusedSimpArgs false
set_option linter.unusedVariables false
open Go.RowKit Go.Proofs Go.Proofs.Ythifncefbpmdiaa

theorem pureD_clean {d : D} (h : PureD d) : Clean d := by
  induction h with
  | sc v => exact .sc v
  | nil => exact .sl []
  | own e sz xs h ih => exact .own e sz xs ih
theorem PureL.clean {xs : List D} (h : PureL xs) : CleanL xs := fun d hd => pureD_clean (h d hd)
theorem pureL_map {α : Type} {f : α → D} (h : ∀ x, ∀ d ∈ (f x).fl, PureD d) (l : List α) : PureL (l.map f) := fun d hd => by
  obtain ⟨x, hx, hd⟩ := List.mem_flatMap.1 hd
  obtain ⟨y, _, rfl⟩ := List.mem_map.1 hx
  exact h y d hd
theorem pureL_append {a b : List D} (h : PureL a) (k : PureL b) : PureL (a ++ b) := fun d hd => by
  rw [fl_append] at hd
  exact (List.mem_append.1 hd).elim (h d) (k d)
theorem pureL_cons {x : D} {b : List D} (h : ∀ d ∈ x.fl, PureD d) (k : PureL b) : PureL (x :: b) := fun d hd => by
  rw [fl_cons] at hd
  exact (List.mem_append.1 hd).elim (h d) (k d)
theorem pureL_nil : PureL [] := fun d hd => by simp [fl] at hd
theorem pureL_rep {z : D} (n : Nat) (h : ∀ d ∈ z.fl, PureD d) : PureL (List.replicate n z) := fun d hd => by
  obtain ⟨x, hx, hd⟩ := List.mem_flatMap.1 hd
  rw [(List.mem_replicate.1 hx).2] at hd
  exact h d hd
theorem erase_flat {x : D} (h : FlatD x) : erase x = x := by
  cases x with
  | sc v => simp [erase]
  | agg fs =>
    have : eraseL fs = fs := by
      rw [eraseL_map]
      conv => rhs; rw [← List.map_id fs]
      refine List.map_congr_left fun f hf => ?_
      obtain ⟨v, rfl⟩ := h f hf
      simp [erase]
    simp [erase, this]
  | sl xs => exact h.elim
  | ref k m => exact h.elim
  | own e sz xs => exact h.elim
  | jk => exact h.elim
theorem eraseL_flat {xs : List D} (h : FlatL xs) : eraseL xs = xs := by
  rw [eraseL_map]
  conv => rhs; rw [← List.map_id xs]
  exact List.map_congr_left fun x hx => erase_flat (h x hx)
theorem eraseL_mapTo {α : Type} {f g : α → D} (h : ∀ x, erase (f x) = g x) (l : List α) : eraseL (l.map f) = l.map g := by
  rw [eraseL_map, List.map_map]
  exact List.map_congr_left fun x _ => h x
theorem flatL_map {α : Type} {f : α → D} (h : ∀ x, FlatD (f x)) (l : List α) : FlatL (l.map f) := fun d hd => by
  obtain ⟨y, _, rfl⟩ := List.mem_map.1 hd
  exact h y
theorem Contract.own_fr {P : Program} {f : FuncId} {as' : List A1} {A : Arr} (h : Contract P f as' (.one (.own A))) (hf : FlatL A.xs) : Contract P f as' (.one (.fr A)) := by
  refine ⟨h.ent, fun w M vs h1 h2 h3 => (h.run w M vs h1 h2 h3).mono fun e w' ⟨v, M', a, b, c, d, g, hp, cs, ho, hc, _⟩ => ⟨v, M', a, b, c, d, g, hp, cs, ho, hf.cells hc⟩⟩
theorem RVs.one {τ : Ab} {d d' : D} {u : List Nat} (h : RVc τ d d' u) : RVs τ [d] [d'] u := by
  have := RVs.cons h .nil
  simpa using this
theorem flat_plain {xs : List D} (h : FlatL xs) : plainL xs := fun d hd => by
  have := h.pure d hd
  cases this with
  | sc v => rfl
  | nil => rfl
  | own e sz ys h2 =>
    obtain ⟨x, hx, hd⟩ := List.mem_flatMap.1 hd
    have hf := h x hx
    cases x with
    | sc v => rw [List.mem_singleton.1 hd]; rfl
    | agg fs => obtain ⟨v, e⟩ := hf _ hd; cases e
    | sl ys => exact hf.elim
    | ref k m => exact hf.elim
    | own e z ys => exact hf.elim
    | jk => exact hf.elim

theorem node_flatD (x : NodeV) : FlatD x.dat := by
  intro f hf
  simp at hf
  rcases hf with rfl | rfl | rfl <;> exact ⟨_, rfl⟩
/-- A line whose list is its own. -/
def LineV.trd (x : LineV) : D := .agg [sD x.parent, sD x.part, iD x.quantity, iD x.start, iD x.stop, .own 176 3 (x.when.map NodeV.dat)]
theorem trd_pure (x : LineV) : ∀ d ∈ x.trd.fl, PureD d := by
  intro d hd
  simp [LineV.trd, D.fl] at hd
  rcases hd with rfl | rfl | rfl | rfl | rfl | rfl
  · exact .sc _
  · exact .sc _
  · exact .sc _
  · exact .sc _
  · exact .sc _
  · exact .own _ _ _ (flatL_map node_flatD _).pure
theorem trd_erase (x : LineV) : erase x.trd = x.dat := by
  simp [LineV.trd, LineV.dat, erase, eraseL, eraseL_flat (flatL_map node_flatD x.when)]

set_option maxHeartbeats 400000 in
theorem c_laws_toBillLineT (x : LineV) (hw : x.wt ≤ 1048576) (hx : x.ok) : Contract Try.prog 95 [.d x.dat] (.one (.tr x.trd)) := by
  have hw2 : wtL NodeV.wt x.when ≤ 1048576 := by unfold LineV.wt at hw; omega
  obtain ⟨_, _, _, _, _, hk⟩ := hx
  refine contract_byR [400000 + 124] hma hTa Try.func95 (by kernel_rfl) (by kernel_rfl) ?_
  conv => whnf
  refine CallK_intro (c_laws_toCondNodeS _ hw2 hk.2) ?_
  conv => whnf
  refine NeedK_intro rfl ?_
  conv => whnf
  exact ⟨rfl, rfl, rfl, rfl, rfl, rfl, rfl, rfl, rfl, flatL_map node_flatD _, trivial⟩

theorem zline_pure : ∀ d ∈ (D.agg [sD ⟨#[]⟩, sD ⟨#[]⟩, iD 0, iD 0, iD 0, .sl []]).fl, PureD d := by
  intro d hd
  simp [D.fl] at hd
  rcases hd with rfl | rfl | rfl
  · exact .sc _
  · exact .sc _
  · exact .nil
theorem trd_ok (x : LineV) (d : D) (hd : d ∈ x.trd.fl) : Clean d := pureD_clean (trd_pure x d hd)
set_option maxHeartbeats 400000 in
theorem c_laws_toBillLineST (l : List LineV) (hw : wtL LineV.wt l ≤ 1048576) (hok : ∀ v ∈ l, LineV.ok v) : Contract Try.prog 34 [.d (lD LineV.dat l)] (.one (.tr (.own 124 6 (l.map LineV.trd)))) := by
  have hlen : l.length ≤ 1048576 := Nat.le_trans wtL_len hw
  refine contract_byR [400000 + 51, 600000 + 95] hma hTa Try.func34 (by kernel_rfl) (by kernel_rfl) ?_
  conv => whnf
  have e1 : (List.map LineV.dat l).length = l.length := List.length_map _
  have e1' : (List.map LineV.trd l).length = l.length := List.length_map _
  refine MkK_intro l.length (by omega) (by omega) (by omega) ?_
  conv => whnf
  refine LoopK_introR [400000 + 51, 600000 + 95] hma hTa [(0, .pl), (2, .pl), (3, .tree 7), (4, .pl)] (fun i : Nat => ⟨[(0, .d (lD LineV.dat l)), (2, .nil), (3, .fv 7 l.length), (1000000 + 7, .fa ⟨124, 6, (l.take i).map LineV.trd ++ List.replicate (l.length - i) (.agg [sD ⟨#[]⟩, sD ⟨#[]⟩, iD 0, iD 0, iD 0, .sl []])⟩), (4, .d (iD i))], [(7, none)], []⟩) (fun i => i ≤ l.length) (fun i => l.length - i) (by kernel_rfl) ?_ ?_
  · conv => whnf
    refine ResK_same (pureL_rep _ zline_pure).noRef ?_
    conv => whnf
    refine NoRefK_intro (pureL_rep _ zline_pure).noRef ?_
    conv => whnf
    exact ⟨0, by omega, rfl⟩
  · intro i hi
    conv => whnf
    refine brLt (fun h => ?_) (fun h => ?_) <;> conv => whnf
    · refine IxK_mapLt _ rfl (by omega) (fun x hx => ?_)
      conv => whnf
      refine CallK_intro (c_laws_toBillLineT _ (Nat.le_trans (wtL_mem (get_mem hx)) hw) (hok _ (get_mem hx))) ?_
      conv => whnf
      refine NeedK_intro (trd_ok x) ?_
      conv => whnf
      refine IxA_intro i rfl (by omega) ?_
      conv => whnf
      have hpl : ((l.take i).map LineV.trd).length = i := by rw [List.length_map, List.length_take]; omega
      have hrp : List.replicate (l.length - i) (D.agg [sD ⟨#[]⟩, sD ⟨#[]⟩, iD 0, iD 0, iD 0, .sl []]) = .agg [sD ⟨#[]⟩, sD ⟨#[]⟩, iD 0, iD 0, iD 0, .sl []] :: List.replicate (l.length - (i + 1)) (.agg [sD ⟨#[]⟩, sD ⟨#[]⟩, iD 0, iD 0, iD 0, .sl []]) := by
        rw [show l.length - i = (l.length - (i + 1)) + 1 by omega]; rfl
      rw [hrp]
      refine setK_intro (by rw [List.length_append, List.length_cons]; omega) (set_mid hpl).symm ?_
      conv => whnf
      refine WrK_i64 (by omega) (by omega) ?_
      conv => whnf
      refine ResK_intro (U := [202005]) (xs' := (l.take i).map LineV.trd ++ x.trd :: List.replicate (l.length - (i + 1)) (.agg [sD ⟨#[]⟩, sD ⟨#[]⟩, iD 0, iD 0, iD 0, .sl []]))
        (RVL.app (RVL.same (pureL_map trd_pure _).noRef) (RVL.cons (x := .agg [sD x.parent, sD x.part, iD x.quantity, iD x.start, iD x.stop, .ref 202005 (x.when.map NodeV.dat).length]) (x' := x.trd) rfl (RVs.app (a := [sD x.parent, sD x.part, iD x.quantity, iD x.start, iD x.stop]) (RVs.same (fun d hd => by simp at hd; rcases hd with rfl | rfl | rfl | rfl | rfl <;> exact .sc _))
          (RVs.one (.reff 202005 _ ⟨176, 3, x.when.map NodeV.dat⟩ rfl (flatL_map node_flatD _).pure.noRef))) (RVL.same (pureL_rep _ zline_pure).noRef))) (by simp) (by simp) ?_
      conv => whnf
      refine NoRefK_intro (pureL_append (pureL_map trd_pure _) (pureL_cons (trd_pure x) (pureL_rep _ zline_pure))).noRef ?_
      conv => whnf
      have fin : (l.take (i + 1)).map LineV.trd ++ List.replicate (l.length - (i + 1)) (D.agg [sD ⟨#[]⟩, sD ⟨#[]⟩, iD 0, iD 0, iD 0, .sl []]) = (l.take i).map LineV.trd ++ x.trd :: List.replicate (l.length - (i + 1)) (.agg [sD ⟨#[]⟩, sD ⟨#[]⟩, iD 0, iD 0, iD 0, .sl []]) := by
        rw [List.take_add_one, hx]; simp
      exact ⟨i + 1, get_lt hx, (by show l.length - (i + 1) < l.length - i; omega), by dsimp only; rw [fin]; rfl⟩
    · have e2 : i = l.length := by omega
      subst e2
      rw [List.take_length, Nat.sub_self, List.replicate_zero, List.append_nil]
      exact ⟨rfl, rfl, e1'.symm, rfl, pureL_map trd_pure _⟩

end Go.DL
