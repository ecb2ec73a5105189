/- Contracts of functions of the program, at this seat: what each call returns, by its arguments as data; each states its own conditions. -/
import Derived.Test.YtamhoddnnifbiaaTB
import Derived.Test.YtamhoddnnifbiaaPB
namespace Go.DL
set_option maxRecDepth 100000
set_option maxHeartbeats 2000000
set_option linter.unusedSimpArgs false
set_option linter.unusedVariables false
open Go.RowKit Go.Proofs Go.Proofs.Ytamhoddnnifbiaa

/-- A line of which the list has been taken away. -/
def LineV.jkd (x : LineV) : D := .agg [sD x.parent, sD x.part, iD x.quantity, iD x.start, iD x.stop, .jk]
theorem jkd_noRef (l : List LineV) : NoRefL (l.map LineV.jkd) := fun d hd => by
  obtain ⟨y, hy, hd⟩ := List.mem_flatMap.1 hd
  obtain ⟨x, _, rfl⟩ := List.mem_map.1 hy
  simp [LineV.jkd, D.fl] at hd
  rcases hd with rfl | rfl | rfl | rfl | rfl | rfl
  · exact .sc _
  · exact .sc _
  · exact .sc _
  · exact .sc _
  · exact .sc _
  · exact .jk
theorem noRefL_append {a b : List D} (h : NoRefL a) (k : NoRefL b) : NoRefL (a ++ b) := fun d hd => by
  rw [fl_append] at hd
  exact (List.mem_append.1 hd).elim (h d) (k d)
theorem noRefL_cons {x : D} {b : List D} (h : ∀ d ∈ x.fl, NoRef d) (k : NoRefL b) : NoRefL (x :: b) := fun d hd => by
  rw [fl_cons] at hd
  exact (List.mem_append.1 hd).elim (h d) (k d)
theorem rvLine {τ : Ab} (x : LineV) {j m : Nat} (hB : τ.f j = some ⟨136, 3, x.when.map NodeV.dat⟩) : RVs τ [sD x.parent, sD x.part, iD x.quantity, iD x.start, iD x.stop, .ref j m] x.trd.fl [j] :=
  RVs.app (a := [sD x.parent, sD x.part, iD x.quantity, iD x.start, iD x.stop]) (RVs.same (fun d hd => by simp at hd; rcases hd with rfl | rfl | rfl | rfl | rfl <;> exact .sc _)) (RVs.one (.reff j m _ hB (flatL_map node_flatD _).pure.noRef))
theorem rvJk {τ : Ab} (x : LineV) {d : D} : RVs τ [sD x.parent, sD x.part, iD x.quantity, iD x.start, iD x.stop, d] x.jkd.fl [] :=
  RVs.app (a := [sD x.parent, sD x.part, iD x.quantity, iD x.start, iD x.stop]) (RVs.same (fun d hd => by simp at hd; rcases hd with rfl | rfl | rfl | rfl | rfl <;> exact .sc _)) (RVs.one (.jk d))
/-- One line has been appended. -/
theorem resLine {σ : St} {k j m : Nat} (pre : List LineV) (x : LineV) {K : List D → List Nat → Prop} (hB : σ.ab.f j = some ⟨136, 3, x.when.map NodeV.dat⟩) (hj : k ≠ j) (hK : K ((pre ++ [x]).map LineV.trd) [j]) :
    ResK σ k (pre.map LineV.trd ++ [.agg [sD x.parent, sD x.part, iD x.quantity, iD x.start, iD x.stop, .ref j m]]) K := by
  refine ResK_intro (U := [j]) (xs' := (pre ++ [x]).map LineV.trd) ?_ (by simp) (by simpa using hj) hK
  rw [List.map_append]
  exact RVL.app (RVL.same (pureL_map trd_pure _).noRef) (RVL.cons (x := .agg [sD x.parent, sD x.part, iD x.quantity, iD x.start, iD x.stop, .ref j m]) (x' := x.trd) (r := []) (r' := []) rfl (rvLine x hB) (RVL.same (xs := []) (fun d hd => by simp [fl] at hd)))
theorem okLine {a b : ByteArray} {c e f : Int} {j m : Nat} : ∀ d ∈ fl [D.agg [sD a, sD b, iD c, iD e, iD f, .ref j m]], okR d = true := fun d hd => by
  simp [fl, D.fl] at hd
  rcases hd with rfl | rfl | rfl | rfl | rfl | rfl <;> rfl
theorem app_mid {a b : List D} {m : Nat} (h : m = a.length) : a ++ b = a.take m ++ b := by rw [h, List.take_length]
theorem trd_len (l : List LineV) : (l.map LineV.trd).length = l.length := List.length_map _
/-- Lines are appended one by one. -/
theorem apLine {pre : List LineV} {n : Nat} {y : D} {K : Nat → List D → Prop} (h : n = pre.length) (hn : pre.length ≤ 1000) (hy : y.width = 6) (hK : K (pre.length + 1) (pre.map LineV.trd ++ [y])) : AppK (pre.map LineV.trd) n [y] 6 K :=
  AppK_intro (n := pre.length + 1) (xs' := pre.map LineV.trd ++ [y]) (by rw [h]; rfl) (app_mid (by rw [h, trd_len])) (by omega) (by simpa using hy) hK
theorem c_impl_copyLineT (x : LineV) (hc : x.when.length ≤ 1000) : Contract Try.prog 77 [.d x.dat] (.one (.tr x.trd)) := by
  refine contract_byR [400000 + 107] hma hTa Try.func77 (by kernel_rfl) (by kernel_rfl) ?_
  conv => whnf
  refine AppK_intro (n := x.when.length) (xs' := x.when.map NodeV.dat) (by simp) (by simp) (by omega) (wd fun _ => rfl) ?_
  conv => whnf
  refine NeedK_intro (by simp) ?_
  conv => whnf
  exact ⟨rfl, rfl, rfl, rfl, rfl, rfl, rfl, by simp, rfl, flatL_map node_flatD _, trivial⟩

theorem c_impl_copyLinesT (lines : List LineV) (hn : lines.length ≤ 100) (hcnd : ∀ x ∈ lines, isCondP x.when) : Contract Try.prog 82 [.d (lD LineV.dat lines)] (.one (.tr (.own 107 6 (lines.map LineV.trd)))) := by
  refine contract_byR [400000 + 45, 600000 + 77] hma hTa Try.func82 (by kernel_rfl) (by kernel_rfl) ?_
  conv => whnf
  have e2 : (List.map LineV.dat lines).length = lines.length := List.length_map _
  refine LoopK_introR [400000 + 45, 600000 + 77] hma hTa [(3, .tree 3), (7, .pl), (8, .pl), (9, .pl)] (fun i : Nat => ⟨[(3, .fv 3 (lines.take i).length), (1000000 + 3, .fa ⟨107, 6, (lines.take i).map LineV.trd⟩), (7, .d (lD LineV.dat lines)), (8, .d (iD (lines.map LineV.dat).length)), (9, .d (iD i))], [(3, none)], []⟩) (fun i => i ≤ lines.length) (fun i => lines.length - i) (by kernel_rfl) ?_ ?_
  · conv => whnf
    refine ResK_same (pureL_nil).noRef ?_
    conv => whnf
    refine NoRefK_intro (pureL_nil).noRef ?_
    conv => whnf
    exact ⟨0, by omega, rfl⟩
  · intro i hi
    conv => whnf
    refine brLt (fun h => ?_) (fun h => ?_) <;> conv => whnf
    · refine IxK_mapLt _ rfl (by omega) (fun x hx => ?_)
      conv => whnf
      have hil := get_lt hx
      refine CallK_intro (c_impl_copyLineT x (by have := (hcnd x (get_mem hx)).1; omega)) ?_
      conv => whnf
      refine NeedK_intro (trd_ok x) ?_
      conv => whnf
      refine NeedK_intro (by simp) ?_
      conv => whnf
      refine NeedK_intro rfl ?_
      conv => whnf
      refine NeedK_intro okLine ?_
      conv => whnf
      refine apLine rfl (by simp; omega) rfl ?_
      conv => whnf
      refine WrK_i64 (by omega) (by omega) ?_
      conv => whnf
      refine resLine (lines.take i) x rfl (by decide) ?_
      conv => whnf
      refine NoRefK_intro (pureL_map trd_pure _).noRef ?_
      conv => whnf
      exact ⟨i + 1, hil, Nat.sub_lt_sub_left hil (Nat.lt_succ_self i), by dsimp only; rw [take_snoc hx, List.length_append]; rfl⟩
    · rw [List.take_of_length_le (l := lines) (by omega)]
      exact ⟨rfl, rfl, by simp, rfl, pureL_map trd_pure _⟩

end Go.DL
