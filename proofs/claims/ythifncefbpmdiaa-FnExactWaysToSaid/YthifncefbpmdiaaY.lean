/- Contracts of functions of the program, at this seat: what each call returns, by its arguments as data; each states its own conditions. -/
import Derived.Test.YthifncefbpmdiaaW
namespace Go.DL
set_option maxRecDepth 100000
set_option maxHeartbeats 2000000
set_option linter.unusedSimpArgs false
set_option linter.unusedVariables false
open Go.RowKit Go.Proofs Go.Proofs.Ythifncefbpmdiaa

def onP (day : Int) (c : List PickV) (x : LineV) : Prop := x.start ≤ day ∧ day ≤ x.stop ∧ isCondP x.when ∧ evalN x.when c = true
noncomputable def onB (day : Int) (c : List PickV) (x : LineV) : Bool := tr (onP day c x)
noncomputable def activeN (day : Int) (c : List PickV) (lines : List LineV) : List LineV := lines.filter (onB day c)
theorem active_sub {day : Int} {c : List PickV} {lines : List LineV} : ∀ x ∈ activeN day c lines, x ∈ lines := fun x hx => (List.mem_filter.1 hx).1
theorem active_on {day : Int} {c : List PickV} {lines : List LineV} : ∀ x ∈ activeN day c lines, onP day c x := fun x hx => tr_iff.1 (List.mem_filter.1 hx).2
theorem active_len (day : Int) (c : List PickV) (lines : List LineV) : (activeN day c lines).length ≤ lines.length := List.length_filter_le _ _
theorem active_ok {day : Int} {c : List PickV} {lines : List LineV} (h : okL LineV.ok lines) : okL LineV.ok (activeN day c lines) := ⟨Nat.le_trans (active_len _ _ _) h.1, fun x hx => h.2 x (active_sub x hx)⟩
/-- The items by ascending levels. -/
noncomputable def ordRow (n : Nat) (f : Nat → Int) (v : Nat) : List Nat := (List.range n).filter (fun (i : Nat) => tr (f i = (v : Int)))
noncomputable def ordN (n : Nat) (f : Nat → Int) : List Nat := (List.range n).flatMap (ordRow n f)
abbrev nD (n : Nat) : D := iD (n : Int)
theorem range_get {n i : Nat} (h : i < n) : (List.range n)[i]? = some i := by simp [h]
/-- A number, or -1 if it is too large. -/
@[irreducible] def encN (w : Int) : Int := if w ≤ 1000000000 then w else -1
theorem enc_le {w : Int} (h : w ≤ 1000000000) : encN w = w := by unfold encN; exact if_pos h
theorem enc_gt {w : Int} (h : 1000000000 < w) : encN w = -1 := by unfold encN; exact if_neg (by omega)
theorem mul_ge {c x : Int} (hc : 1 ≤ c) (hx : 0 ≤ x) : x ≤ c * x := by
  have := Int.mul_nonneg (show 0 ≤ c - 1 by omega) hx
  rw [Int.sub_mul] at this
  omega

theorem c_impl_copyLine (x : LineV) (hx : x.ok) (hc : isCondP x.when) : Contract Try.prog 149 [.d x.dat] (.one (.d x.dat)) := by
  refine contract_by hma hTa Try.func149 (by kernel_rfl) (by kernel_rfl) ?_
  obtain ⟨k0, k1, k2, k3, k4, k5⟩ := hx
  have hc1 := hc.1
  conv => whnf
  refine AppK_intro (n := x.when.length) (xs' := x.when.map NodeV.dat) (by simp) (by simp) (by omega) (wd fun _ => rfl) ?_
  conv => whnf
  refine takeK_full (by simp) ?_
  conv => whnf
  exact rfl

set_option maxHeartbeats 4000000 in
theorem c_impl_inForce (lines : List LineV) (hl : okL LineV.ok lines) (hn : lines.length ≤ 100) (day : Int) (c : List PickV) (hc : okL PickV.ok c) : Contract Try.prog 104 [.d (lD LineV.dat lines), .d (iD day), .d (lD PickV.dat c)] (.one (.own ⟨124, 6, (activeN day c lines).map LineV.dat⟩)) := by
  refine contract_by hma hTa Try.func104 (by kernel_rfl) (by kernel_rfl) ?_
  obtain ⟨hlen, hok⟩ := hl
  conv => whnf
  have e2 : (List.map LineV.dat lines).length = lines.length := List.length_map _
  refine LoopK_intro hma hTa [(1, .pl), (2, .pl), (7, .key 7), (11, .pl), (12, .pl), (13, .pl)] (fun i : Nat => ⟨[(1, .d (iD day)), (2, .d (lD PickV.dat c)), (7, .av 7 (activeN day c (lines.take i)).length), (11, .d (lD LineV.dat lines)), (12, .d (iD (lines.map LineV.dat).length)), (13, .d (iD i))], [(7, some ⟨124, 6, (activeN day c (lines.take i)).map LineV.dat⟩)], []⟩) (fun i => i ≤ lines.length) (fun i => lines.length - i) (by kernel_rfl) ?_ ?_
  · conv => whnf
    exact ⟨0, by omega, rfl⟩
  · intro i hi
    conv => whnf
    refine brLt (fun h => ?_) (fun h => ?_) <;> conv => whnf
    · refine IxK_mapLt _ rfl (by omega) (fun x hx => ?_)
      conv => whnf
      have hil := get_lt hx
      have hxo := hok _ (get_mem hx)
      obtain ⟨k0, k1, k2, k3, k4, k5⟩ := hxo
      have hno : ¬ onP day c x → activeN day c (lines.take (i + 1)) = activeN day c (lines.take i) := fun hn => filter_n (f := onB day c) hx (tr_f hn)
      have done : ¬ onP day c x → ∃ a : Nat, a ≤ lines.length ∧ lines.length - a < lines.length - i ∧ (⟨[(1, .d (iD day)), (2, .d (lD PickV.dat c)), (7, .av 7 (activeN day c (lines.take i)).length), (11, .d (lD LineV.dat lines)), (12, .d (iD (lines.map LineV.dat).length)), (13, .d (iD ((i : Int) + 1)))], [(7, some ⟨124, 6, (activeN day c (lines.take i)).map LineV.dat⟩)], []⟩ : St) = ⟨[(1, .d (iD day)), (2, .d (lD PickV.dat c)), (7, .av 7 (activeN day c (lines.take a)).length), (11, .d (lD LineV.dat lines)), (12, .d (iD (lines.map LineV.dat).length)), (13, .d (iD a))], [(7, some ⟨124, 6, (activeN day c (lines.take a)).map LineV.dat⟩)], []⟩ := fun hn =>
        ⟨i + 1, hil, Nat.sub_lt_sub_left hil (Nat.lt_succ_self i), by rw [hno hn]; rfl⟩
      refine brLe (fun h1 => ?_) (fun h1 => ?_) <;> conv => whnf
      · refine brLe (fun h2 => ?_) (fun h2 => ?_) <;> conv => whnf
        · refine CallK_tr (c_impl_Holds _ k5 c hc) (fun h3 => ?_) (fun h3 => ?_) <;> conv => whnf
          · refine CallK_intro (c_impl_copyLine x (hok _ (get_mem hx)) h3.1) ?_
            conv => whnf
            have hy : activeN day c (lines.take (i + 1)) = activeN day c (lines.take i) ++ [x] := filter_y (f := onB day c) hx (tr_t ⟨h1, h2, h3⟩)
            have hal := active_len day c (lines.take i)
            have htl : (lines.take i).length ≤ lines.length := by simp; omega
            refine AppK_intro (n := (activeN day c (lines.take i)).length + 1) (xs' := (activeN day c (lines.take (i + 1))).map LineV.dat) rfl (by rw [hy]; exact app_one rfl) (by omega) (by simp [LineV.dat, D.width, Ty.width]) ?_
            conv => whnf
            refine WrK_i64 (by omega) (by omega) ?_
            conv => whnf
            exact ⟨i + 1, hil, Nat.sub_lt_sub_left hil (Nat.lt_succ_self i), by dsimp only; rw [hy, List.length_append]; rfl⟩
          · refine WrK_i64 (by omega) (by omega) ?_
            conv => whnf
            exact done (fun hp => h3 hp.2.2)
        · refine WrK_i64 (by omega) (by omega) ?_
          conv => whnf
          exact done (fun hp => by have := hp.2.1; omega)
      · refine WrK_i64 (by omega) (by omega) ?_
        conv => whnf
        exact done (fun hp => by have := hp.1; omega)
    · have ei : lines.take i = lines := List.take_of_length_le (by omega)
      rw [ei]
      exact ⟨rfl, rfl, by simp, rfl⟩

theorem c_spec_l9On (x : LineV) (hx : x.ok) (hcond : isCondP x.when) (day : Int) (c : List PickV) (hc : okL PickV.ok c) : Contract Try.prog 102 [.d x.dat, .d (iD day), .d (lD PickV.dat c)] (.one (.d (bD (tr (onP day c x))))) := by
  refine contract_by hma hTa Try.func102 (by kernel_rfl) (by kernel_rfl) ?_
  obtain ⟨k0, k1, k2, k3, k4, k5⟩ := hx
  conv => whnf
  refine brLe (fun h1 => ?_) (fun h1 => ?_) <;> conv => whnf
  · refine brLe (fun h2 => ?_) (fun h2 => ?_) <;> conv => whnf
    · refine CallK_intro (c_spec_l6Eval _ k5 hcond c hc) ?_
      conv => whnf
      exact bB ⟨fun h3 => ⟨h1, h2, hcond, h3⟩, fun h3 => h3.2.2.2⟩
    · exact bF (fun hp => by have := hp.2.1; omega)
  · exact bF (fun hp => by have := hp.1; omega)

theorem enc_cases (w : Int) : (w ≤ 1000000000 ∧ encN w = w) ∨ (1000000000 < w ∧ encN w = -1) := by
  unfold encN; split <;> omega

theorem c_spec_l10Times0 (w : Int) (hw : 0 ≤ w) (q : Int) (h1 : 1 ≤ q) (h2 : q ≤ 1000) (x r : Int) (hx : (w ≤ 1000000000 ∧ x = w) ∨ (1000000000 < w ∧ x = -1)) (hr : (w * q ≤ 1000000000 ∧ r = w * q) ∨ (1000000000 < w * q ∧ r = -1)) : Contract Try.prog 152 [.d (iD x), .d (iD q)] (.one (.d (iD r))) := by
  refine contract_by hma hTa Try.func152 (by kernel_rfl) (by kernel_rfl) ?_
  have hge := mul_ge h1 hw
  rw [Int.mul_comm] at hge
  conv => whnf
  refine brLt (fun h => ?_) (fun h => ?_)
  · conv => whnf
    rw [show r = -1 by omega]
  · conv => whnf
    refine brLt (fun h => absurd h (by omega)) (fun _ => ?_)
    conv => whnf
    have hxw : x = w := by omega
    refine brLt (fun h3 => ?_) (fun h3 => ?_)
    · conv => whnf
      refine NeedK_intro (by omega) ?_
      conv => whnf
      obtain ⟨d, hd⟩ : ∃ d, (1000000000 : Int).tdiv x = d := ⟨_, rfl⟩
      rw [hd]
      have hd2 : d = 1000000000 / w := by rw [← hd, hxw]; exact Int.tdiv_eq_ediv_of_nonneg (by decide)
      have hb : 0 ≤ (1000000000 : Int) / w ∧ (1000000000 : Int) / w ≤ 1000000000 := ⟨Int.ediv_nonneg (by omega) hw, Int.ediv_le_self _ (by omega)⟩
      have hle := Int.le_ediv_iff_mul_le (c := w) (a := q) (b := 1000000000) (by omega)
      rw [Int.mul_comm, ← hd2] at hle
      rw [← hd2] at hb
      refine WrK_i64 (by omega) (by omega) ?_
      conv => whnf
      refine brLt (fun h4 => ?_) (fun h4 => ?_)
      · conv => whnf
        have hn : 1000000000 < w * q := by
          rcases Int.lt_or_le 1000000000 (w * q) with h5 | h5
          · exact h5
          · have := hle.2 h5; omega
        rw [show r = -1 by omega]
      · have h5 := hle.1 h4
        have e5 : x * q = w * q := by rw [hxw]
        conv => whnf
        refine WrK_i64 (by omega) (by omega) ?_
        conv => whnf
        rw [show r = x * q by omega]
    · conv => whnf
      have h0 : x = 0 := by omega
      have e5 : x * q = 0 := by rw [h0, Int.zero_mul]
      have e6 : w * q = 0 := by rw [← hxw]; exact e5
      refine WrK_i64 (by omega) (by omega) ?_
      conv => whnf
      rw [show r = x * q by omega]
theorem c_spec_l10Times (w : Int) (hw : 0 ≤ w) (q : Int) (h1 : 1 ≤ q) (h2 : q ≤ 1000) : Contract Try.prog 152 [.d (iD (encN w)), .d (iD q)] (.one (.d (iD (encN (w * q))))) :=
  c_spec_l10Times0 w hw q h1 h2 _ _ (enc_cases w) (enc_cases (w * q))

theorem c_spec_l10Plus0 (a b : Int) (ha : 0 ≤ a) (hb : 0 ≤ b) (x y r : Int) (hx : (a ≤ 1000000000 ∧ x = a) ∨ (1000000000 < a ∧ x = -1)) (hy : (b ≤ 1000000000 ∧ y = b) ∨ (1000000000 < b ∧ y = -1)) (hr : (a + b ≤ 1000000000 ∧ r = a + b) ∨ (1000000000 < a + b ∧ r = -1)) : Contract Try.prog 151 [.d (iD x), .d (iD y)] (.one (.d (iD r))) := by
  refine contract_by hma hTa Try.func151 (by kernel_rfl) (by kernel_rfl) ?_
  conv => whnf
  refine brLt (fun h => ?_) (fun h => ?_)
  · conv => whnf
    rw [show r = -1 by omega]
  · conv => whnf
    refine brLt (fun h => ?_) (fun h => ?_)
    · conv => whnf
      rw [show r = -1 by omega]
    · conv => whnf
      refine WrK_i64 (by omega) (by omega) ?_
      conv => whnf
      refine brLt (fun h4 => ?_) (fun h4 => ?_)
      · conv => whnf
        rw [show r = -1 by omega]
      · conv => whnf
        refine WrK_i64 (by omega) (by omega) ?_
        conv => whnf
        rw [show r = x + y by omega]
theorem c_spec_l10Plus (a b : Int) (ha : 0 ≤ a) (hb : 0 ≤ b) : Contract Try.prog 151 [.d (iD (encN a)), .d (iD (encN b))] (.one (.d (iD (encN (a + b))))) :=
  c_spec_l10Plus0 a b ha hb _ _ _ (enc_cases a) (enc_cases b) (enc_cases (a + b))

set_option maxHeartbeats 4000000 in
theorem c_spec_l10Order (n : Nat) (hn : n ≤ 100) (f : Nat → Int) : Contract Try.prog 150 [.d (.sl (arrF n f))] (.one (.own ⟨3, 1, (ordN n f).map nD⟩)) := by
  refine contract_by hma hTa Try.func150 (by kernel_rfl) (by kernel_rfl) ?_
  conv => whnf
  have e2 := arrF_len n f
  have hrow : ∀ v, (ordRow n f v).length ≤ n := fun v => Nat.le_trans (List.length_filter_le _ _) (by simp)
  have hflat : ∀ v, (((List.range n).take v).flatMap (ordRow n f)).length ≤ 100 * 100 := fun v => Nat.le_trans (flat_bound (b := n) (fun x _ => hrow x)) (Nat.mul_le_mul (by simp; omega) hn)
  refine LoopK_intro hma hTa [(0, .pl), (3, .key 3), (4, .pl)] (fun v : Nat => ⟨[(0, .d (.sl (arrF n f))), (3, .av 3 (((List.range n).take v).flatMap (ordRow n f)).length), (4, .d (iD v))], [(3, some ⟨3, 1, (((List.range n).take v).flatMap (ordRow n f)).map nD⟩)], []⟩) (fun v => v ≤ n) (fun v => n - v) (by kernel_rfl) ?_ ?_
  · conv => whnf
    exact ⟨0, by omega, rfl⟩
  · intro v hv
    conv => whnf
    refine brLt (fun h => ?_) (fun h => ?_) <;> conv => whnf
    · have hvn : v < n := by omega
      have hsn := flat_snoc (f := ordRow n f) (range_get hvn)
      have hfv := hflat v
      generalize hX : ((List.range n).take v).flatMap (ordRow n f) = pre at hsn hfv ⊢
      refine LoopK_intro hma hTa [(0, .pl), (3, .key 3), (4, .pl), (5, .pl)] (fun i : Nat => ⟨[(0, .d (.sl (arrF n f))), (3, .av 3 (pre ++ ((List.range n).take i).filter (fun (i : Nat) => tr (f i = (v : Int)))).length), (4, .d (iD v)), (5, .d (iD i))], [(3, some ⟨3, 1, (pre ++ ((List.range n).take i).filter (fun (i : Nat) => tr (f i = (v : Int)))).map nD⟩)], []⟩) (fun i => i ≤ n) (fun i => n - i) (by kernel_rfl) ?_ ?_
      · conv => whnf
        exact ⟨0, by omega, by rw [List.take_zero, List.filter_nil, List.append_nil]; rfl⟩
      · intro i hi
        conv => whnf
        refine brLt (fun h2 => ?_) (fun h2 => ?_) <;> conv => whnf
        · have hin : i < n := by omega
          refine IxK_arrF i rfl hin ?_
          conv => whnf
          have hfl : (((List.range n).take i).filter (fun (i : Nat) => tr (f i = (v : Int)))).length ≤ n := Nat.le_trans (List.length_filter_le _ _) (by simp; omega)
          refine brEq (fun h3 => ?_) (fun h3 => ?_) <;> conv => whnf
          · have hy := filter_y (f := fun (i : Nat) => tr (f i = (v : Int))) (range_get hin) (tr_t h3)
            refine AppK_intro (n := (pre ++ ((List.range n).take i).filter (fun (i : Nat) => tr (f i = (v : Int)))).length + 1) (xs' := (pre ++ ((List.range n).take (i + 1)).filter (fun (i : Nat) => tr (f i = (v : Int)))).map nD) rfl (by rw [hy, ← List.append_assoc]; exact app_one rfl) (by simp only [List.length_append]; omega) (by simp [D.width, Ty.width]) ?_
            conv => whnf
            refine WrK_i64 (by omega) (by omega) ?_
            conv => whnf
            exact ⟨i + 1, hin, Nat.sub_lt_sub_left hin (Nat.lt_succ_self i), by dsimp only; rw [hy, ← List.append_assoc, List.length_append (bs := [i])]; rfl⟩
          · have hy := filter_n (f := fun (i : Nat) => tr (f i = (v : Int))) (range_get hin) (tr_f h3)
            refine WrK_i64 (by omega) (by omega) ?_
            conv => whnf
            exact ⟨i + 1, hin, Nat.sub_lt_sub_left hin (Nat.lt_succ_self i), by dsimp only; rw [hy]; rfl⟩
        · have ei : (List.range n).take i = List.range n := List.take_of_length_le (by simp; omega)
          rw [ei]
          change _ at hsn
          have hsn2 : List.flatMap (ordRow n f) (List.take (v + 1) (List.range n)) = pre ++ (List.range n).filter (fun (i : Nat) => tr (f i = (v : Int))) := hsn
          rw [← hsn2]
          refine WrK_i64 (by omega) (by omega) ?_
          conv => whnf
          exact ⟨v + 1, hvn, Nat.sub_lt_sub_left hvn (Nat.lt_succ_self v), rfl⟩
    · have ev : (List.range n).take v = List.range n := List.take_of_length_le (by simp; omega)
      rw [ev]
      exact ⟨rfl, rfl, by simp [ordN], rfl⟩

end Go.DL
