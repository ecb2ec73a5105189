/- Contracts of functions of the program, at this seat: what each call returns, by its arguments as data; each states its own conditions. -/
import Derived.Test.YtjhjedfnjimflaaPM
import Derived.Test.YtjhjedfnjimflaaPN
namespace Go.DL
set_option maxRecDepth 100000
set_option maxHeartbeats 2000000
set_option linter.unusedSimpArgs false
set_option linter.unusedVariables false
open Go.RowKit Go.Proofs Go.Proofs.Ytjhjedfnjimflaa

/-! All ways together are what the part is taken. -/
def sumL (l : List Int) : Int := sumI (fun v : Int => v) l
theorem sumL_app (l m : List Int) : sumL (l ++ m) = sumL l + sumL m := sumI_append _ _ _
theorem sumL_flat {α : Type} (g : α → List Int) : ∀ l : List α, sumL (l.flatMap g) = sumI (fun x => sumL (g x)) l
  | [] => rfl
  | x :: l => by rw [List.flatMap_cons, sumL_app, sumI_cons, sumL_flat g l]
theorem min_cap {M q : Int} (hM : 0 ≤ M) (hq : 1 ≤ q) : min (min M 1000000001 * q) 1000000001 = min (M * q) 1000000001 := by
  by_cases h : M ≤ 1000000001
  · rw [show min M 1000000001 = M by omega]
  · rw [show min M 1000000001 = 1000000001 by omega]
    have h1 : 1000000001 * 1 ≤ 1000000001 * q := Int.mul_le_mul_of_nonneg_left hq (by omega)
    have h2 : 1000000001 * q ≤ M * q := Int.mul_le_mul_of_nonneg_right (by omega) (by omega)
    omega
theorem sumI_mul {α : Type} {M : Int} {f : α → Int} : ∀ l : List α, sumI (fun x => M * f x) l = M * sumI f l
  | [] => by simp [sumI]
  | x :: l => by rw [sumI_cons, sumI_cons, sumI_mul l, Int.mul_add]
theorem way_nn {act : List LineV} {to : ByteArray} (hq : ∀ x ∈ act, 1 ≤ x.quantity) : ∀ (k : Nat) (s : ByteArray) (m : Int), 0 ≤ m → ∀ v ∈ wayL act to k s m, 0 ≤ v
  | 0, _, _, _, v, hv => by simp [wayL] at hv
  | k + 1, s, m, hm, v, hv => by
    by_cases h : s = to
    · rw [wayL_y h] at hv
      rw [List.mem_singleton.1 hv]; exact hm
    · rw [wayL_n h, wayI] at hv
      obtain ⟨x, hx, hv⟩ := List.mem_flatMap.1 hv
      split at hv
      · have h1 := hq x (List.mem_of_mem_take hx)
        have h2 := Int.mul_nonneg hm (by omega : 0 ≤ x.quantity)
        exact way_nn hq k x.part _ (by omega) v hv
      · simp at hv
theorem way_sum {cat : List ItemV} {lines : List LineV} {day : Int} {c : List PickV} (hb : isBillsP cat lines) {i : Nat} {y : ItemV} (hy : cat[i]? = some y) (f : ByteArray → Nat) (hf : ∀ x ∈ activeN day c lines, f x.part < f x.parent) :
    ∀ (k : Nat) (s : ByteArray) (M : Int), f s < k → 0 ≤ idxOf cat s → 0 ≤ M → (∀ v ∈ wayL (activeN day c lines) y.code k s (min M 1000000001), v ≤ 1000000000) →
      sumL (wayL (activeN day c lines) y.code k s (min M 1000000001)) = M * qtyS cat lines y.code day c (idxOf cat s).toNat
  | 0, _, _, h, _, _, _ => by omega
  | k + 1, s, M, hk, hs, hM, hv => by
    have hA := act_ok hb day c
    have hsol : SolW (edQ cat (activeN day c lines)) (idxOf cat y.code).toNat (levOf cat lines) (qtyS cat lines y.code day c) := hA.sol _
    have hii := idx_self hb.1 hy
    have hse := sol_all (s := s) (day := day) (c := c) hb y.code (idxOf cat s).toNat
    by_cases h : s = y.code
    · rw [wayL_y h] at hv ⊢
      have h1 := hv _ (List.mem_singleton.2 rfl)
      have e : (idxOf cat s).toNat = (idxOf cat y.code).toNat := by rw [h]
      rw [e, hsol.at_b, Int.mul_one]
      unfold sumL
      rw [sumI_cons]
      have : sumI (fun v : Int => v) [] = 0 := rfl
      omega
    · rw [wayL_n h] at hv ⊢
      have hne : ¬ (idxOf cat s).toNat = (idxOf cat y.code).toNat := fun e => h ((idx_code hb.1 hy hs).2 (by rw [e, hii]; simp))
      rw [if_neg hne, Int.zero_add] at hse
      rw [hse]
      unfold wayI at hv ⊢
      rw [List.take_length] at hv ⊢
      rw [sumL_flat, partW, edQ, sumI_map, ← sumI_mul]
      refine sumI_congr fun x hx => ?_
      have hl := hA.line x (hA.sub x hx)
      have hin := linesIn_of hA.line x (hA.sub x hx)
      have hq : 1 ≤ x.quantity ∧ x.quantity ≤ 1000 := hl.2.2.2.1
      have hpe : x.parent = s ↔ (idxOf cat x.parent).toNat = (idxOf cat s).toNat := by
        obtain ⟨z, hz1, hz2⟩ := idx_at hs
        have := idx_code hb.1 hz1 hin.1
        rw [hz2] at this
        exact this
      by_cases hp : x.parent = s
      · rw [if_pos hp, if_pos (hpe.1 hp), min_cap hM hq.1]
        have hfx := hf x hx
        rw [hp] at hfx
        rw [way_sum hb hy f hf k x.part (M * x.quantity) (by omega) hin.2 (Int.mul_nonneg hM (by omega)) (fun v hv2 => hv v (List.mem_flatMap.2 ⟨x, hx, by rw [if_pos hp, min_cap hM hq.1]; exact hv2⟩)), Int.mul_assoc]
      · rw [if_neg hp, if_neg (fun e => hp (hpe.2 e)), Int.mul_zero]; rfl
noncomputable def wayS (cat : List ItemV) (lines : List LineV) (code part : ByteArray) (day : Int) (c : List PickV) : List Int := wayL (activeN day c lines) part (cat.length + 1) code 1
def wayP (cat : List ItemV) (lines : List LineV) (code part : ByteArray) (day : Int) (c : List PickV) : Prop := isBillsP cat lines ∧ 0 ≤ idxOf cat code ∧ 0 ≤ idxOf cat part ∧ lines.length ≤ 12 ∧ okW 0 (wayS cat lines code part day c)
noncomputable def wayF (cat : List ItemV) (lines : List LineV) (s : ByteArray) : Nat := ((cat.length : Int) - levOf cat lines (idxOf cat s).toNat).toNat
theorem wayF_ok {cat : List ItemV} {lines act : List LineV} (h : ActOK cat lines act) : (∀ s, wayF cat lines s < cat.length + 1) ∧ ∀ x ∈ act, wayF cat lines x.part < wayF cat lines x.parent := by
  have hlo : ∀ j, 0 ≤ levOf cat lines j := fun j => (tight_lev _ _).1 j
  have hhi : ∀ j, levOf cat lines j ≤ cat.length := fun j => lev_small (edges_lt (linesIn_of h.line)) h.acyc j
  refine ⟨fun s => ?_, fun x hx => ?_⟩
  · have := hlo (idxOf cat s).toNat
    unfold wayF; omega
  · have h1 := h.strict ((idxOf cat x.parent).toNat, (idxOf cat x.part).toNat, x.quantity) (List.mem_map.2 ⟨x, hx, rfl⟩)
    have h2 := hhi (idxOf cat x.part).toNat
    unfold wayF
    dsimp only at h1
    omega
theorem wayS_sum {cat : List ItemV} {lines : List LineV} {code : ByteArray} {day : Int} {c : List PickV} {i : Nat} {y : ItemV} (hy : cat[i]? = some y) (h : wayP cat lines code y.code day c) : sumL (wayS cat lines code y.code day c) = qtyS cat lines y.code day c (idxOf cat code).toNat := by
  obtain ⟨hb, h1, h2, h3, h4⟩ := h
  have hw := wayF_ok (act_ok hb day c)
  have := way_sum hb hy (wayF cat lines) hw.2 (cat.length + 1) code 1 (hw.1 code) h1 (by omega) h4.1
  rw [Int.one_mul] at this
  exact this
theorem wayS_nn {cat : List ItemV} {lines : List LineV} {code part : ByteArray} {day : Int} {c : List PickV} (hb : isBillsP cat lines) : ∀ v ∈ wayS cat lines code part day c, 0 ≤ v :=
  way_nn (fun x hx => by have := ((act_ok hb day c).line x ((act_ok hb day c).sub x hx)).2.2.2.1; exact this.1) _ _ _ (by omega)

theorem c_laws_sum (l : List Int) (hl : l.length ≤ 200) (hv : ∀ v ∈ l, 0 ≤ v ∧ v ≤ 1000000000) : Contract Try.prog 70 [.d (lD iD l)] (.one (.d (iD (sumL l)))) := by
  refine contract_by hma hTa Try.func70 (by kernel_rfl) (by kernel_rfl) ?_
  have e1 : (List.map iD l).length = l.length := List.length_map _
  conv => whnf
  refine LoopK_intro hma hTa [(0, .pl), (3, .pl), (4, .pl)] (fun i : Nat => ⟨[(0, .d (lD iD l)), (3, .d (iD (sumL (l.take i)))), (4, .d (iD i))], [], []⟩) (fun i => i ≤ l.length) (fun i => l.length - i) (by kernel_rfl) ?_ ?_
  · conv => whnf
    exact ⟨0, by omega, rfl⟩
  · intro i hi
    conv => whnf
    have hb := sumI_bound_take (f := fun v : Int => v) hv i
    have htl : (l.take i).length ≤ 200 := by rw [List.length_take]; omega
    refine brLt (fun h => ?_) (fun h => ?_) <;> conv => whnf
    · refine IxK_mapLt _ rfl (by omega) (fun x hx => ?_)
      conv => whnf
      have hil := get_lt hx
      have hxq := hv x (get_mem hx)
      have hst : sumL (l.take (i + 1)) = sumL (l.take i) + x := sumI_take hx
      have hb2 : 0 ≤ sumL (l.take i) ∧ sumL (l.take i) ≤ (l.take i).length * 1000000000 := hb
      refine WrK_i64 (by omega) (by omega) ?_
      conv => whnf
      refine WrK_i64 (by omega) (by omega) ?_
      conv => whnf
      exact ⟨i + 1, hil, Nat.sub_lt_sub_left hil (Nat.lt_succ_self i), by dsimp only; rw [hst]; rfl⟩
    · rw [List.take_of_length_le (l := l) (by omega)]

set_option maxHeartbeats 4000000 in
theorem c_impl_WaysTo (cat : List ItemV) (hc : okL ItemV.ok cat) (lines : List LineV) (hl : okL LineV.ok lines) (code part : ByteArray) (day : Int) (c : List PickV) (hp : okL PickV.ok c) (r : Res)
    (hr : (wayP cat lines code part day c → r = .tup (.own ⟨3, 1, (wayS cat lines code part day c).map iD⟩) [bD true]) ∧ (¬ wayP cat lines code part day c → r = .tup (.d (.sl [])) [bD false])) :
    Contract Try.prog 69 [.d (lD ItemV.dat cat), .d (lD LineV.dat lines), .d (sD code), .d (sD part), .d (iD day), .d (lD PickV.dat c)] r := by
  refine contract_byR [300000 + 137] hma hTa Try.func69 (by kernel_rfl) (by kernel_rfl) ?_
  have hl2 := hl
  obtain ⟨hlen, hok⟩ := hl2
  conv => whnf
  have e1 : (List.map ItemV.dat cat).length = cat.length := List.length_map _
  have e2 : (List.map LineV.dat lines).length = lines.length := List.length_map _
  refine CallK_tr (c_impl_IsBills _ hc _ hl) (fun hb => ?_) (fun hb => ?_) <;> conv => whnf
  rotate_left
  · rw [hr.2 (fun h => hb h.1)]; exact ⟨rfl, rfl, trivial⟩
  refine CallK_intro (c_impl_FindItem _ hc _) ?_
  conv => whnf
  refine brLt (fun h1 => ?_) (fun h1 => ?_) <;> conv => whnf
  · rw [hr.2 (fun h => absurd (show 0 ≤ findP (fun y : ItemV => y.code = code) cat from h.2.1) (by omega))]; exact ⟨rfl, rfl, trivial⟩
  refine CallK_intro (c_impl_FindItem _ hc _) ?_
  conv => whnf
  refine brLt (fun h2 => ?_) (fun h2 => ?_) <;> conv => whnf
  · rw [hr.2 (fun h => absurd (show 0 ≤ findP (fun y : ItemV => y.code = part) cat from h.2.2.1) (by omega))]; exact ⟨rfl, rfl, trivial⟩
  refine brLt (fun h3 => ?_) (fun h3 => ?_) <;> conv => whnf
  · rw [hr.2 (fun h => absurd h.2.2.2.1 (by omega))]; exact ⟨rfl, rfl, trivial⟩
  have h24 := hb.2.1
  have hA := act_ok hb day c
  have hal := active_len day c lines
  have hao := active_ok (day := day) (c := c) hl
  have hw := wayF_ok hA
  have hwP : wayP cat lines code part day c ↔ okW 0 (wayS cat lines code part day c) := ⟨fun h => h.2.2.2.2, fun h => ⟨hb, h1, h2, by omega, h⟩⟩
  rw [hwP] at hr
  have hwc := c_impl_ways (activeN day c lines) hao (by omega) (fun x hx => (hA.line x (hA.sub x hx)).2.2.2.1) part (wayF cat lines) hw.2 (cat.length + 1) code 1 []
  refine CallK_intro (c_impl_inForce lines hl (by omega) day c hp) ?_
  conv => whnf
  refine takeK_full rfl ?_
  conv => whnf
  refine NeedK_intro rfl ?_
  conv => whnf
  have hkf := hw.1 code
  by_cases hW : okW 0 (wayS cat lines code part day c)
  · refine MCallK_intro (hwc _ true hkf (by omega) (by omega) (by decide) ⟨fun _ => ⟨rfl, rfl⟩, fun h => absurd hW h⟩) ?_
    conv => whnf
    rw [hr.1 hW]
    exact ⟨⟨rfl, rfl, by rw [List.length_map], rfl⟩, rfl, trivial⟩
  · refine MCallK_intro (hwc _ false hkf (by omega) (by omega) (by decide) ⟨fun h => absurd h hW, fun _ => ⟨rfl, rfl⟩⟩) ?_
    conv => whnf
    rw [hr.2 hW]
    exact ⟨rfl, rfl, trivial⟩

end Go.DL
