/- Contracts of functions of the program, at this seat: what each call returns, by its arguments as data; each states its own conditions. -/
import Derived.Test.YthifncefbpmdiaaPG
namespace Go.DL
set_option maxRecDepth 100000
set_option maxHeartbeats 2000000
set_option linter.unusedSimpArgs false
set_option linter.unusedVariables false
open Go.RowKit Go.Proofs Go.Proofs.Ythifncefbpmdiaa

open Classical in
theorem need_congr {cat : List ItemV} {P : ItemV → Prop} {N M : Nat → Int} : ∀ {k : Nat}, (∀ j, j < k → M j = N j) → needL cat P M k = needL cat P N k
  | 0, _ => rfl
  | k + 1, h => by
    rw [needL, needL, need_congr (k := k) (fun j hj => h j (by omega)), h k (by omega)]
theorem low_zero {E : List EQ} {O : Nat → Prop} {a n : Nat} {q : Int} {N lev : Nat → Int} (h : PieceOK E O a n q N lev) : ∀ (m p : Nat), lev p < m → lev p < lev a → N p = 0
  | 0, p, hm, _ => by have := h.lo p; omega
  | m + 1, p, hm, hp => by
    rw [h.eqN p, show dlt a q p = 0 from if_neg (fun e => by rw [e] at hp; omega), Int.zero_add]
    refine sumI_zero fun e he => ?_
    split
    · rename_i h1
      have := h.st e he
      rw [h1.1] at this
      rw [low_zero h m e.1 (by omega) (by omega), Int.mul_zero]
    · rfl
theorem pieN_self {E : List EQ} {O : Nat → Prop} {a n : Nat} {q : Int} {N lev : Nat → Int} (h : PieceOK E O a n q N lev) : N a = q := by
  have h4 : partP E O (fun _ => True) N a = 0 := sumI_zero fun e he => by
    split
    · rename_i h1
      have h5 := h.st e he
      rw [h1.1] at h5
      have := h.hi e.1
      rw [low_zero h (n + 1) e.1 (by omega) h5, Int.mul_zero]
    · rfl
  rw [h.eqN a, h4, dlt, if_pos rfl, Int.add_zero]

theorem c_spec_l10Needs (cat : List ItemV) (hc : okL ItemV.ok cat) (h12 : cat.length ≤ 12) (M : Nat → Int) (r : Res)
    (hr : ((∀ j, j < cat.length → 0 ≤ M j) → r = .tup (.own ⟨146, 2, (needL cat (fun _ => True) M cat.length).map NeedV.dat⟩) [bD true]) ∧ (¬ (∀ j, j < cat.length → 0 ≤ M j) → r = .tup (.own ⟨146, 2, []⟩) [bD false])) :
    Contract Try.prog 107 [.d (lD ItemV.dat cat), .d (.sl (arrF cat.length M))] r := by
  refine contract_by hma hTa Try.func107 (by kernel_rfl) (by kernel_rfl) ?_
  have e1 : (List.map ItemV.dat cat).length = cat.length := List.length_map _
  have e2 : (arrF cat.length M).length = cat.length := arrF_len _ _
  conv => whnf
  refine LoopK_intro hma hTa [(0, .pl), (1, .pl), (6, .key 6), (7, .pl)] (fun i : Nat => ⟨[(0, .d (lD ItemV.dat cat)), (1, .d (.sl (arrF cat.length M))), (6, .av 6 (needL cat (fun _ => True) M i).length), (7, .d (iD i))], [(6, some ⟨146, 2, (needL cat (fun _ => True) M i).map NeedV.dat⟩)], []⟩) (fun i => i ≤ cat.length ∧ ∀ j, j < i → 0 ≤ M j) (fun i => cat.length - i) (by kernel_rfl) ?_ ?_
  · conv => whnf
    exact ⟨0, ⟨by omega, fun j hj => by omega⟩, rfl⟩
  · intro i ⟨hi, hpos⟩
    conv => whnf
    refine brLt (fun h => ?_) (fun h => ?_) <;> conv => whnf
    · have hil : i < cat.length := by omega
      obtain ⟨y, hy⟩ : ∃ y, cat[i]? = some y := ⟨cat[i], by simp⟩
      have hnl := need_len (cat := cat) (P := fun _ => True) (N := M) i
      refine IxK_arrF i rfl hil ?_
      conv => whnf
      refine brLt (fun h1 => ?_) (fun h1 => ?_) <;> conv => whnf
      · rw [hr.2 (fun h => by have := h i hil; omega)]
        exact ⟨⟨rfl, rfl, rfl, rfl⟩, rfl, trivial⟩
      have hp2 : ∀ j, j < i + 1 → 0 ≤ M j := fun j hj => by
        by_cases e : j = i
        · rw [e]; exact h1
        · exact hpos j (by omega)
      refine IxK_arrF i rfl hil ?_
      conv => whnf
      refine brLt (fun h2 => ?_) (fun h2 => ?_) <;> conv => whnf
      · have hy2 := need_y (P := fun _ => True) hy ⟨h2, trivial⟩
        refine IxK_map _ rfl hy ?_
        conv => whnf
        refine IxK_arrF i rfl hil ?_
        conv => whnf
        refine AppK_intro (n := (needL cat (fun _ => True) M i).length + 1) (xs' := (needL cat (fun _ => True) M (i + 1)).map NeedV.dat) rfl (by rw [hy2]; exact app_one rfl) (by omega) (by simp [NeedV.dat, D.width, Ty.width]) ?_
        conv => whnf
        refine WrK_i64 (by omega) (by omega) ?_
        conv => whnf
        exact ⟨i + 1, ⟨hil, hp2⟩, Nat.sub_lt_sub_left hil (Nat.lt_succ_self i), by dsimp only; rw [hy2, List.length_append]; rfl⟩
      · have hy2 := need_n (P := fun _ => True) (N := M) hy (fun h => by have := h.1; omega)
        refine WrK_i64 (by omega) (by omega) ?_
        conv => whnf
        exact ⟨i + 1, ⟨hil, hp2⟩, Nat.sub_lt_sub_left hil (Nat.lt_succ_self i), by dsimp only; rw [hy2]; rfl⟩
    · have ei : i = cat.length := by omega
      subst ei
      rw [hr.1 hpos]
      exact ⟨⟨rfl, rfl, by simp, rfl⟩, rfl, trivial⟩

set_option maxHeartbeats 4000000 in
theorem c_spec_Explosion0 (cat : List ItemV) (hc : okL ItemV.ok cat) (lines : List LineV) (hl : okL LineV.ok lines) (code : ByteArray) (q day : Int) (c : List PickV) (hp : okL PickV.ok c) (r : Res)
    (hr : (expP cat lines code q day c (fun _ => True) → r = .tup (.own ⟨146, 2, (expL cat lines code q day c (fun _ => True) (fun _ => True)).map NeedV.dat⟩) [bD true]) ∧ (¬ expP cat lines code q day c (fun _ => True) → r = .tup (.own ⟨146, 2, []⟩) [bD false])) :
    Contract Try.prog 57 [.d (lD ItemV.dat cat), .d (lD LineV.dat lines), .d (sD code), .d (iD q), .d (iD day), .d (lD PickV.dat c)] r := by
  refine contract_by hma hTa Try.func57 (by kernel_rfl) (by kernel_rfl) ?_
  have hl2 := hl
  obtain ⟨hlen, hok⟩ := hl2
  unfold expL expN at hr
  conv => whnf
  have e1 : (List.map ItemV.dat cat).length = cat.length := List.length_map _
  refine CallK_intro (c_spec_FindItem _ hc _) ?_
  conv => whnf
  refine CallK_tr (c_spec_IsBills _ hc _ hl) (fun hb => ?_) (fun hb => ?_) <;> conv => whnf
  rotate_left
  · rw [hr.2 (fun h => hb h.1)]; exact ⟨⟨rfl, rfl, rfl, rfl⟩, rfl, trivial⟩
  refine brLt (fun h1 => ?_) (fun h1 => ?_) <;> conv => whnf
  · rw [hr.2 (fun h => absurd (show 0 ≤ findP (fun y : ItemV => y.code = code) cat from h.2.1) (by omega))]; exact ⟨⟨rfl, rfl, rfl, rfl⟩, rfl, trivial⟩
  refine CallK_tr (c_spec_l1In q 0 100000) (fun h2 => ?_) (fun h2 => ?_) <;> conv => whnf
  rotate_left
  · rw [hr.2 (fun h => h2 h.2.2.1)]; exact ⟨⟨rfl, rfl, rfl, rfl⟩, rfl, trivial⟩
  have h24 := hb.2.1
  have h12 := hb.1.2
  have hq : 0 ≤ q ∧ q ≤ 100000 := h2
  have hA := act_ok hb day c
  obtain ⟨hia, hial⟩ := idx_nat (c := code) (cat := cat) h1
  have hqP : expP cat lines code q day c (fun _ => True) ↔ ∀ j, j < cat.length → pieN cat (activeN day c lines) (fun _ => True) (idxOf cat code).toNat q j ≤ 1000000000 := ⟨fun h => h.2.2.2, fun h => ⟨hb, h1, h2, h⟩⟩
  rw [hqP] at hr
  have hia2 : findP (fun y : ItemV => y.code = code) cat = ((idxOf cat code).toNat : Int) := hia
  rw [hia2]
  generalize (idxOf cat code).toNat = a at hial hr ⊢
  have hpc := c_spec_l10Down cat hc h12 lines hl h24 a hial q hq.1 hq.2 day c hp hA
  have hPk := pie_okL hA (fun _ => True) a hq.1
  have hself := pieN_self hPk
  have hnn := hPk.sol.nn
  generalize pieN cat (activeN day c lines) (fun _ => True) a q = N at hpc hself hnn hr
  have hiff : (∀ j, j < cat.length → 0 ≤ (if j = a then 0 else encN (N j))) ↔ ∀ j, j < cat.length → N j ≤ 1000000000 := by
    constructor
    · intro h j hj
      by_cases e : j = a
      · rw [e, hself]; omega
      · have := h j hj
        rw [if_neg e] at this
        rcases enc_cases (N j) with ⟨h3, _⟩ | ⟨_, h3⟩
        · exact h3
        · omega
    · intro h j hj
      split
      · omega
      · rw [enc_le (h j hj)]; exact hnn j
  refine CallK_intro hpc ?_
  conv => whnf
  refine takeK_full rfl ?_
  conv => whnf
  have hnd := c_spec_l10Needs cat hc h12 (fun j => if j = a then 0 else encN (N j))
  by_cases hN : ∀ j, j < cat.length → N j ≤ 1000000000
  · refine CallK_intro (hnd _ ⟨fun _ => rfl, fun h => absurd (hiff.2 hN) h⟩) ?_
    conv => whnf
    rw [hr.1 hN]
    rw [need_congr (k := cat.length) (N := fun j => if j = a then 0 else N j) (M := fun j => if j = a then 0 else encN (N j)) (fun j hj => by rw [enc_le (hN j hj)])]
    exact ⟨⟨rfl, rfl, rfl, rfl⟩, rfl, trivial⟩
  · refine CallK_intro (hnd _ ⟨fun h => absurd (hiff.1 h) hN, fun _ => rfl⟩) ?_
    conv => whnf
    rw [hr.2 hN]
    exact ⟨⟨rfl, rfl, rfl, rfl⟩, rfl, trivial⟩

end Go.DL
