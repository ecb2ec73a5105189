/- Contracts of functions of the program, at this seat: what each call returns, by its arguments as data; each states its own conditions. -/
import Derived.Test.YthifncefbpmdiaaPI
namespace Go.DL
set_option maxRecDepth 100000
set_option maxHeartbeats 2000000
set_option linter.unusedSimpArgs false
set_option linter.unusedVariables false
open Go.RowKit Go.Proofs Go.Proofs.Ythifncefbpmdiaa

theorem c_spec_ExplosionV (cat : List ItemV) (hc : okL ItemV.ok cat) (lines : List LineV) (hl : okL LineV.ok lines) (code : ByteArray) (q : Int) (_ : okI q) (day : Int) (_ : okI day) (c : List PickV) (hp : okL PickV.ok c) :
    Contract Try.prog 57 [.d (lD ItemV.dat cat), .d (lD LineV.dat lines), .d (sD code), .d (iD q), .d (iD day), .d (lD PickV.dat c)] (.tup (.own ⟨146, 2, (explV cat lines code q day c).map NeedV.dat⟩) [bD (tr (expP cat lines code q day c (fun _ => True)))]) := by
  refine c_spec_Explosion0 cat hc lines hl code q day c hp _ ⟨fun h => ?_, fun h => ?_⟩
  · rw [tr_t h, show explV cat lines code q day c = _ from ifP_t h]
  · rw [tr_f h, show explV cat lines code q day c = _ from ifP_f h]; rfl

theorem need_congr2 {cat : List ItemV} {P Q : ItemV → Prop} {M N : Nat → Int} (h : ∀ k y, cat[k]? = some y → (0 < M k ∧ Q y ↔ 0 < N k ∧ P y) ∧ (0 < M k ∧ Q y → M k = N k)) : ∀ k, needL cat Q M k = needL cat P N k
  | 0 => rfl
  | k + 1 => by
    cases hy : cat[k]? with
    | none => rw [needL, needL, need_congr2 h k, hy]
    | some y =>
      obtain ⟨h1, h2⟩ := h k y hy
      by_cases h3 : 0 < M k ∧ Q y
      · rw [need_y hy h3, need_y hy (h1.1 h3), need_congr2 h k, h2 h3]
      · rw [need_n hy h3, need_n hy (fun h4 => h3 (h1.2 h4)), need_congr2 h k]
theorem msk_ph {cat : List ItemV} {a : Nat} {N : Nat → Int} {d : List Nat} {w : Nat → Int} {j : Nat} (h : j ∈ d ∧ j ≠ a ∧ phP cat j ∧ N j ≤ 1000000000) : mskN cat a N d w j = 0 := ifP_t h
theorem msk_np {cat : List ItemV} {a : Nat} {N : Nat → Int} {d : List Nat} {w : Nat → Int} {j : Nat} (h : ¬ (j ∈ d ∧ j ≠ a ∧ phP cat j ∧ N j ≤ 1000000000)) : mskN cat a N d w j = encN (w j) := ifP_f h
set_option maxHeartbeats 4000000 in
theorem c_spec_PartsOf0 (cat : List ItemV) (hc : okL ItemV.ok cat) (lines : List LineV) (hl : okL LineV.ok lines) (code : ByteArray) (q day : Int) (c : List PickV) (hp : okL PickV.ok c) (r : Res)
    (hr : (expP cat lines code q day c (fun x => x.kind = 2) → r = .tup (.own ⟨146, 2, (expL cat lines code q day c (fun x => x.kind = 2) (fun x => x.kind ≠ 2)).map NeedV.dat⟩) [bD true]) ∧ (¬ expP cat lines code q day c (fun x => x.kind = 2) → r = .tup (.own ⟨146, 2, []⟩) [bD false])) :
    Contract Try.prog 52 [.d (lD ItemV.dat cat), .d (lD LineV.dat lines), .d (sD code), .d (iD q), .d (iD day), .d (lD PickV.dat c)] r := by
  refine contract_by hma hTa Try.func52 (by kernel_rfl) (by kernel_rfl) ?_
  have hl2 := hl
  obtain ⟨hlen, hok⟩ := hl2
  unfold expL expN at hr
  conv => whnf
  have e1 : (List.map ItemV.dat cat).length = cat.length := List.length_map _
  refine CallK_intro (c_spec_FindItem _ hc _) ?_
  conv => whnf
  refine CallK_tr (c_spec_IsBills _ hc _ hl) (fun hb => ?_) (fun hb => ?_) <;> conv => whnf
  rotate_left
  · rw [hr.2 (fun h => hb h.1)]; exact ⟨⟨rfl, rfl, rfl, rfl⟩, rfl, trivial⟩
  refine brLt (fun h1 => ?_) (fun h1 => ?_) <;> conv => whnf
  · rw [hr.2 (fun h => absurd (show 0 ≤ findP (fun y : ItemV => y.code = code) cat from h.2.1) (by omega))]; exact ⟨⟨rfl, rfl, rfl, rfl⟩, rfl, trivial⟩
  refine CallK_tr (c_spec_l1In q 0 100000) (fun h2 => ?_) (fun h2 => ?_) <;> conv => whnf
  rotate_left
  · rw [hr.2 (fun h => h2 h.2.2.1)]; exact ⟨⟨rfl, rfl, rfl, rfl⟩, rfl, trivial⟩
  have h24 := hb.2.1
  have h12 := hb.1.2
  have hq : 0 ≤ q ∧ q ≤ 100000 := h2
  have hA := act_ok hb day c
  obtain ⟨hia, hial⟩ := idx_nat (c := code) (cat := cat) h1
  have hqP : expP cat lines code q day c (fun x => x.kind = 2) ↔ ∀ j, j < cat.length → pieN cat (activeN day c lines) (fun x => x.kind = 2) (idxOf cat code).toNat q j ≤ 1000000000 := ⟨fun h => h.2.2.2, fun h => ⟨hb, h1, h2, h⟩⟩
  rw [hqP] at hr
  have hia2 : findP (fun y : ItemV => y.code = code) cat = ((idxOf cat code).toNat : Int) := hia
  rw [hia2]
  generalize (idxOf cat code).toNat = a at hial hr ⊢
  have hpc := c_spec_l10DownP cat hc h12 lines hl h24 a hial q hq.1 hq.2 day c hp hA
  have hPk := pie_okL hA (fun x => x.kind = 2) a hq.1
  have hself := pieN_self hPk
  have hnn := hPk.sol.nn
  generalize pieN cat (activeN day c lines) (fun x => x.kind = 2) a q = N at hpc hself hnn hr
  have hiff : (∀ j, j < cat.length → 0 ≤ (if j = a then 0 else mskN cat a N (List.range cat.length) N j)) ↔ ∀ j, j < cat.length → N j ≤ 1000000000 := by
    constructor
    · intro h j hj
      by_cases e : j = a
      · rw [e, hself]; omega
      · have h5 := h j hj
        rw [if_neg e] at h5
        by_cases h6 : N j ≤ 1000000000
        · exact h6
        · rw [msk_np (fun h => h6 h.2.2.2)] at h5
          rcases enc_cases (N j) with ⟨h3, _⟩ | ⟨_, h3⟩
          · exact h3
          · omega
    · intro h j hj
      split
      · omega
      · by_cases h7 : j ∈ List.range cat.length ∧ j ≠ a ∧ phP cat j ∧ N j ≤ 1000000000
        · rw [msk_ph h7]; omega
        · rw [msk_np h7, enc_le (h j hj)]; exact hnn j
  refine CallK_intro hpc ?_
  conv => whnf
  refine takeK_full rfl ?_
  conv => whnf
  have hnd := c_spec_l10Needs cat hc h12 (fun j => if j = a then 0 else mskN cat a N (List.range cat.length) N j)
  by_cases hN : ∀ j, j < cat.length → N j ≤ 1000000000
  · refine CallK_intro (hnd _ ⟨fun _ => rfl, fun h => absurd (hiff.2 hN) h⟩) ?_
    conv => whnf
    rw [hr.1 hN]
    rw [need_congr2 (P := fun x => x.kind ≠ 2) (Q := fun _ => True) (N := fun j => if j = a then 0 else N j) (M := fun j => if j = a then 0 else mskN cat a N (List.range cat.length) N j) (fun k y hy => by
      have hkl := get_lt hy
      by_cases e : k = a
      · rw [if_pos e, if_pos e]; exact ⟨⟨fun h => absurd h.1 (by omega), fun h => absurd h.1 (by omega)⟩, fun _ => rfl⟩
      · rw [if_neg e, if_neg e]
        by_cases h8 : y.kind = 2
        · rw [msk_ph ⟨List.mem_range.2 hkl, e, ⟨y, hy, h8⟩, hN k hkl⟩]
          exact ⟨⟨fun h => absurd h.1 (by omega), fun h => absurd h8 h.2⟩, fun h => absurd h.1 (by omega)⟩
        · rw [msk_np (fun h => by obtain ⟨z, hz, hz2⟩ := h.2.2.1; rw [hy] at hz; cases hz; exact h8 hz2), enc_le (hN k hkl)]
          exact ⟨⟨fun h => ⟨h.1, h8⟩, fun h => ⟨h.1, trivial⟩⟩, fun _ => rfl⟩) cat.length]
    exact ⟨⟨rfl, rfl, rfl, rfl⟩, rfl, trivial⟩
  · refine CallK_intro (hnd _ ⟨fun h => absurd (hiff.1 h) hN, fun _ => rfl⟩) ?_
    conv => whnf
    rw [hr.2 hN]
    exact ⟨⟨rfl, rfl, rfl, rfl⟩, rfl, trivial⟩
theorem c_spec_PartsOfV (cat : List ItemV) (hc : okL ItemV.ok cat) (lines : List LineV) (hl : okL LineV.ok lines) (code : ByteArray) (q : Int) (_ : okI q) (day : Int) (_ : okI day) (c : List PickV) (hp : okL PickV.ok c) :
    Contract Try.prog 52 [.d (lD ItemV.dat cat), .d (lD LineV.dat lines), .d (sD code), .d (iD q), .d (iD day), .d (lD PickV.dat c)] (.tup (.own ⟨146, 2, (partsV cat lines code q day c).map NeedV.dat⟩) [bD (tr (expP cat lines code q day c (fun x => x.kind = 2)))]) := by
  refine c_spec_PartsOf0 cat hc lines hl code q day c hp _ ⟨fun h => ?_, fun h => ?_⟩
  · rw [tr_t h, show partsV cat lines code q day c = _ from ifP_t h]
  · rw [tr_f h, show partsV cat lines code q day c = _ from ifP_f h]; rfl

end Go.DL
