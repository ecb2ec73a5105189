/- Contracts of functions of the program, at this seat: what each call returns, by its arguments as data; each states its own conditions. -/
import Derived.Test.YthifncefbpmdiaaPE
import Derived.Test.YthifncefbpmdiaaS1
import Derived.Test.YthifncefbpmdiaaTA
namespace Go.DL
set_option maxRecDepth 100000
set_option maxHeartbeats 2000000
set_option linter.unusedSimpArgs false
set_option linter.unusedVariables false
open Go.RowKit Go.Proofs Go.Proofs.Ythifncefbpmdiaa

theorem need_flat (l : List NeedV) : FlatL (l.map NeedV.dat) := flatL_map (fun x => by intro f hf; simp at hf; rcases hf with rfl | rfl <;> exact ⟨_, rfl⟩) l
theorem need_mem {cat : List ItemV} {P : ItemV → Prop} {N : Nat → Int} {x : NeedV} : ∀ {k : Nat}, x ∈ needL cat P N k → ∃ j y, j < k ∧ cat[j]? = some y ∧ x = ⟨y.code, N j⟩ ∧ 0 < N j
  | 0, h => by simp [needL] at h
  | k + 1, h => by
    rw [needL] at h
    rcases List.mem_append.1 h with h | h
    · obtain ⟨j, y, h1, h2⟩ := need_mem h
      exact ⟨j, y, by omega, h2⟩
    · split at h
      · rename_i y hy
        split at h
        · rename_i h1
          exact ⟨k, y, by omega, hy, List.mem_singleton.1 h, h1.1⟩
        · simp at h
      · simp at h

theorem c_impl_Explosion1 (x : ItemV) (hx : x.ok) : Contract Try.prog 115 [.d x.dat] (.one (.d (bD (tr True)))) := by
  refine contract_by hma hTa Try.func115 (by kernel_rfl) (by kernel_rfl) ?_
  rw [tr_t trivial]
  conv => whnf

noncomputable def expN (cat : List ItemV) (lines : List LineV) (code : ByteArray) (q day : Int) (c : List PickV) (Op : ItemV → Prop) : Nat → Int := pieN cat (activeN day c lines) Op (idxOf cat code).toNat q
def expP (cat : List ItemV) (lines : List LineV) (code : ByteArray) (q day : Int) (c : List PickV) (Op : ItemV → Prop) : Prop := isBillsP cat lines ∧ 0 ≤ idxOf cat code ∧ inP q 0 100000 ∧ ∀ j, j < cat.length → expN cat lines code q day c Op j ≤ 1000000000
noncomputable def expL (cat : List ItemV) (lines : List LineV) (code : ByteArray) (q day : Int) (c : List PickV) (Op P : ItemV → Prop) : List NeedV := needL cat P (fun j => if j = (idxOf cat code).toNat then 0 else expN cat lines code q day c Op j) cat.length



set_option maxHeartbeats 4000000 in
theorem c_impl_Explosion0f (cat : List ItemV) (hc : okL ItemV.ok cat) (lines : List LineV) (hl : okL LineV.ok lines) (code : ByteArray) (q day : Int) (c : List PickV) (hp : okL PickV.ok c) (r : Res)
    (hr : (expP cat lines code q day c (fun _ => True) → r = .tup (.fr ⟨146, 2, (expL cat lines code q day c (fun _ => True) (fun _ => True)).map NeedV.dat⟩) [bD true]) ∧ (¬ expP cat lines code q day c (fun _ => True) → r = .tup (.fr ⟨146, 2, []⟩) [bD false])) :
    Contract Try.prog 58 [.d (lD ItemV.dat cat), .d (lD LineV.dat lines), .d (sD code), .d (iD q), .d (iD day), .d (lD PickV.dat c)] r := by
  refine contract_by hma hTa Try.func58 (by kernel_rfl) (by kernel_rfl) ?_
  have hl2 := hl
  obtain ⟨hlen, hok⟩ := hl2
  unfold expL expN at hr
  conv => whnf
  have e1 : (List.map ItemV.dat cat).length = cat.length := List.length_map _
  refine CallK_intro (c_impl_FindItem _ hc _) ?_
  conv => whnf
  refine CallK_tr (c_impl_IsBills _ hc _ hl) (fun hb => ?_) (fun hb => ?_) <;> conv => whnf
  rotate_left
  · rw [hr.2 (fun h => hb h.1)]; exact ⟨⟨rfl, by omega⟩, rfl, trivial⟩
  refine brLt (fun h1 => ?_) (fun h1 => ?_) <;> conv => whnf
  · rw [hr.2 (fun h => absurd (show 0 ≤ findP (fun y : ItemV => y.code = code) cat from h.2.1) (by omega))]; exact ⟨⟨rfl, by omega⟩, rfl, trivial⟩
  refine CallK_tr (c_impl_in q 0 100000) (fun h2 => ?_) (fun h2 => ?_) <;> conv => whnf
  rotate_left
  · rw [hr.2 (fun h => h2 h.2.2.1)]; exact ⟨⟨rfl, by omega⟩, rfl, trivial⟩
  have h24 := hb.2.1
  have h12 := hb.1.2
  have hq : 0 ≤ q ∧ q ≤ 100000 := h2
  refine CallK_intro (c_impl_inForce lines hl (by omega) day c hp) ?_
  conv => whnf
  have hA := act_ok hb day c
  have hal := active_len day c lines
  have hao := active_ok (day := day) (c := c) hl
  obtain ⟨hia, hial⟩ := idx_nat (c := code) (cat := cat) h1
  have hqP : expP cat lines code q day c (fun _ => True) ↔ ∀ j, j < cat.length → pieN cat (activeN day c lines) (fun _ => True) (idxOf cat code).toNat q j ≤ 1000000000 := ⟨fun h => h.2.2.2, fun h => ⟨hb, h1, h2, h⟩⟩
  rw [hqP] at hr
  have hia2 : findP (fun y : ItemV => y.code = code) cat = ((idxOf cat code).toNat : Int) := hia
  rw [hia2]
  generalize (idxOf cat code).toNat = a at hial hr ⊢
  generalize activeN day c lines = act at hA hal hao hr ⊢
  have hpc := c_impl_pieces cat hc h12 act hao (by omega) hA.self a hial q hq.1 hq.2 115 (fun _ => True) c_impl_Explosion1
  refine takeK_full rfl ?_
  conv => whnf
  by_cases hN : ∀ j, j < cat.length → pieN cat act (fun _ => True) a q j ≤ 1000000000
  · refine CallK_intro (hpc _ ⟨fun _ => rfl, fun h => absurd hN h⟩) ?_
    conv => whnf
    refine takeK_full rfl ?_
    conv => whnf
    refine CallK_intro (c_impl_needs cat hc h12 _ _ 115 (fun _ => True) (fun _ => True) c_impl_Explosion1 (fun _ _ _ => ⟨Iff.rfl, fun _ => rfl⟩)) ?_
    conv => whnf
    rw [hr.1 hN]
    exact ⟨⟨rfl, rfl, rfl, rfl, need_flat _⟩, rfl, trivial⟩
  · refine CallK_intro (hpc _ ⟨fun h => absurd h hN, fun _ => rfl⟩) ?_
    conv => whnf
    rw [hr.2 hN]
    exact ⟨⟨rfl, by omega⟩, rfl, trivial⟩



theorem c_impl_PartsOf1 (x : ItemV) (hx : x.ok) : Contract Try.prog 111 [.d x.dat] (.one (.d (bD (tr (x.kind = 2))))) := by
  refine contract_by hma hTa Try.func111 (by kernel_rfl) (by kernel_rfl) ?_
  conv => whnf
  exact bB eqB_iff

theorem c_impl_PartsOf2 (x : ItemV) (hx : x.ok) : Contract Try.prog 113 [.d x.dat] (.one (.d (bD (tr (x.kind ≠ 2))))) := by
  refine contract_by hma hTa Try.func113 (by kernel_rfl) (by kernel_rfl) ?_
  conv => whnf
  exact bB (by simp [eqB_eq])



set_option maxHeartbeats 4000000 in
theorem c_impl_PartsOf0f (cat : List ItemV) (hc : okL ItemV.ok cat) (lines : List LineV) (hl : okL LineV.ok lines) (code : ByteArray) (q day : Int) (c : List PickV) (hp : okL PickV.ok c) (r : Res)
    (hr : (expP cat lines code q day c (fun x => x.kind = 2) → r = .tup (.fr ⟨146, 2, (expL cat lines code q day c (fun x => x.kind = 2) (fun x => x.kind ≠ 2)).map NeedV.dat⟩) [bD true]) ∧ (¬ expP cat lines code q day c (fun x => x.kind = 2) → r = .tup (.fr ⟨146, 2, []⟩) [bD false])) :
    Contract Try.prog 53 [.d (lD ItemV.dat cat), .d (lD LineV.dat lines), .d (sD code), .d (iD q), .d (iD day), .d (lD PickV.dat c)] r := by
  refine contract_by hma hTa Try.func53 (by kernel_rfl) (by kernel_rfl) ?_
  have hl2 := hl
  obtain ⟨hlen, hok⟩ := hl2
  unfold expL expN at hr
  conv => whnf
  have e1 : (List.map ItemV.dat cat).length = cat.length := List.length_map _
  refine CallK_intro (c_impl_FindItem _ hc _) ?_
  conv => whnf
  refine CallK_tr (c_impl_IsBills _ hc _ hl) (fun hb => ?_) (fun hb => ?_) <;> conv => whnf
  rotate_left
  · rw [hr.2 (fun h => hb h.1)]; exact ⟨⟨rfl, by omega⟩, rfl, trivial⟩
  refine brLt (fun h1 => ?_) (fun h1 => ?_) <;> conv => whnf
  · rw [hr.2 (fun h => absurd (show 0 ≤ findP (fun y : ItemV => y.code = code) cat from h.2.1) (by omega))]; exact ⟨⟨rfl, by omega⟩, rfl, trivial⟩
  refine CallK_tr (c_impl_in q 0 100000) (fun h2 => ?_) (fun h2 => ?_) <;> conv => whnf
  rotate_left
  · rw [hr.2 (fun h => h2 h.2.2.1)]; exact ⟨⟨rfl, by omega⟩, rfl, trivial⟩
  have h24 := hb.2.1
  have h12 := hb.1.2
  have hq : 0 ≤ q ∧ q ≤ 100000 := h2
  refine CallK_intro (c_impl_inForce lines hl (by omega) day c hp) ?_
  conv => whnf
  have hA := act_ok hb day c
  have hal := active_len day c lines
  have hao := active_ok (day := day) (c := c) hl
  obtain ⟨hia, hial⟩ := idx_nat (c := code) (cat := cat) h1
  have hqP : expP cat lines code q day c (fun x => x.kind = 2) ↔ ∀ j, j < cat.length → pieN cat (activeN day c lines) (fun x => x.kind = 2) (idxOf cat code).toNat q j ≤ 1000000000 := ⟨fun h => h.2.2.2, fun h => ⟨hb, h1, h2, h⟩⟩
  rw [hqP] at hr
  have hia2 : findP (fun y : ItemV => y.code = code) cat = ((idxOf cat code).toNat : Int) := hia
  rw [hia2]
  generalize (idxOf cat code).toNat = a at hial hr ⊢
  generalize activeN day c lines = act at hA hal hao hr ⊢
  have hpc := c_impl_pieces cat hc h12 act hao (by omega) hA.self a hial q hq.1 hq.2 111 (fun x => x.kind = 2) c_impl_PartsOf1
  refine takeK_full rfl ?_
  conv => whnf
  by_cases hN : ∀ j, j < cat.length → pieN cat act (fun x => x.kind = 2) a q j ≤ 1000000000
  · refine CallK_intro (hpc _ ⟨fun _ => rfl, fun h => absurd hN h⟩) ?_
    conv => whnf
    refine takeK_full rfl ?_
    conv => whnf
    refine CallK_intro (c_impl_needs cat hc h12 _ _ 113 (fun x => x.kind ≠ 2) (fun x => x.kind ≠ 2) c_impl_PartsOf2 (fun _ _ _ => ⟨Iff.rfl, fun _ => rfl⟩)) ?_
    conv => whnf
    rw [hr.1 hN]
    exact ⟨⟨rfl, rfl, rfl, rfl, need_flat _⟩, rfl, trivial⟩
  · refine CallK_intro (hpc _ ⟨fun h => absurd h hN, fun _ => rfl⟩) ?_
    conv => whnf
    rw [hr.2 hN]
    exact ⟨⟨rfl, by omega⟩, rfl, trivial⟩



theorem expL_ok {cat : List ItemV} (hc : okL ItemV.ok cat) {lines : List LineV} {code : ByteArray} {q day : Int} {c : List PickV} {Op P : ItemV → Prop} (h : expP cat lines code q day c Op) : okL NeedV.ok (expL cat lines code q day c Op P) ∧ (expL cat lines code q day c Op P).length ≤ cat.length := by
  have hl := need_len (cat := cat) (P := P) (N := fun j => if j = (idxOf cat code).toNat then 0 else expN cat lines code q day c Op j) cat.length
  refine ⟨⟨Nat.le_trans hl hc.1, fun x hx => ?_⟩, hl⟩
  obtain ⟨j, y, h1, h2, rfl, h4⟩ := need_mem hx
  refine ⟨(hc.2 y (get_mem h2)).1, ?_⟩
  have h5 := h.2.2.2 j h1
  dsimp only at h4 ⊢
  show okI _
  unfold okI
  split at h4
  · omega
  · rename_i h6
    rw [if_neg h6]
    constructor <;> omega
noncomputable def explV (cat : List ItemV) (lines : List LineV) (code : ByteArray) (q day : Int) (c : List PickV) : List NeedV := ifP (expP cat lines code q day c (fun _ => True)) (expL cat lines code q day c (fun _ => True) (fun _ => True)) []
theorem explV_ok (cat : List ItemV) (hc : okL ItemV.ok cat) (lines : List LineV) (code : ByteArray) (q day : Int) (c : List PickV) : okL NeedV.ok (explV cat lines code q day c) ∧ (explV cat lines code q day c).length ≤ cat.length := by
  by_cases h : expP cat lines code q day c (fun _ => True)
  · rw [show explV cat lines code q day c = _ from ifP_t h]; exact expL_ok hc h
  · rw [show explV cat lines code q day c = _ from ifP_f h]; exact ⟨⟨by simp, by simp⟩, by simp⟩
theorem c_impl_ExplosionV (cat : List ItemV) (hc : okL ItemV.ok cat) (lines : List LineV) (hl : okL LineV.ok lines) (code : ByteArray) (q : Int) (_ : okI q) (day : Int) (_ : okI day) (c : List PickV) (hp : okL PickV.ok c) :
    Contract Try.prog 58 [.d (lD ItemV.dat cat), .d (lD LineV.dat lines), .d (sD code), .d (iD q), .d (iD day), .d (lD PickV.dat c)] (.tup (.fr ⟨146, 2, (explV cat lines code q day c).map NeedV.dat⟩) [bD (tr (expP cat lines code q day c (fun _ => True)))]) := by
  refine c_impl_Explosion0f cat hc lines hl code q day c hp _ ⟨fun h => ?_, fun h => ?_⟩
  · rw [tr_t h, show explV cat lines code q day c = _ from ifP_t h]
  · rw [tr_f h, show explV cat lines code q day c = _ from ifP_f h]; rfl

noncomputable def partsV (cat : List ItemV) (lines : List LineV) (code : ByteArray) (q day : Int) (c : List PickV) : List NeedV := ifP (expP cat lines code q day c (fun x => x.kind = 2)) (expL cat lines code q day c (fun x => x.kind = 2) (fun x => x.kind ≠ 2)) []
theorem partsV_ok (cat : List ItemV) (hc : okL ItemV.ok cat) (lines : List LineV) (code : ByteArray) (q day : Int) (c : List PickV) : okL NeedV.ok (partsV cat lines code q day c) ∧ (partsV cat lines code q day c).length ≤ cat.length := by
  by_cases h : expP cat lines code q day c (fun x => x.kind = 2)
  · rw [show partsV cat lines code q day c = _ from ifP_t h]; exact expL_ok hc h
  · rw [show partsV cat lines code q day c = _ from ifP_f h]; exact ⟨⟨by simp, by simp⟩, by simp⟩
theorem c_impl_PartsOfV (cat : List ItemV) (hc : okL ItemV.ok cat) (lines : List LineV) (hl : okL LineV.ok lines) (code : ByteArray) (q : Int) (_ : okI q) (day : Int) (_ : okI day) (c : List PickV) (hp : okL PickV.ok c) :
    Contract Try.prog 53 [.d (lD ItemV.dat cat), .d (lD LineV.dat lines), .d (sD code), .d (iD q), .d (iD day), .d (lD PickV.dat c)] (.tup (.fr ⟨146, 2, (partsV cat lines code q day c).map NeedV.dat⟩) [bD (tr (expP cat lines code q day c (fun x => x.kind = 2)))]) := by
  refine c_impl_PartsOf0f cat hc lines hl code q day c hp _ ⟨fun h => ?_, fun h => ?_⟩
  · rw [tr_t h, show partsV cat lines code q day c = _ from ifP_t h]
  · rw [tr_f h, show partsV cat lines code q day c = _ from ifP_f h]; rfl

end Go.DL
