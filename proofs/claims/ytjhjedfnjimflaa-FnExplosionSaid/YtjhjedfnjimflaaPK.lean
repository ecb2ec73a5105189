/- Contracts of functions of the program, at this seat: what each call returns, by its arguments as data; each states its own conditions. -/
import Derived.Test.YtjhjedfnjimflaaPJ
namespace Go.DL
set_option maxRecDepth 100000
set_option maxHeartbeats 2000000
set_option linter.unusedSimpArgs false
set_option linter.unusedVariables false
open Go.RowKit Go.Proofs Go.Proofs.Ytjhjedfnjimflaa

theorem c_impl_PartsOf1 (x : ItemV) (hx : x.ok) : Contract Try.prog 126 [.d x.dat] (.one (.d (bD (tr (x.kind = 2))))) := by
  refine contract_by hma hTa Try.func126 (by kernel_rfl) (by kernel_rfl) ?_
  conv => whnf
  exact bB eqB_iff

theorem c_impl_PartsOf2 (x : ItemV) (hx : x.ok) : Contract Try.prog 127 [.d x.dat] (.one (.d (bD (tr (x.kind ≠ 2))))) := by
  refine contract_by hma hTa Try.func127 (by kernel_rfl) (by kernel_rfl) ?_
  conv => whnf
  exact bB (by simp [eqB_eq])


set_option maxHeartbeats 4000000 in
theorem c_impl_PartsOf0 (cat : List ItemV) (hc : okL ItemV.ok cat) (lines : List LineV) (hl : okL LineV.ok lines) (code : ByteArray) (q day : Int) (c : List PickV) (hp : okL PickV.ok c) (r : Res)
    (hr : (expP cat lines code q day c (fun x => x.kind = 2) → r = .tup (.own ⟨94, 2, (expL cat lines code q day c (fun x => x.kind = 2) (fun x => x.kind ≠ 2)).map NeedV.dat⟩) [bD true]) ∧ (¬ expP cat lines code q day c (fun x => x.kind = 2) → r = .tup (.d (.sl [])) [bD false])) :
    Contract Try.prog 60 [.d (lD ItemV.dat cat), .d (lD LineV.dat lines), .d (sD code), .d (iD q), .d (iD day), .d (lD PickV.dat c)] r := by
  refine contract_by hma hTa Try.func60 (by kernel_rfl) (by kernel_rfl) ?_
  have hl2 := hl
  obtain ⟨hlen, hok⟩ := hl2
  unfold expL expN at hr
  conv => whnf
  have e1 : (List.map ItemV.dat cat).length = cat.length := List.length_map _
  refine CallK_intro (c_impl_FindItem _ hc _) ?_
  conv => whnf
  refine CallK_tr (c_impl_IsBills _ hc _ hl) (fun hb => ?_) (fun hb => ?_) <;> conv => whnf
  rotate_left
  · rw [hr.2 (fun h => hb h.1)]; exact ⟨rfl, rfl, trivial⟩
  refine brLt (fun h1 => ?_) (fun h1 => ?_) <;> conv => whnf
  · rw [hr.2 (fun h => absurd (show 0 ≤ findP (fun y : ItemV => y.code = code) cat from h.2.1) (by omega))]; exact ⟨rfl, rfl, trivial⟩
  refine CallK_tr (c_impl_in q 0 100000) (fun h2 => ?_) (fun h2 => ?_) <;> conv => whnf
  rotate_left
  · rw [hr.2 (fun h => h2 h.2.2.1)]; exact ⟨rfl, rfl, trivial⟩
  have h24 := hb.2.1
  have h12 := hb.1.2
  have hq : 0 ≤ q ∧ q ≤ 100000 := h2
  refine CallK_intro (c_impl_inForce lines hl (by omega) day c hp) ?_
  conv => whnf
  have hA := act_ok hb day c
  have hal := active_len day c lines
  have hao := active_ok (day := day) (c := c) hl
  obtain ⟨hia, hial⟩ := idx_nat (c := code) (cat := cat) h1
  have hqP : expP cat lines code q day c (fun x => x.kind = 2) ↔ ∀ j, j < cat.length → pieN cat (activeN day c lines) (fun x => x.kind = 2) (idxOf cat code).toNat q j ≤ 1000000000 := ⟨fun h => h.2.2.2, fun h => ⟨hb, h1, h2, h⟩⟩
  rw [hqP] at hr
  have hia2 : findP (fun y : ItemV => y.code = code) cat = ((idxOf cat code).toNat : Int) := hia
  rw [hia2]
  generalize (idxOf cat code).toNat = a at hial hr ⊢
  generalize activeN day c lines = act at hA hal hao hr ⊢
  have hpc := c_impl_pieces cat hc h12 act hao (by omega) hA.self a hial q hq.1 hq.2 126 (fun x => x.kind = 2) c_impl_PartsOf1
  refine takeK_full rfl ?_
  conv => whnf
  by_cases hN : ∀ j, j < cat.length → pieN cat act (fun x => x.kind = 2) a q j ≤ 1000000000
  · refine CallK_intro (hpc _ ⟨fun _ => rfl, fun h => absurd hN h⟩) ?_
    conv => whnf
    refine takeK_full rfl ?_
    conv => whnf
    refine CallK_intro (c_impl_needs cat hc h12 _ _ 127 (fun x => x.kind ≠ 2) (fun x => x.kind ≠ 2) c_impl_PartsOf2 (fun _ _ _ => ⟨Iff.rfl, fun _ => rfl⟩)) ?_
    conv => whnf
    rw [hr.1 hN]
    exact ⟨⟨rfl, rfl, rfl, rfl⟩, rfl, trivial⟩
  · refine CallK_intro (hpc _ ⟨fun h => absurd h hN, fun _ => rfl⟩) ?_
    conv => whnf
    rw [hr.2 hN]
    exact ⟨rfl, rfl, trivial⟩


end Go.DL
