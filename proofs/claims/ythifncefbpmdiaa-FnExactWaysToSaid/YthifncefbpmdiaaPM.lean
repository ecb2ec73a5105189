/- Contracts of functions of the program, at this seat: what each call returns, by its arguments as data; each states its own conditions. -/
import Derived.Test.YthifncefbpmdiaaZ2
import Derived.Test.YthifncefbpmdiaaPL
import Derived.Test.YthifncefbpmdiaaTA
namespace Go.DL
set_option maxRecDepth 100000
set_option maxHeartbeats 2000000
set_option linter.unusedSimpArgs false
set_option linter.unusedVariables false
open Go.RowKit Go.Proofs Go.Proofs.Ythifncefbpmdiaa

theorem iD_flat2 (l : List Int) : FlatL (l.map iD) := flatL_map (f := iD) (fun _ => trivial) l
theorem way_nn {act : List LineV} {to : ByteArray} (hq : ∀ x ∈ act, 1 ≤ x.quantity) : ∀ (k : Nat) (s : ByteArray) (m : Int), 0 ≤ m → ∀ v ∈ wayL act to k s m, 0 ≤ v
  | 0, _, _, _, v, hv => by simp [wayL] at hv
  | k + 1, s, m, hm, v, hv => by
    by_cases h : s = to
    · rw [wayL_y h] at hv
      rw [List.mem_singleton.1 hv]; exact hm
    · rw [wayL_n h, wayI] at hv
      obtain ⟨x, hx, hv⟩ := List.mem_flatMap.1 hv
      split at hv
      · have h1 := hq x (List.mem_of_mem_take hx)
        have h2 := Int.mul_nonneg hm (by omega : 0 ≤ x.quantity)
        exact way_nn hq k x.part _ (by omega) v hv
      · simp at hv
noncomputable def wayS (cat : List ItemV) (lines : List LineV) (code part : ByteArray) (day : Int) (c : List PickV) : List Int := wayL (activeN day c lines) part (cat.length + 1) code 1
def wayP (cat : List ItemV) (lines : List LineV) (code part : ByteArray) (day : Int) (c : List PickV) : Prop := isBillsP cat lines ∧ 0 ≤ idxOf cat code ∧ 0 ≤ idxOf cat part ∧ lines.length ≤ 12 ∧ okW 0 (wayS cat lines code part day c)
noncomputable def wayF (cat : List ItemV) (lines : List LineV) (s : ByteArray) : Nat := ((cat.length : Int) - levOf cat lines (idxOf cat s).toNat).toNat
theorem wayF_ok {cat : List ItemV} {lines act : List LineV} (h : ActOK cat lines act) : (∀ s, wayF cat lines s < cat.length + 1) ∧ ∀ x ∈ act, wayF cat lines x.part < wayF cat lines x.parent := by
  have hlo : ∀ j, 0 ≤ levOf cat lines j := fun j => (tight_lev _ _).1 j
  have hhi : ∀ j, levOf cat lines j ≤ cat.length := fun j => lev_small (edges_lt (linesIn_of h.line)) h.acyc j
  refine ⟨fun s => ?_, fun x hx => ?_⟩
  · have := hlo (idxOf cat s).toNat
    unfold wayF; omega
  · have h1 := h.strict ((idxOf cat x.parent).toNat, (idxOf cat x.part).toNat, x.quantity) (List.mem_map.2 ⟨x, hx, rfl⟩)
    have h2 := hhi (idxOf cat x.part).toNat
    unfold wayF
    dsimp only at h1
    omega
theorem wayS_nn {cat : List ItemV} {lines : List LineV} {code part : ByteArray} {day : Int} {c : List PickV} (hb : isBillsP cat lines) : ∀ v ∈ wayS cat lines code part day c, 0 ≤ v :=
  way_nn (fun x hx => by have := ((act_ok hb day c).line x ((act_ok hb day c).sub x hx)).2.2.2.1; exact this.1) _ _ _ (by omega)


set_option maxHeartbeats 4000000 in
theorem c_impl_WaysTo0f (cat : List ItemV) (hc : okL ItemV.ok cat) (lines : List LineV) (hl : okL LineV.ok lines) (code part : ByteArray) (day : Int) (c : List PickV) (hp : okL PickV.ok c) (r : Res)
    (hr : (wayP cat lines code part day c → r = .tup (.fr ⟨3, 1, (wayS cat lines code part day c).map iD⟩) [bD true]) ∧ (¬ wayP cat lines code part day c → r = .tup (.fr ⟨3, 1, []⟩) [bD false])) :
    Contract Try.prog 60 [.d (lD ItemV.dat cat), .d (lD LineV.dat lines), .d (sD code), .d (sD part), .d (iD day), .d (lD PickV.dat c)] r := by
  refine contract_byR [300000 + 117] hma hTa Try.func60 (by kernel_rfl) (by kernel_rfl) ?_
  have hl2 := hl
  obtain ⟨hlen, hok⟩ := hl2
  conv => whnf
  have e1 : (List.map ItemV.dat cat).length = cat.length := List.length_map _
  have e2 : (List.map LineV.dat lines).length = lines.length := List.length_map _
  refine CallK_tr (c_impl_IsBills _ hc _ hl) (fun hb => ?_) (fun hb => ?_) <;> conv => whnf
  rotate_left
  · rw [hr.2 (fun h => hb h.1)]; exact ⟨⟨rfl, by omega⟩, rfl, trivial⟩
  refine CallK_intro (c_impl_FindItem _ hc _) ?_
  conv => whnf
  refine brLt (fun h1 => ?_) (fun h1 => ?_) <;> conv => whnf
  · rw [hr.2 (fun h => absurd (show 0 ≤ findP (fun y : ItemV => y.code = code) cat from h.2.1) (by omega))]; exact ⟨⟨rfl, by omega⟩, rfl, trivial⟩
  refine CallK_intro (c_impl_FindItem _ hc _) ?_
  conv => whnf
  refine brLt (fun h2 => ?_) (fun h2 => ?_) <;> conv => whnf
  · rw [hr.2 (fun h => absurd (show 0 ≤ findP (fun y : ItemV => y.code = part) cat from h.2.2.1) (by omega))]; exact ⟨⟨rfl, by omega⟩, rfl, trivial⟩
  refine brLt (fun h3 => ?_) (fun h3 => ?_) <;> conv => whnf
  · rw [hr.2 (fun h => absurd h.2.2.2.1 (by omega))]; exact ⟨⟨rfl, by omega⟩, rfl, trivial⟩
  have h24 := hb.2.1
  have hA := act_ok hb day c
  have hal := active_len day c lines
  have hao := active_ok (day := day) (c := c) hl
  have hw := wayF_ok hA
  have hwP : wayP cat lines code part day c ↔ okW 0 (wayS cat lines code part day c) := ⟨fun h => h.2.2.2.2, fun h => ⟨hb, h1, h2, by omega, h⟩⟩
  rw [hwP] at hr
  have hwc := c_impl_ways (activeN day c lines) hao (by omega) (fun x hx => (hA.line x (hA.sub x hx)).2.2.2.1) part (wayF cat lines) hw.2 (cat.length + 1) code 1 []
  refine CallK_intro (c_impl_inForce lines hl (by omega) day c hp) ?_
  conv => whnf
  refine takeK_full rfl ?_
  conv => whnf
  refine NeedK_intro rfl ?_
  conv => whnf
  have hkf := hw.1 code
  by_cases hW : okW 0 (wayS cat lines code part day c)
  · refine MCallK_intro (hwc _ true hkf (by omega) (by omega) (by decide) ⟨fun _ => ⟨rfl, rfl⟩, fun h => absurd hW h⟩) ?_
    conv => whnf
    rw [hr.1 hW]
    exact ⟨⟨rfl, rfl, by rw [List.length_map], rfl, iD_flat2 _⟩, rfl, trivial⟩
  · refine MCallK_intro (hwc _ false hkf (by omega) (by omega) (by decide) ⟨fun h => absurd h hW, fun _ => ⟨rfl, rfl⟩⟩) ?_
    conv => whnf
    rw [hr.2 hW]
    exact ⟨⟨rfl, by omega⟩, rfl, trivial⟩


end Go.DL
