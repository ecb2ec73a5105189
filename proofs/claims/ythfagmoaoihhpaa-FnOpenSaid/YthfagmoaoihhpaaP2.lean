/- Contracts of functions of the program, at this seat: what each call returns, by its arguments as data; each states its own conditions. -/
import Derived.Test.YthfagmoaoihhpaaP1
import Derived.Test.YthfagmoaoihhpaaG
namespace Go.DL
set_option maxRecDepth 100000
set_option maxHeartbeats 2000000
set_option linter.unusedSimpArgs false
set_option linter.unusedVariables false
open Go.RowKit Go.Proofs Go.Proofs.Ythfagmoaoihhpaa

theorem okI_of {v n : Int} (h0 : 0 < n) (h : 0 < n → 0 ≤ v ∧ v < n) (hn : n ≤ 1000000) : okI v ∧ okI (1 + v) := by
  have := h h0; unfold okI; omega
def intsB : List D → Bool
  | [] => true
  | .sc (.int .i64 n) :: r => decide (-9223372036854775808 ≤ n) && decide (n ≤ 9223372036854775807) && intsB r
  | _ :: _ => false
theorem intsB_spec : ∀ {ds : List D}, intsB ds = true → ∃ l : List Int, ds = l.map iD ∧ ∀ n ∈ l, okI n
  | [], _ => ⟨[], rfl, fun n h => by simp at h⟩
  | d :: r, h => by
    unfold intsB at h
    split at h
    · rename_i e; cases e
    · rename_i n s e
      cases e
      simp only [Bool.and_eq_true, decide_eq_true_eq] at h
      obtain ⟨l, rfl, hl⟩ := intsB_spec h.2
      refine ⟨n :: l, rfl, fun m hm => ?_⟩
      rcases List.mem_cons.1 hm with rfl | hm
      · exact h.1
      · exact hl m hm
    · cases h
def strsB : List D → Bool
  | [] => true
  | .sc (.string s) :: r => Nat.ble s.size 1000 && strsB r
  | _ :: _ => false
theorem strsB_spec : ∀ {ds : List D}, strsB ds = true → ∃ l : List ByteArray, ds = l.map sD ∧ ∀ s ∈ l, s.size ≤ 1000
  | [], _ => ⟨[], rfl, fun n h => by simp at h⟩
  | d :: r, h => by
    unfold strsB at h
    split at h
    · rename_i e; cases e
    · rename_i n s e
      cases e
      simp only [Bool.and_eq_true] at h
      obtain ⟨l, rfl, hl⟩ := strsB_spec h.2
      refine ⟨n :: l, rfl, fun m hm => ?_⟩
      rcases List.mem_cons.1 hm with rfl | hm
      · exact Nat.le_of_ble_eq_true h.1
      · exact hl m hm
    · cases h
def lenB (ds : List D) : Bool := Nat.ble 1 ds.length && Nat.ble ds.length 1000
theorem lenB_spec {ds : List D} (h : lenB ds = true) : 0 < ds.length ∧ ds.length ≤ 1000 := by
  unfold lenB at h
  rw [Bool.and_eq_true] at h
  exact ⟨Nat.le_of_ble_eq_true h.1, Nat.le_of_ble_eq_true h.2⟩

theorem L_Below {c : CurV} (hc : c.ok) {n : Int} {K : Res → List D → Prop} (hK : ∀ v c', CurV.ok c' → (0 < n → 0 ≤ v ∧ v < n) → (n ≤ 0 → v = 0) → K (.one (.d (iD v))) [c'.dat]) : LCallK Try.prog 37 [.lp, .d (iD n)] (curA c) K :=
  LCallK_intro (c_spec_l1Below c hc n) (hK _ _ (CurV.aft_ok hc n) (fun h => c.below_bound h) (fun h => c.below_le h))

theorem L_Once {c : CurV} (hc : c.ok) {n : Int} {K : Res → List D → Prop} (hK : ∀ b c', CurV.ok c' → K (.one (.d (bD b))) [c'.dat]) : LCallK Try.prog 40 [.lp, .d (iD n)] (curA c) K :=
  LCallK_intro (c_spec_l1Once c hc n) (hK _ _ (CurV.aft_ok hc n))

theorem L_Pick {c : CurV} (hc : c.ok) {ds : List D} {K : Res → List D → Prop} (hi : strsB ds = true) (hl : lenB ds = true) (hK : ∀ v c', CurV.ok c' → ByteArray.size v ≤ 1000 → K (.one (.d (sD v))) [c'.dat]) : LCallK Try.prog 28 [.lp, .d (.sl ds)] (curA c) K := by
  obtain ⟨l, rfl, hok⟩ := strsB_spec hi
  obtain ⟨h1, h2⟩ := lenB_spec hl
  rw [List.length_map] at h1 h2
  exact LCallK_intro (c_spec_l1Pick c hc l h1 h2) (hK _ _ (CurV.aft_ok hc _) (hok _ (c.pick_mem h1)))

def newR (r : Res) (_ : List D) : Prop := ∃ c : CurV, c.ok ∧ r = .one (.ptr (curA c))
theorem c_spec_l1New (b : List Int) (hb : b.length ≤ 1048576) (hb2 : ∀ x ∈ b, 0 ≤ x ∧ x ≤ 255) : LContract Try.prog 25 [.d (lD yD b)] none newR := by
  refine contract_byL [] hma hTa Try.func25 (by kernel_rfl) (by kernel_rfl) ?_
  conv => whnf
  have e1 : (List.map yD b).length = b.length := List.length_map _
  refine WrK_any ?_
  conv => whnf
  generalize IntKind.i64.wrap (10101 + ((List.map yD b).length : Int)) = h0
  refine LoopK2 hma hTa [(0, .pl), (3, .pl), (4, .pl)] (fun (i : Nat) (h : Int) => ⟨[(0, .d (lD yD b)), (3, .d (iD h)), (4, .d (iD i))], [], []⟩) (fun i _ => i ≤ b.length) (fun i _ => b.length - i) (by kernel_rfl) ?_ ?_
  · conv => whnf
    exact ⟨0, h0, by omega, rfl⟩
  · intro i h hi
    have fin : newR (.one (.ptr (curA ⟨b, 0, h⟩))) [] := ⟨⟨b, 0, h⟩, ⟨by simp, by show b.length ≤ 9000000; omega, hb2⟩, rfl⟩
    conv => whnf
    refine brLt (fun h1 => ?_) (fun h1 => ?_) <;> conv => whnf
    · refine brLt (fun h2 => ?_) (fun h2 => ?_) <;> conv => whnf
      · refine WrK_any ?_
        conv => whnf
        refine IxK_mapLt _ rfl (by omega) (fun y hy => ?_)
        conv => whnf
        have hyb := hb2 y (get_mem hy)
        have hil := get_lt hy
        refine WrK_i64 (by omega) (by omega) ?_
        conv => whnf
        refine WrK_any ?_
        conv => whnf
        refine WrK_any ?_
        conv => whnf
        refine WrK_i64 (by omega) (by omega) ?_
        conv => whnf
        exact ⟨(i + 1, _), hil, Nat.sub_lt_sub_left hil (Nat.lt_succ_self i), rfl⟩
      · exact ⟨_, fin, rfl, rfl, by simp, rfl⟩
    · exact ⟨_, fin, rfl, rfl, by simp, rfl⟩

theorem c_laws_big (b : List Int) (hb : b.length ≤ 9223372036854775807) : Contract Try.prog 5 [.d (lD yD b)] (.one (.d (bD (tr (1048576 < b.length))))) := by
  refine contract_by hma hTa Try.func5 (by kernel_rfl) (by kernel_rfl) ?_
  conv => whnf
  exact bB (by rw [ltB_iff, List.length_map]; omega)

end Go.DL
