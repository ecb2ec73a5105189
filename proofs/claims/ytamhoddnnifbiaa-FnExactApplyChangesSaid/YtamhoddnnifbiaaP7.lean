/- Contracts of functions of the program, at this seat: what each call returns, by its arguments as data; each states its own conditions. -/
import Derived.Test.YtamhoddnnifbiaaP6
import Derived.Test.YtamhoddnnifbiaaZ2
namespace Go.DL
set_option maxRecDepth 100000
set_option maxHeartbeats 2000000
set_option linter.unusedSimpArgs false
set_option linter.unusedVariables false
open Go.RowKit Go.Proofs Go.Proofs.Ytamhoddnnifbiaa

/-! Lines, parents, bills of a day. -/
noncomputable def keepN {α : Type} (p : α → Prop) (l : List α) : List α := l.filter (fun x => tr (p x))
theorem keep_y {α : Type} {p : α → Prop} {l : List α} {j : Nat} {x : α} (h : l[j]? = some x) (hf : p x) : keepN p (l.take (j + 1)) = keepN p (l.take j) ++ [x] := filter_y h (tr_t hf)
theorem keep_n {α : Type} {p : α → Prop} {l : List α} {j : Nat} {x : α} (h : l[j]? = some x) (hf : ¬ p x) : keepN p (l.take (j + 1)) = keepN p (l.take j) := filter_n h (tr_f hf)
theorem keep_len {α : Type} (p : α → Prop) (l : List α) : (keepN p l).length ≤ l.length := List.length_filter_le _ _
theorem keep_mem {α : Type} {p : α → Prop} {l : List α} {x : α} : x ∈ keepN p l ↔ x ∈ l ∧ p x := by unfold keepN; rw [List.mem_filter, tr_iff]
theorem keep_len_take {α : Type} (p : α → Prop) (l : List α) (i : Nat) : (keepN p (l.take i)).length ≤ l.length := Nat.le_trans (keep_len _ _) (by simp; omega)
theorem keep_ok {α : Type} {ok : α → Prop} {p : α → Prop} {l : List α} (h : okL ok l) : okL ok (keepN p l) := ⟨Nat.le_trans (keep_len _ _) h.1, fun x hx => h.2 x (keep_mem.1 hx).1⟩
theorem keep_keep {α : Type} {p q r : α → Prop} (h : ∀ x, r x ↔ p x ∧ q x) (l : List α) : keepN p (keepN q l) = keepN r l := by
  unfold keepN
  rw [List.filter_filter]
  refine List.filter_congr fun x _ => ?_
  rw [tr_congr (h x)]
  by_cases h1 : p x
  · by_cases h2 : q x
    · rw [tr_t h1, tr_t h2, tr_t (show p x ∧ q x from ⟨h1, h2⟩)]; rfl
    · rw [tr_f h2, tr_f (p := p x ∧ q x) (fun h => h2 h.2)]; simp
  · rw [tr_f h1, tr_f (p := p x ∧ q x) (fun h => h1 h.1)]; simp
theorem keep_false {α : Type} {p : α → Prop} (h : ∀ x, ¬ p x) (l : List α) : keepN p l = [] := by
  unfold keepN; rw [List.filter_eq_nil_iff]; intro x _ hx; exact h x (tr_iff.1 hx)
theorem app_two {α β : Type} {f : α → β} {g : β → D} {l : List α} {x : α} {m : Nat} (h : m = l.length) : ((l ++ [x]).map f).map g = ((l.map f).map g).take m ++ [g (f x)] := by
  subst h; rw [List.take_of_length_le (by simp)]; simp
def ofP (p : ByteArray) (day : Int) (c : List PickV) (x : LineV) : Prop := x.parent = p ∧ onP day c x
noncomputable def linesN (day : Int) (c : List PickV) (p : ByteArray) (lines : List LineV) : List LineV := keepN (ofP p day c) lines
theorem cond_of {cat : List ItemV} {lines : List LineV} (h : isBillsP cat lines) {x : LineV} (hx : x ∈ lines) : isCondP x.when := (h.2.2.1 x hx).2.2.2.2.2.2

theorem c_impl_LinesOf_n (cat : List ItemV) (hc : okL ItemV.ok cat) (lines : List LineV) (hl : okL LineV.ok lines) (p : ByteArray) (day : Int) (c : List PickV) (hB : ¬ isBillsP cat lines) : Contract Try.prog 25 [.d (lD ItemV.dat cat), .d (lD LineV.dat lines), .d (sD p), .d (iD day), .d (lD PickV.dat c)] (.one (.own ⟨107, 6, []⟩)) := by
  refine contract_by hma hTa Try.func25 (by kernel_rfl) (by kernel_rfl) ?_
  conv => whnf
  refine CallK_tr (c_impl_IsBills _ hc _ hl) (fun h => absurd h hB) (fun _ => ?_)
  conv => whnf
  exact ⟨rfl, rfl, rfl, rfl⟩
set_option maxHeartbeats 4000000 in
theorem c_impl_LinesOf_y (cat : List ItemV) (hc : okL ItemV.ok cat) (lines : List LineV) (hl : okL LineV.ok lines) (p : ByteArray) (day : Int) (c : List PickV) (hcc : okL PickV.ok c) (hB : isBillsP cat lines) : Contract Try.prog 25 [.d (lD ItemV.dat cat), .d (lD LineV.dat lines), .d (sD p), .d (iD day), .d (lD PickV.dat c)] (.one (.own ⟨107, 6, (linesN day c p lines).map LineV.dat⟩)) := by
  refine contract_by hma hTa Try.func25 (by kernel_rfl) (by kernel_rfl) ?_
  conv => whnf
  refine CallK_tr (c_impl_IsBills _ hc _ hl) (fun _ => ?_) (fun h => absurd hB h)
  conv => whnf
  have hlen := hB.2.1
  refine CallK_intro (c_impl_inForce _ hl (by omega) _ _ hcc) ?_
  conv => whnf
  have hal := active_len day c lines
  have e0 : linesN day c p lines = keepN (fun x => x.parent = p) (activeN day c lines) := (keep_keep (q := onP day c) (fun x => Iff.rfl) lines).symm
  rw [e0]
  generalize activeN day c lines = act at hal ⊢
  have e2 : (List.map LineV.dat act).length = act.length := List.length_map _
  refine LoopK_intro hma hTa [(2, .pl), (11, .key 11), (23, .fz), (24, .pl), (25, .pl)] (fun i : Nat => ⟨[(2, .d (sD p)), (11, .av 11 (keepN (fun x : LineV => x.parent = p) (act.take i)).length), (23, .d (lD LineV.dat act)), (24, .d (iD (act.map LineV.dat).length)), (25, .d (iD i))], [(11, some ⟨107, 6, (keepN (fun x : LineV => x.parent = p) (act.take i)).map LineV.dat⟩)], []⟩) (fun i => i ≤ act.length) (fun i => act.length - i) (by kernel_rfl) ?_ ?_
  · conv => whnf
    refine takeK_full rfl ?_
    conv => whnf
    exact ⟨0, by omega, rfl⟩
  · intro i hi
    conv => whnf
    refine brLt (fun h => ?_) (fun h => ?_) <;> conv => whnf
    · refine IxK_mapLt _ rfl (by omega) (fun x hx => ?_)
      conv => whnf
      have hil := get_lt hx
      have hkl := keep_len_take (fun x : LineV => x.parent = p) act i
      refine brStr (fun h1 => ?_) (fun h1 => ?_) <;> conv => whnf
      · have hy := keep_y (p := fun x : LineV => x.parent = p) hx h1
        refine AppK_intro (n := (keepN (fun x : LineV => x.parent = p) (act.take i)).length + 1) (xs' := (keepN (fun x : LineV => x.parent = p) (act.take (i + 1))).map LineV.dat) rfl (by rw [hy]; exact app_one rfl) (by omega) (by simp [LineV.dat, D.width, Ty.width]) ?_
        conv => whnf
        refine WrK_i64 (by omega) (by omega) ?_
        conv => whnf
        exact ⟨i + 1, hil, Nat.sub_lt_sub_left hil (Nat.lt_succ_self i), by dsimp only; rw [hy, List.length_append]; rfl⟩
      · have hy := keep_n (p := fun x : LineV => x.parent = p) hx h1
        refine WrK_i64 (by omega) (by omega) ?_
        conv => whnf
        exact ⟨i + 1, hil, Nat.sub_lt_sub_left hil (Nat.lt_succ_self i), by dsimp only; rw [hy]; rfl⟩
    · rw [List.take_of_length_le (l := act) (by omega)]
      exact ⟨rfl, rfl, by simp, rfl⟩

def parP (lines : List LineV) (part : ByteArray) (day : Int) (c : List PickV) (it : ItemV) : Prop := ∃ x ∈ lines, x.parent = it.code ∧ x.part = part ∧ onP day c x
noncomputable def parentsN (cat : List ItemV) (lines : List LineV) (part : ByteArray) (day : Int) (c : List PickV) : List ByteArray := (keepN (parP lines part day c) cat).map ItemV.code

end Go.DL
