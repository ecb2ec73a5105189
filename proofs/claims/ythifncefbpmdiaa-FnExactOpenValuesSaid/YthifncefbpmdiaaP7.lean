/- Contracts of functions of the program, at this seat: what each call returns, by its arguments as data; each states its own conditions. -/
import Derived.Test.YthifncefbpmdiaaP6
import Derived.Test.YthifncefbpmdiaaZ2
namespace Go.DL
set_option maxRecDepth 100000
set_option maxHeartbeats 2000000
set_option linter.unusedSimpArgs false
set_option linter.unusedVariables false
open Go.RowKit Go.Proofs Go.Proofs.Ythifncefbpmdiaa

/-! Lines, parents, bills of a day. -/
noncomputable def keepN {α : Type} (p : α → Prop) (l : List α) : List α := l.filter (fun x => tr (p x))
theorem keep_y {α : Type} {p : α → Prop} {l : List α} {j : Nat} {x : α} (h : l[j]? = some x) (hf : p x) : keepN p (l.take (j + 1)) = keepN p (l.take j) ++ [x] := filter_y h (tr_t hf)
theorem keep_n {α : Type} {p : α → Prop} {l : List α} {j : Nat} {x : α} (h : l[j]? = some x) (hf : ¬ p x) : keepN p (l.take (j + 1)) = keepN p (l.take j) := filter_n h (tr_f hf)
theorem keep_len {α : Type} (p : α → Prop) (l : List α) : (keepN p l).length ≤ l.length := List.length_filter_le _ _
theorem keep_mem {α : Type} {p : α → Prop} {l : List α} {x : α} : x ∈ keepN p l ↔ x ∈ l ∧ p x := by unfold keepN; rw [List.mem_filter, tr_iff]
theorem keep_len_take {α : Type} (p : α → Prop) (l : List α) (i : Nat) : (keepN p (l.take i)).length ≤ l.length := Nat.le_trans (keep_len _ _) (by simp; omega)
theorem keep_ok {α : Type} {ok : α → Prop} {p : α → Prop} {l : List α} (h : okL ok l) : okL ok (keepN p l) := ⟨Nat.le_trans (keep_len _ _) h.1, fun x hx => h.2 x (keep_mem.1 hx).1⟩
theorem keep_keep {α : Type} {p q r : α → Prop} (h : ∀ x, r x ↔ p x ∧ q x) (l : List α) : keepN p (keepN q l) = keepN r l := by
  unfold keepN
  rw [List.filter_filter]
  refine List.filter_congr fun x _ => ?_
  rw [tr_congr (h x)]
  by_cases h1 : p x
  · by_cases h2 : q x
    · rw [tr_t h1, tr_t h2, tr_t (show p x ∧ q x from ⟨h1, h2⟩)]; rfl
    · rw [tr_f h2, tr_f (p := p x ∧ q x) (fun h => h2 h.2)]; simp
  · rw [tr_f h1, tr_f (p := p x ∧ q x) (fun h => h1 h.1)]; simp
theorem keep_false {α : Type} {p : α → Prop} (h : ∀ x, ¬ p x) (l : List α) : keepN p l = [] := by
  unfold keepN; rw [List.filter_eq_nil_iff]; intro x _ hx; exact h x (tr_iff.1 hx)
theorem app_two {α β : Type} {f : α → β} {g : β → D} {l : List α} {x : α} {m : Nat} (h : m = l.length) : ((l ++ [x]).map f).map g = ((l.map f).map g).take m ++ [g (f x)] := by
  subst h; rw [List.take_of_length_le (by simp)]; simp
def ofP (p : ByteArray) (day : Int) (c : List PickV) (x : LineV) : Prop := x.parent = p ∧ onP day c x
noncomputable def linesN (day : Int) (c : List PickV) (p : ByteArray) (lines : List LineV) : List LineV := keepN (ofP p day c) lines
theorem cond_of {cat : List ItemV} {lines : List LineV} (h : isBillsP cat lines) {x : LineV} (hx : x ∈ lines) : isCondP x.when := (h.2.2.1 x hx).2.2.2.2.2.2

def parP (lines : List LineV) (part : ByteArray) (day : Int) (c : List PickV) (it : ItemV) : Prop := ∃ x ∈ lines, x.parent = it.code ∧ x.part = part ∧ onP day c x
noncomputable def parentsN (cat : List ItemV) (lines : List LineV) (part : ByteArray) (day : Int) (c : List PickV) : List ByteArray := (keepN (parP lines part day c) cat).map ItemV.code

theorem c_impl_ParentsOf_n (cat : List ItemV) (hc : okL ItemV.ok cat) (lines : List LineV) (hl : okL LineV.ok lines) (p : ByteArray) (day : Int) (c : List PickV) (hB : ¬ isBillsP cat lines) : Contract Try.prog 46 [.d (lD ItemV.dat cat), .d (lD LineV.dat lines), .d (sD p), .d (iD day), .d (lD PickV.dat c)] (.one (.own ⟨9, 1, []⟩)) := by
  refine contract_by hma hTa Try.func46 (by kernel_rfl) (by kernel_rfl) ?_
  conv => whnf
  refine CallK_tr (c_impl_IsBills _ hc _ hl) (fun h => absurd h hB) (fun _ => ?_)
  conv => whnf
  exact ⟨rfl, rfl, rfl, rfl⟩
set_option maxHeartbeats 4000000 in
theorem c_impl_ParentsOf_y (cat : List ItemV) (hc : okL ItemV.ok cat) (lines : List LineV) (hl : okL LineV.ok lines) (p : ByteArray) (day : Int) (c : List PickV) (hcc : okL PickV.ok c) (hB : isBillsP cat lines) : Contract Try.prog 46 [.d (lD ItemV.dat cat), .d (lD LineV.dat lines), .d (sD p), .d (iD day), .d (lD PickV.dat c)] (.one (.own ⟨9, 1, (parentsN cat lines p day c).map sD⟩)) := by
  refine contract_by hma hTa Try.func46 (by kernel_rfl) (by kernel_rfl) ?_
  conv => whnf
  refine CallK_tr (c_impl_IsBills _ hc _ hl) (fun _ => ?_) (fun h => absurd hB h)
  conv => whnf
  have hlen := hB.2.1
  have hcl : cat.length ≤ 12 := hB.1.2
  refine CallK_intro (c_impl_inForce _ hl (by omega) _ _ hcc) ?_
  conv => whnf
  have hal := active_len day c lines
  have hP : ∀ it, parP lines p day c it ↔ ∃ x ∈ activeN day c lines, x.parent = it.code ∧ x.part = p := fun it => by
    constructor
    · rintro ⟨x, hx, h1, h2, h3⟩
      exact ⟨x, List.mem_filter.2 ⟨hx, tr_t h3⟩, h1, h2⟩
    · rintro ⟨x, hx, h1, h2⟩
      exact ⟨x, active_sub x hx, h1, h2, active_on x hx⟩
  have eP : parP lines p day c = fun it => ∃ x ∈ activeN day c lines, x.parent = it.code ∧ x.part = p := funext fun it => propext (hP it)
  unfold parentsN
  rw [eP]
  generalize activeN day c lines = act at hal ⊢
  clear eP hP
  generalize hQ : (fun it : ItemV => ∃ x ∈ act, x.parent = it.code ∧ x.part = p) = Q
  have hQ2 : ∀ it, Q it ↔ ∃ x ∈ act, x.parent = it.code ∧ x.part = p := fun it => by rw [← hQ]
  have e1 : (List.map ItemV.dat cat).length = cat.length := List.length_map _
  have e2 : (List.map LineV.dat act).length = act.length := List.length_map _
  refine LoopK_intro hma hTa [(2, .pl), (11, .key 11), (12, .fz), (27, .pl), (28, .pl), (29, .pl)] (fun i : Nat => ⟨[(2, .d (sD p)), (11, .av 11 (keepN Q (cat.take i)).length), (12, .d (lD LineV.dat act)), (27, .d (lD ItemV.dat cat)), (28, .d (iD (cat.map ItemV.dat).length)), (29, .d (iD i))], [(11, some ⟨9, 1, ((keepN Q (cat.take i)).map ItemV.code).map sD⟩)], []⟩) (fun i => i ≤ cat.length) (fun i => cat.length - i) (by kernel_rfl) ?_ ?_
  · conv => whnf
    refine takeK_full rfl ?_
    conv => whnf
    exact ⟨0, by omega, rfl⟩
  · intro i hi
    conv => whnf
    refine brLt (fun h => ?_) (fun h => ?_) <;> conv => whnf
    · refine IxK_mapLt _ rfl (by omega) (fun it hit => ?_)
      conv => whnf
      have hil := get_lt hit
      have hkl := keep_len_take Q cat i
      refine LoopK_intro hma hTa [(2, .pl), (11, .key 11), (12, .pl), (14, .key 14), (27, .pl), (28, .pl), (29, .pl), (33, .pl), (34, .pl), (35, .pl)] (fun k : Nat => ⟨[(2, .d (sD p)), (11, .av 11 (keepN Q (cat.take i)).length), (12, .d (lD LineV.dat act)), (14, .ae 14 0), (27, .d (lD ItemV.dat cat)), (28, .d (iD (cat.map ItemV.dat).length)), (29, .d (iD i)), (33, .d (lD LineV.dat act)), (34, .d (iD (act.map LineV.dat).length)), (35, .d (iD k))], [(11, some ⟨9, 1, ((keepN Q (cat.take i)).map ItemV.code).map sD⟩), (14, some ⟨120, 8, [it.dat]⟩)], []⟩) (fun k => k ≤ act.length ∧ AllB act (fun _ x => ¬ (x.parent = it.code ∧ x.part = p)) k) (fun k => act.length - k) (by kernel_rfl) ?_ ?_
      · conv => whnf
        exact ⟨0, ⟨by omega, AllB_zero⟩, rfl⟩
      · rintro k ⟨hk, hall⟩
        conv => whnf
        refine brLt (fun h2 => ?_) (fun h2 => ?_) <;> conv => whnf
        · refine IxK_mapLt _ rfl (by omega) (fun x hx => ?_)
          conv => whnf
          have hkl2 := get_lt hx
          have next : ¬ (x.parent = it.code ∧ x.part = p) → ∃ a : Nat, (a ≤ act.length ∧ AllB act (fun _ x => ¬ (x.parent = it.code ∧ x.part = p)) a) ∧ act.length - a < act.length - k ∧ a = k + 1 := fun hn => ⟨k + 1, ⟨hkl2, AllB_succ hx hall hn⟩, Nat.sub_lt_sub_left hkl2 (Nat.lt_succ_self k), rfl⟩
          refine brStr (fun h3 => ?_) (fun h3 => ?_) <;> conv => whnf
          · refine brStr (fun h4 => ?_) (fun h4 => ?_) <;> conv => whnf
            · have hy := keep_y (p := Q) hit ((hQ2 it).2 ⟨x, get_mem hx, h3, h4⟩)
              refine AppK_intro (n := (keepN Q (cat.take i)).length + 1) (xs' := ((keepN Q (cat.take (i + 1))).map ItemV.code).map sD) rfl (by rw [hy]; exact app_two rfl) (by omega) (by simp [D.width, Ty.width]) ?_
              conv => whnf
              refine WrK_i64 (by omega) (by omega) ?_
              conv => whnf
              exact ⟨i + 1, hil, Nat.sub_lt_sub_left hil (Nat.lt_succ_self i), by dsimp only; rw [hy, List.length_append]; rfl⟩
            · refine WrK_i64 (by omega) (by omega) ?_
              conv => whnf
              obtain ⟨a, h5, h6, rfl⟩ := next (fun h => h4 h.2)
              exact ⟨k + 1, h5, h6, rfl⟩
          · refine WrK_i64 (by omega) (by omega) ?_
            conv => whnf
            obtain ⟨a, h5, h6, rfl⟩ := next (fun h => h3 h.1)
            exact ⟨k + 1, h5, h6, rfl⟩
        · have hn : ¬ Q it := fun hq => by
            obtain ⟨x, hx, h5⟩ := (hQ2 it).1 hq
            obtain ⟨j, hj⟩ := List.mem_iff_getElem?.1 hx
            exact hall j (by have := get_lt hj; omega) x hj h5
          have hy := keep_n (p := Q) hit hn
          refine WrK_i64 (by omega) (by omega) ?_
          conv => whnf
          exact ⟨i + 1, hil, Nat.sub_lt_sub_left hil (Nat.lt_succ_self i), by dsimp only; rw [hy]; rfl⟩
    · rw [List.take_of_length_le (l := cat) (by omega)]
      exact ⟨rfl, rfl, by simp, rfl⟩

end Go.DL
