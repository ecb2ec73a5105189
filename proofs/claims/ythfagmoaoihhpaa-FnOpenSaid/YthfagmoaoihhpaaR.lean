/- Contracts of functions of the program, at this seat: what each call returns, by its arguments as data; each states its own conditions. -/
import Derived.Test.YthfagmoaoihhpaaQ
namespace Go.DL
set_option maxRecDepth 100000
set_option maxHeartbeats 2000000
set_option linter.unusedSimpArgs false
set_option linter.unusedVariables false
open Go.RowKit Go.Proofs Go.Proofs.Ythfagmoaoihhpaa

theorem LoopK2R {P : Program} {T : Tys} {n : Nat} (R : List Nat) (hm : P.follows .mixedOrders = true) (hT : TOK P T) {α β : Type} {c : Code} {Q : Exit → St → Prop} {σ : St} (keep : List (Nat × Kp)) (st : α → β → St) (ok : α → β → Prop) (μ : α → β → Nat) (hb : codeBR n R c = true)
    (h0 : treesK keep σ fun σ1 => normK keep σ1 [] fun σ' => ∃ a b, ok a b ∧ σ' = st a b) (hr : ∀ a b, ok a b → dCR P T n R c (loopQ keep (fun p : α × β => st p.1 p.2) (fun p => ok p.1 p.2) (fun p => μ p.1 p.2) (μ a b) Q) (st a b)) : LoopK P n c Q σ :=
  LoopK_introR R hm hT keep (fun p : α × β => st p.1 p.2) (fun p => ok p.1 p.2) (fun p => μ p.1 p.2) hb
    (by
      have e : (fun σ' => ∃ a b, ok a b ∧ σ' = st a b) = (fun σ' => ∃ a : α × β, ok a.1 a.2 ∧ σ' = st a.1 a.2) := by
        funext σ'
        exact propext ⟨fun ⟨a, b, h⟩ => ⟨(a, b), h⟩, fun ⟨p, h⟩ => ⟨p.1, p.2, h⟩⟩
      rw [e] at h0
      exact h0) (fun p h => hr p.1 p.2 h)
def extR (o : OptV) (row : List PickV) : List (List PickV) := o.values.map fun v => row ++ [(⟨o.name, v⟩ : PickV)]
def rowsN (opts : List OptV) : List (List PickV) := opts.foldl (fun all o => all.flatMap (extR o)) [[]]
theorem rowsN_snoc {l : List OptV} {i : Nat} {o : OptV} (h : l[i]? = some o) : rowsN (l.take (i + 1)) = (rowsN (l.take i)).flatMap (extR o) := by
  unfold rowsN; rw [take_snoc h, List.foldl_append]; rfl
theorem flat_snoc {α β : Type} {f : α → List β} {l : List α} {j : Nat} {x : α} (h : l[j]? = some x) : (l.take (j + 1)).flatMap f = (l.take j).flatMap f ++ f x := by
  rw [take_snoc h, List.flatMap_append]; simp
theorem flat_bound {α β : Type} {f : α → List β} {b : Nat} : ∀ {l : List α}, (∀ x ∈ l, (f x).length ≤ b) → (l.flatMap f).length ≤ l.length * b
  | [], _ => by simp
  | x :: l, h => by
    have h1 := h x (by simp)
    have h2 := flat_bound (f := f) (b := b) (l := l) (fun y hy => h y (by simp [hy]))
    rw [List.flatMap_cons, List.length_append, List.length_cons, Nat.add_mul]
    omega
theorem ext_len (o : OptV) (row : List PickV) : (extR o row).length = o.values.length := by simp [extR]
theorem rows_bound {m : ModelV} (h : isModelP m) : ∀ i, (rowsN (m.options.take i)).length ≤ 4 ^ i ∧ ∀ r ∈ rowsN (m.options.take i), r.length ≤ i
  | 0 => by simp [rowsN]
  | i + 1 => by
    have ih := rows_bound h i
    rcases Nat.lt_or_ge i m.options.length with hi | hi
    · have ho : m.options[i]? = some m.options[i] := List.getElem?_eq_getElem hi
      rw [rowsN_snoc ho]
      have hv := (h.2.2.1 _ (get_mem ho)).2.1
      refine ⟨?_, fun r hr => ?_⟩
      · have := flat_bound (f := extR m.options[i]) (b := 4) (l := rowsN (m.options.take i)) (fun x _ => by rw [ext_len]; exact hv)
        have h4 : 4 ^ (i + 1) = 4 ^ i * 4 := Nat.pow_succ ..
        omega
      · obtain ⟨row, hrow, hr2⟩ := List.mem_flatMap.1 hr
        obtain ⟨v, _, rfl⟩ := List.mem_map.1 hr2
        have := ih.2 row hrow
        simp; omega
    · have e : m.options.take (i + 1) = m.options.take i := by rw [List.take_of_length_le (by omega), List.take_of_length_le (by omega)]
      rw [e]
      have h4 : 4 ^ (i + 1) = 4 ^ i * 4 := Nat.pow_succ ..
      exact ⟨by have := ih.1; omega, fun r hr => by have := ih.2 r hr; omega⟩
theorem rows_ok {m : ModelV} (hm : m.ok) : ∀ i, ∀ r ∈ rowsN (m.options.take i), ∀ p ∈ r, PickV.ok p
  | 0 => by simp [rowsN]
  | i + 1 => by
    have ih := rows_ok hm i
    rcases Nat.lt_or_ge i m.options.length with hi | hi
    · have ho : m.options[i]? = some m.options[i] := List.getElem?_eq_getElem hi
      rw [rowsN_snoc ho]
      intro r hr p hp
      obtain ⟨row, hrow, hr2⟩ := List.mem_flatMap.1 hr
      obtain ⟨v, hv, rfl⟩ := List.mem_map.1 hr2
      have hok := hm.1.2 _ (get_mem ho)
      rcases List.mem_append.1 hp with h1 | h1
      · exact ih row hrow p h1
      · simp at h1; subst h1; exact ⟨hok.1, hok.2.2 v hv⟩
    · have e : m.options.take (i + 1) = m.options.take i := by rw [List.take_of_length_le (by omega), List.take_of_length_le (by omega)]
      rw [e]; exact ih
noncomputable def fitsB (rules : List (List NodeV)) (c : List PickV) : Bool := rules.all fun r => evalN r c
noncomputable def choicesN (m : ModelV) : List (List PickV) := (rowsN m.options).filter (fitsB m.rules)
theorem all_snoc {α : Type} {f : α → Bool} {l : List α} {j : Nat} {x : α} (h : l[j]? = some x) : (l.take (j + 1)).all f = ((l.take j).all f && f x) := by
  rw [take_snoc h]; simp
theorem filter_y {α : Type} {f : α → Bool} {l : List α} {j : Nat} {x : α} (h : l[j]? = some x) (hf : f x = true) : (l.take (j + 1)).filter f = (l.take j).filter f ++ [x] := by
  rw [take_snoc h]; simp [hf]
theorem filter_n {α : Type} {f : α → Bool} {l : List α} {j : Nat} {x : α} (h : l[j]? = some x) (hf : f x = false) : (l.take (j + 1)).filter f = (l.take j).filter f := by
  rw [take_snoc h]; simp [hf]
theorem app_one {α : Type} {f : α → D} {l : List α} {x : α} {m : Nat} (h : m = l.length) : (l ++ [x]).map f = (l.map f).take m ++ [f x] := by
  subst h; rw [List.take_of_length_le (by simp)]; simp

set_option maxHeartbeats 4000000 in
theorem c_impl_ChoicesOf0 (m : ModelV) (hm : m.ok) (r : Res) (hr : (isModelP m → r = .one (.own ⟨28, 1, (choicesN m).map (lD PickV.dat)⟩)) ∧ (¬ isModelP m → r = .one (.d (.sl [])))) : Contract Try.prog 19 [.d m.dat] r := by
  refine contract_byR [14] hma hTa Try.func19 (by kernel_rfl) (by kernel_rfl) ?_
  have hm2 := hm
  obtain ⟨⟨hlen, hok⟩, ⟨hlen2, hok2⟩⟩ := hm2
  conv => whnf
  have e1 : (List.map OptV.dat m.options).length = m.options.length := List.length_map _
  have e2 : (List.map (lD NodeV.dat) m.rules).length = m.rules.length := List.length_map _
  refine CallK_tr (c_impl_IsModel _ hm) (fun hmod => ?_) (fun hmod => ?_) <;> conv => whnf
  rotate_left
  · rw [hr.2 hmod]; exact rfl
  have h4 := hmod.1
  have hrb := rows_bound hmod
  refine LoopK_introR [14] hma hTa [(1, .key 1), (2, .pl), (3, .key 3), (23, .pl), (24, .pl), (25, .pl)] (fun i : Nat => ⟨[(1, .ae 1 0), (2, .nil), (3, .av 3 (rowsN (m.options.take i)).length), (23, .d (lD OptV.dat m.options)), (24, .d (iD (m.options.map OptV.dat).length)), (25, .d (iD i))], [(1, some ⟨27, 2, [m.dat]⟩), (3, some ⟨28, 1, (rowsN (m.options.take i)).map (lD PickV.dat)⟩)], []⟩) (fun i => i ≤ m.options.length) (fun i => m.options.length - i) (by kernel_rfl) ?_ ?_
  · conv => whnf
    exact ⟨0, by omega, rfl⟩
  · intro i hi
    conv => whnf
    refine brLt (fun h => ?_) (fun h => ?_) <;> conv => whnf
    · refine IxK_mapLt _ rfl (by omega) (fun o ho => ?_)
      conv => whnf
      have hil := get_lt ho
      have hrows := hrb i
      have h256 : 4 ^ i ≤ 256 := Nat.pow_le_pow_right (by omega) (show i ≤ 4 by omega)
      have hvl := (hmod.2.2.1 o (get_mem ho)).2.1
      have hsn := rowsN_snoc ho
      generalize hR : rowsN (m.options.take i) = rows at hrows hsn ⊢
      have e3 : (List.map (lD PickV.dat) rows).length = rows.length := List.length_map _
      have e4 : (List.map sD o.values).length = o.values.length := List.length_map _
      refine LoopK_introR [14] hma hTa [(1, .key 1), (2, .pl), (23, .pl), (24, .pl), (25, .pl), (5, .key 5), (6, .key 6), (30, .fz), (31, .pl), (32, .pl)] (fun j : Nat => ⟨[(1, .ae 1 0), (2, .nil), (23, .d (lD OptV.dat m.options)), (24, .d (iD (m.options.map OptV.dat).length)), (25, .d (iD i)), (5, .ae 5 0), (6, .av 6 ((rows.take j).flatMap (extR o)).length), (30, .d (lD (lD PickV.dat) rows)), (31, .d (iD rows.length)), (32, .d (iD j))], [(1, some ⟨27, 2, [m.dat]⟩), (5, some ⟨47, 2, [o.dat]⟩), (6, some ⟨28, 1, ((rows.take j).flatMap (extR o)).map (lD PickV.dat)⟩)], []⟩) (fun j => j ≤ rows.length) (fun j => rows.length - j) (by kernel_rfl) ?_ ?_
      · conv => whnf
        refine takeK_full e3.symm ?_
        conv => whnf
        exact ⟨0, by omega, rfl⟩
      · intro j hj
        conv => whnf
        refine brLt (fun h2 => ?_) (fun h2 => ?_) <;> conv => whnf
        · refine IxK_mapLt _ rfl (by omega) (fun row hrow => ?_)
          conv => whnf
          have hjl := get_lt hrow
          have hrl := hrows.2 row (get_mem hrow)
          have hfs := flat_snoc (f := extR o) hrow
          have hfb := flat_bound (f := extR o) (b := 4) (l := rows.take j) (fun x _ => by rw [ext_len]; exact hvl)
          have hjt : (rows.take j).length ≤ rows.length := by simp; omega
          generalize hX : (rows.take j).flatMap (extR o) = next at hfs hfb ⊢
          refine LoopK_introR [14] hma hTa [(1, .key 1), (2, .pl), (23, .pl), (24, .pl), (25, .pl), (5, .key 5), (6, .key 6), (30, .pl), (31, .pl), (32, .pl), (8, .pl), (37, .pl), (38, .pl), (39, .pl)] (fun k : Nat => ⟨[(1, .ae 1 0), (2, .nil), (23, .d (lD OptV.dat m.options)), (24, .d (iD (m.options.map OptV.dat).length)), (25, .d (iD i)), (5, .ae 5 0), (6, .av 6 (next ++ (extR o row).take k).length), (30, .d (lD (lD PickV.dat) rows)), (31, .d (iD rows.length)), (32, .d (iD j)), (8, .d (lD PickV.dat row)), (37, .d (lD sD o.values)), (38, .d (iD (o.values.map sD).length)), (39, .d (iD k))], [(1, some ⟨27, 2, [m.dat]⟩), (5, some ⟨47, 2, [o.dat]⟩), (6, some ⟨28, 1, (next ++ (extR o row).take k).map (lD PickV.dat)⟩)], []⟩) (fun k => k ≤ o.values.length) (fun k => o.values.length - k) (by kernel_rfl) ?_ ?_
          · conv => whnf
            exact ⟨0, by omega, by rw [List.take_zero, List.append_nil]; rfl⟩
          · intro k hk
            conv => whnf
            refine brLt (fun h3 => ?_) (fun h3 => ?_) <;> conv => whnf
            · refine IxK_mapLt _ rfl (by omega) (fun v hv => ?_)
              conv => whnf
              have hkl := get_lt hv
              have hex : (extR o row)[k]? = some (row ++ [(⟨o.name, v⟩ : PickV)]) := by simp [extR, hv]
              refine AppK_intro (n := row.length) (xs' := row.map PickV.dat) (by simp) (by simp) (by omega) (wd fun _ => rfl) ?_
              conv => whnf
              refine AppK_intro (n := row.length + 1) (xs' := (row ++ [(⟨o.name, v⟩ : PickV)]).map PickV.dat) rfl (app_one rfl) (by omega) (by simp [D.width, Ty.width]) ?_
              conv => whnf
              refine takeK_full (by simp) ?_
              conv => whnf
              refine AppK_intro (n := (next ++ (extR o row).take (k + 1)).length) (xs' := (next ++ (extR o row).take (k + 1)).map (lD PickV.dat)) (by rw [take_snoc hex]; simp; omega) (by rw [take_snoc hex, ← List.append_assoc]; exact app_one rfl) (by rw [take_snoc hex]; simp [ext_len]; omega) (by simp [D.width, Ty.width]) ?_
              conv => whnf
              refine KeysK_intro (by kernel_rfl) ?_
              conv => whnf
              refine WrK_i64 (by omega) (by omega) ?_
              conv => whnf
              exact ⟨k + 1, hkl, Nat.sub_lt_sub_left hkl (Nat.lt_succ_self k), rfl⟩
            · have ek : k = o.values.length := by omega
              rw [List.take_of_length_le (by rw [ext_len]; omega), ← hfs]
              refine WrK_i64 (by omega) (by omega) ?_
              conv => whnf
              exact ⟨j + 1, hjl, Nat.sub_lt_sub_left hjl (Nat.lt_succ_self j), rfl⟩
        · have ej : j = rows.length := by omega
          rw [List.take_of_length_le (by omega), ← hsn]
          refine WrK_i64 (by omega) (by omega) ?_
          conv => whnf
          exact ⟨i + 1, hil, Nat.sub_lt_sub_left hil (Nat.lt_succ_self i), rfl⟩
    · have hro := rows_ok hm i
      have hrows := hrb i
      have h256 : 4 ^ i ≤ 256 := Nat.pow_le_pow_right (by omega) (show i ≤ 4 by omega)
      have et : m.options.take i = m.options := List.take_of_length_le (by omega)
      have hr1 := hr.1 hmod
      unfold choicesN at hr1
      rw [et] at hro hrows ⊢
      generalize hR : rowsN m.options = rows at hr1 hro hrows ⊢
      have e3 : (List.map (lD PickV.dat) rows).length = rows.length := List.length_map _
      refine LoopK_introR [14] hma hTa [(1, .key 1), (2, .pl), (11, .key 11), (60, .fz), (61, .pl), (62, .pl)] (fun j : Nat => ⟨[(1, .ae 1 0), (2, .nil), (11, .av 11 ((rows.take j).filter (fitsB m.rules)).length), (60, .d (lD (lD PickV.dat) rows)), (61, .d (iD rows.length)), (62, .d (iD j))], [(1, some ⟨27, 2, [m.dat]⟩), (11, some ⟨28, 1, ((rows.take j).filter (fitsB m.rules)).map (lD PickV.dat)⟩)], []⟩) (fun j => j ≤ rows.length) (fun j => rows.length - j) (by kernel_rfl) ?_ ?_
      · conv => whnf
        refine takeK_full e3.symm ?_
        conv => whnf
        exact ⟨0, by omega, rfl⟩
      · intro j hj
        conv => whnf
        refine brLt (fun h2 => ?_) (fun h2 => ?_) <;> conv => whnf
        · refine IxK_mapLt _ rfl (by omega) (fun row hrow => ?_)
          conv => whnf
          have hjl := get_lt hrow
          have hjt : ((rows.take j).filter (fitsB m.rules)).length ≤ rows.length := Nat.le_trans (List.length_filter_le _ _) (by simp; omega)
          have hrl := hrows.2 row (get_mem hrow)
          refine LoopK2R [14] hma hTa [(1, .key 1), (2, .pl), (11, .key 11), (60, .pl), (61, .pl), (62, .pl), (13, .pl), (14, .pl), (67, .pl), (68, .pl), (69, .pl)] (fun (k : Nat) (b : Bool) => ⟨[(1, .ae 1 0), (2, .nil), (11, .av 11 ((rows.take j).filter (fitsB m.rules)).length), (60, .d (lD (lD PickV.dat) rows)), (61, .d (iD rows.length)), (62, .d (iD j)), (13, .d (lD PickV.dat row)), (14, .d (bD b)), (67, .d (lD (lD NodeV.dat) m.rules)), (68, .d (iD (m.rules.map (lD NodeV.dat)).length)), (69, .d (iD k))], [(1, some ⟨27, 2, [m.dat]⟩), (11, some ⟨28, 1, ((rows.take j).filter (fitsB m.rules)).map (lD PickV.dat)⟩)], []⟩) (fun k b => k ≤ m.rules.length ∧ b = fitsB (m.rules.take k) row) (fun k _ => m.rules.length - k) (by kernel_rfl) ?_ ?_
          · conv => whnf
            exact ⟨0, true, ⟨by omega, by simp [fitsB]⟩, rfl⟩
          · intro k b ⟨hk, hb⟩
            conv => whnf
            refine brLt (fun h3 => ?_) (fun h3 => ?_) <;> conv => whnf
            · refine IxK_mapLt _ rfl (by omega) (fun ru hru => ?_)
              conv => whnf
              have hkl := get_lt hru
              have hsn : fitsB (m.rules.take (k + 1)) row = (fitsB (m.rules.take k) row && evalN ru row) := all_snoc hru
              refine brB (fun h5 => ?_) (fun h5 => ?_) <;> conv => whnf
              · refine CallK_intro (c_impl_Holds _ (hok2 _ (get_mem hru)) row ⟨by omega, hro row (get_mem hrow)⟩) ?_
                conv => whnf
                refine WrK_i64 (by omega) (by omega) ?_
                conv => whnf
                refine ⟨(k + 1, _), ⟨hkl, ?_⟩, Nat.sub_lt_sub_left hkl (Nat.lt_succ_self k), rfl⟩
                dsimp only
                rw [hsn, ← hb, h5, Bool.true_and]
                exact (tr_bool ⟨fun h6 => ⟨hmod.2.2.2.1 _ (get_mem hru), h6⟩, fun h6 => h6.2⟩).symm
              · refine WrK_i64 (by omega) (by omega) ?_
                conv => whnf
                exact ⟨(k + 1, false), ⟨hkl, by dsimp only; rw [hsn, ← hb, h5, Bool.false_and]⟩, Nat.sub_lt_sub_left hkl (Nat.lt_succ_self k), rfl⟩
            · rw [List.take_of_length_le (by omega)] at hb
              refine brB (fun h5 => ?_) (fun h5 => ?_) <;> conv => whnf
              · have hfy := filter_y (f := fitsB m.rules) hrow (by rw [← hb, h5])
                refine AppK_intro (n := ((rows.take (j + 1)).filter (fitsB m.rules)).length) (xs' := ((rows.take (j + 1)).filter (fitsB m.rules)).map (lD PickV.dat)) (by rw [hfy]; simp) (by rw [hfy]; exact app_one rfl) (by rw [hfy]; simp; omega) (by simp [D.width, Ty.width]) ?_
                conv => whnf
                refine WrK_i64 (by omega) (by omega) ?_
                conv => whnf
                exact ⟨j + 1, hjl, Nat.sub_lt_sub_left hjl (Nat.lt_succ_self j), rfl⟩
              · have hfn := filter_n (f := fitsB m.rules) hrow (by rw [← hb, h5])
                refine WrK_i64 (by omega) (by omega) ?_
                conv => whnf
                exact ⟨j + 1, hjl, Nat.sub_lt_sub_left hjl (Nat.lt_succ_self j), by dsimp only; rw [hfn]; rfl⟩
        · rw [List.take_of_length_le (by omega), hr1]
          exact ⟨rfl, rfl, by simp, rfl⟩

end Go.DL
