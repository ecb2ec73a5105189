/- Contracts of functions of the program, at this seat: what each call returns, by its arguments as data; each states its own conditions. -/
import Derived.Test.YthfagmoaoihhpaaR
namespace Go.DL
set_option maxRecDepth 100000
set_option maxHeartbeats 2000000
set_option linter.unusedSimpArgs false
set_option linter.unusedVariables false
open Go.RowKit Go.Proofs Go.Proofs.Ythfagmoaoihhpaa

def fitV (picks : List PickV) (o : OptV) (v : ByteArray) : Prop := ∀ p ∈ picks, p.option ≠ o.name ∨ p.value = v
noncomputable def extF (picks : List PickV) (o : OptV) (row : List PickV) : List (List PickV) := (o.values.filter fun v => tr (fitV picks o v)).map fun v => row ++ [(⟨o.name, v⟩ : PickV)]
noncomputable def rowsF (picks : List PickV) (opts : List OptV) : List (List PickV) := opts.foldl (fun all o => all.flatMap (extF picks o)) [[]]
noncomputable def allN (m : ModelV) (picks : List PickV) : List (List PickV) := (rowsF picks m.options).filter (fitsB m.rules)
theorem rowsF_snoc {picks : List PickV} {l : List OptV} {i : Nat} {o : OptV} (h : l[i]? = some o) : rowsF picks (l.take (i + 1)) = (rowsF picks (l.take i)).flatMap (extF picks o) := by
  unfold rowsF; rw [take_snoc h, List.foldl_append]; rfl
theorem extF_len (picks : List PickV) (o : OptV) (row : List PickV) : (extF picks o row).length ≤ o.values.length := by
  unfold extF; rw [List.length_map]; exact List.length_filter_le _ _
theorem rowsF_bound {m : ModelV} (picks : List PickV) (h : isModelP m) : ∀ i, (rowsF picks (m.options.take i)).length ≤ 4 ^ i ∧ ∀ r ∈ rowsF picks (m.options.take i), r.length ≤ i
  | 0 => by simp [rowsF]
  | i + 1 => by
    have ih := rowsF_bound picks h i
    rcases Nat.lt_or_ge i m.options.length with hi | hi
    · have ho : m.options[i]? = some m.options[i] := List.getElem?_eq_getElem hi
      rw [rowsF_snoc ho]
      have hv := (h.2.2.1 _ (get_mem ho)).2.1
      refine ⟨?_, fun r hr => ?_⟩
      · have := flat_bound (f := extF picks m.options[i]) (b := 4) (l := rowsF picks (m.options.take i)) (fun x _ => Nat.le_trans (extF_len _ _ _) hv)
        have h4 : 4 ^ (i + 1) = 4 ^ i * 4 := Nat.pow_succ ..
        omega
      · obtain ⟨row, hrow, hr2⟩ := List.mem_flatMap.1 hr
        obtain ⟨v, _, rfl⟩ := List.mem_map.1 hr2
        have := ih.2 row hrow
        simp; omega
    · have e : m.options.take (i + 1) = m.options.take i := by rw [List.take_of_length_le (by omega), List.take_of_length_le (by omega)]
      rw [e]
      have h4 : 4 ^ (i + 1) = 4 ^ i * 4 := Nat.pow_succ ..
      exact ⟨by have := ih.1; omega, fun r hr => by have := ih.2 r hr; omega⟩
theorem rowsF_ok {m : ModelV} (picks : List PickV) (hm : m.ok) : ∀ i, ∀ r ∈ rowsF picks (m.options.take i), ∀ p ∈ r, PickV.ok p
  | 0 => by simp [rowsF]
  | i + 1 => by
    have ih := rowsF_ok picks hm i
    rcases Nat.lt_or_ge i m.options.length with hi | hi
    · have ho : m.options[i]? = some m.options[i] := List.getElem?_eq_getElem hi
      rw [rowsF_snoc ho]
      intro r hr p hp
      obtain ⟨row, hrow, hr2⟩ := List.mem_flatMap.1 hr
      obtain ⟨v, hv, rfl⟩ := List.mem_map.1 hr2
      have hok := hm.1.2 _ (get_mem ho)
      rcases List.mem_append.1 hp with h1 | h1
      · exact ih row hrow p h1
      · simp at h1; subst h1; exact ⟨hok.1, hok.2.2 v (List.mem_filter.1 hv).1⟩
    · have e : m.options.take (i + 1) = m.options.take i := by rw [List.take_of_length_le (by omega), List.take_of_length_le (by omega)]
      rw [e]; exact ih
theorem fitV_snoc {picks : List PickV} {j : Nat} {p : PickV} {o : OptV} {v : ByteArray} (h : picks[j]? = some p) : fitV (picks.take (j + 1)) o v ↔ fitV (picks.take j) o v ∧ (p.option ≠ o.name ∨ p.value = v) := by
  unfold fitV
  rw [take_snoc h]
  constructor
  · intro h1; exact ⟨fun q hq => h1 q (List.mem_append_left _ hq), h1 p (by simp)⟩
  · rintro ⟨h1, h2⟩ q hq
    rcases List.mem_append.1 hq with h3 | h3
    · exact h1 q h3
    · simp at h3; subst h3; exact h2

set_option maxHeartbeats 4000000 in
theorem c_spec_l7All (m : ModelV) (hm : m.ok) (hmod : isModelP m) (picks : List PickV) (hp : okL PickV.ok picks) : Contract Try.prog 24 [.d m.dat, .d (lD PickV.dat picks)] (.one (.own ⟨28, 1, (allN m picks).map (lD PickV.dat)⟩)) := by
  refine contract_byR [19] hma hTa Try.func24 (by kernel_rfl) (by kernel_rfl) ?_
  have hm2 := hm
  obtain ⟨⟨hlen, hok⟩, ⟨hlen2, hok2⟩⟩ := hm2
  obtain ⟨hlen3, hok3⟩ := hp
  conv => whnf
  have e1 : (List.map OptV.dat m.options).length = m.options.length := List.length_map _
  have e2 : (List.map (lD NodeV.dat) m.rules).length = m.rules.length := List.length_map _
  have e5 : (List.map PickV.dat picks).length = picks.length := List.length_map _
  have h4 := hmod.1
  have hrb := rowsF_bound picks hmod
  refine LoopK_introR [19] hma hTa [(1, .pl), (2, .key 2), (4, .pl), (5, .key 5), (6, .pl)] (fun i : Nat => ⟨[(1, .d (lD PickV.dat picks)), (2, .ae 2 0), (4, .nil), (5, .av 5 (rowsF picks (m.options.take i)).length), (6, .d (iD i))], [(2, some ⟨27, 2, [m.dat]⟩), (5, some ⟨28, 1, (rowsF picks (m.options.take i)).map (lD PickV.dat)⟩)], []⟩) (fun i => i ≤ m.options.length) (fun i => m.options.length - i) (by kernel_rfl) ?_ ?_
  · conv => whnf
    exact ⟨0, by omega, rfl⟩
  · intro i hi
    conv => whnf
    refine brLt (fun h => ?_) (fun h => ?_) <;> conv => whnf
    · obtain ⟨o, ho⟩ : ∃ o, m.options[i]? = some o := ⟨m.options[i]'(by omega), by simp⟩
      have hil := get_lt ho
      have hrows := hrb i
      have h256 : 4 ^ i ≤ 256 := Nat.pow_le_pow_right (by omega) (show i ≤ 4 by omega)
      have hvl := (hmod.2.2.1 o (get_mem ho)).2.1
      have hsn := rowsF_snoc (picks := picks) ho
      generalize hR : rowsF picks (m.options.take i) = rows at hrows hsn ⊢
      have e3 : (List.map (lD PickV.dat) rows).length = rows.length := List.length_map _
      have e4 : (List.map sD o.values).length = o.values.length := List.length_map _
      refine LoopK_introR [19] hma hTa [(1, .pl), (2, .key 2), (4, .pl), (5, .key 5), (6, .pl), (7, .key 7), (8, .pl)] (fun j : Nat => ⟨[(1, .d (lD PickV.dat picks)), (2, .ae 2 0), (4, .nil), (5, .av 5 rows.length), (6, .d (iD i)), (7, .av 7 ((rows.take j).flatMap (extF picks o)).length), (8, .d (iD j))], [(2, some ⟨27, 2, [m.dat]⟩), (5, some ⟨28, 1, rows.map (lD PickV.dat)⟩), (7, some ⟨28, 1, ((rows.take j).flatMap (extF picks o)).map (lD PickV.dat)⟩)], []⟩) (fun j => j ≤ rows.length) (fun j => rows.length - j) (by kernel_rfl) ?_ ?_
      · conv => whnf
        exact ⟨0, by omega, rfl⟩
      · intro j hj
        conv => whnf
        refine brLt (fun h2 => ?_) (fun h2 => ?_) <;> conv => whnf
        · have hjl : j < rows.length := by omega
          obtain ⟨row, hrow⟩ : ∃ row, rows[j]? = some row := ⟨rows[j]'hjl, by simp⟩
          have hrl := hrows.2 row (get_mem hrow)
          have hfs := flat_snoc (f := extF picks o) hrow
          have hfb := flat_bound (f := extF picks o) (b := 4) (l := rows.take j) (fun x _ => Nat.le_trans (extF_len _ _ _) hvl)
          have hjt : (rows.take j).length ≤ rows.length := by simp; omega
          generalize hX : (rows.take j).flatMap (extF picks o) = next at hfs hfb ⊢
          have hg : (rows.map (lD PickV.dat))[j]? = some (lD PickV.dat row) := by simp [hrow]
          have hstep : ∀ (k : Nat) (v : ByteArray), o.values[k]? = some v → (((o.values.take (k + 1)).filter fun v => tr (fitV picks o v)).map fun v => row ++ [(⟨o.name, v⟩ : PickV)]) = (((o.values.take k).filter fun v => tr (fitV picks o v)).map fun v => row ++ [(⟨o.name, v⟩ : PickV)]) ++ (if tr (fitV picks o v) then [row ++ [(⟨o.name, v⟩ : PickV)]] else []) := fun k v hv => by
            rw [take_snoc hv]
            cases ht : tr (fitV picks o v) <;> simp [ht]
          have hlenk : ∀ k, (((o.values.take k).filter fun v => tr (fitV picks o v)).map fun v => row ++ [(⟨o.name, v⟩ : PickV)]).length ≤ 4 := fun k => by
            rw [List.length_map]
            have := List.length_filter_le (fun v => tr (fitV picks o v)) (o.values.take k)
            simp at this ⊢
            omega
          refine LoopK_introR [19] hma hTa [(1, .pl), (2, .key 2), (4, .pl), (5, .key 5), (6, .pl), (7, .key 7), (8, .pl), (9, .pl)] (fun k : Nat => ⟨[(1, .d (lD PickV.dat picks)), (2, .ae 2 0), (4, .nil), (5, .av 5 rows.length), (6, .d (iD i)), (7, .av 7 (next ++ (((o.values.take k).filter fun v => tr (fitV picks o v)).map fun v => row ++ [(⟨o.name, v⟩ : PickV)])).length), (8, .d (iD j)), (9, .d (iD k))], [(2, some ⟨27, 2, [m.dat]⟩), (5, some ⟨28, 1, rows.map (lD PickV.dat)⟩), (7, some ⟨28, 1, (next ++ (((o.values.take k).filter fun v => tr (fitV picks o v)).map fun v => row ++ [(⟨o.name, v⟩ : PickV)])).map (lD PickV.dat)⟩)], []⟩) (fun k => k ≤ o.values.length) (fun k => o.values.length - k) (by kernel_rfl) ?_ ?_
          · conv => whnf
            exact ⟨0, by omega, by simp; rfl⟩
          · intro k hk
            conv => whnf
            refine IxK_map _ rfl ho ?_
            conv => whnf
            refine brLt (fun h3 => ?_) (fun h3 => ?_) <;> conv => whnf
            · refine IxK_map _ rfl ho ?_
              conv => whnf
              refine IxK_map _ rfl ho ?_
              conv => whnf
              refine IxK_mapLt _ rfl (by omega) (fun v hv => ?_)
              conv => whnf
              have hkl := get_lt hv
              have hst := hstep k v hv
              have hlk := hlenk k
              generalize hN : next ++ (((o.values.take k).filter fun v => tr (fitV picks o v)).map fun v => row ++ [(⟨o.name, v⟩ : PickV)]) = nx
              have hnl : nx.length ≤ 2000 := by rw [← hN]; simp only [List.length_append]; omega
              refine LoopK2R [19] hma hTa [(1, .pl), (2, .key 2), (4, .pl), (5, .key 5), (6, .pl), (7, .key 7), (8, .pl), (9, .pl), (10, .key 10), (11, .pl), (12, .pl)] (fun (t : Nat) (b : Bool) => ⟨[(1, .d (lD PickV.dat picks)), (2, .ae 2 0), (4, .nil), (5, .av 5 rows.length), (6, .d (iD i)), (7, .av 7 nx.length), (8, .d (iD j)), (9, .d (iD k)), (10, .ae 10 0), (11, .d (bD b)), (12, .d (iD t))], [(2, some ⟨27, 2, [m.dat]⟩), (5, some ⟨28, 1, rows.map (lD PickV.dat)⟩), (7, some ⟨28, 1, nx.map (lD PickV.dat)⟩), (10, some ⟨42, 2, [PickV.dat ⟨o.name, v⟩]⟩)], []⟩) (fun t b => t ≤ picks.length ∧ (b = true ↔ fitV (picks.take t) o v)) (fun t _ => picks.length - t) (by kernel_rfl) ?_ ?_
              · conv => whnf
                exact ⟨0, true, ⟨by omega, by simp [fitV]⟩, rfl⟩
              · intro t b ⟨ht, hb⟩
                conv => whnf
                refine brLt (fun h5 => ?_) (fun h5 => ?_) <;> conv => whnf
                · have htl : t < picks.length := by omega
                  obtain ⟨q, hq⟩ : ∃ q, picks[t]? = some q := ⟨picks[t]'htl, by simp⟩
                  have hsq := fitV_snoc (o := o) (v := v) hq
                  refine brB (fun h6 => ?_) (fun h6 => ?_) <;> conv => whnf
                  · have hfb := hb.1 h6
                    refine IxK_map _ rfl hq ?_
                    conv => whnf
                    refine brNStr (fun h7 => ?_) (fun h7 => ?_) <;> conv => whnf
                    · refine IxK_map _ rfl hq ?_
                      conv => whnf
                      refine WrK_i64 (by omega) (by omega) ?_
                      conv => whnf
                      exact ⟨(t + 1, _), ⟨htl, by dsimp only; rw [hsq, strEq_iff]; exact ⟨fun h8 => ⟨hfb, .inr h8⟩, fun h8 => h8.2.resolve_left (fun h9 => h9 h7)⟩⟩, Nat.sub_lt_sub_left htl (Nat.lt_succ_self t), rfl⟩
                    · refine WrK_i64 (by omega) (by omega) ?_
                      conv => whnf
                      exact ⟨(t + 1, true), ⟨htl, by dsimp only; rw [hsq]; exact ⟨fun _ => ⟨hfb, .inl h7⟩, fun _ => rfl⟩⟩, Nat.sub_lt_sub_left htl (Nat.lt_succ_self t), rfl⟩
                  · refine WrK_i64 (by omega) (by omega) ?_
                    conv => whnf
                    exact ⟨(t + 1, false), ⟨htl, by dsimp only; rw [hsq]; exact ⟨fun h8 => (by cases h8), fun h8 => by rw [hb.2 h8.1] at h6; cases h6⟩⟩, Nat.sub_lt_sub_left htl (Nat.lt_succ_self t), rfl⟩
                · rw [List.take_of_length_le (by omega)] at hb
                  refine brB (fun h6 => ?_) (fun h6 => ?_) <;> conv => whnf
                  · rw [tr_t (hb.1 h6), if_pos rfl] at hst
                    refine IxA_intro j rfl hjl ?_
                    conv => whnf
                    refine getK_intro hg ?_
                    conv => whnf
                    refine AppK_intro (n := row.length) (xs' := row.map PickV.dat) (by simp) (by simp) (by omega) (wd fun _ => rfl) ?_
                    conv => whnf
                    refine AppK_intro (n := row.length + 1) (xs' := (row ++ [(⟨o.name, v⟩ : PickV)]).map PickV.dat) rfl (app_one rfl) (by omega) (by simp [PickV.dat, D.width, Ty.width]) ?_
                    conv => whnf
                    refine takeK_full (by simp) ?_
                    conv => whnf
                    refine AppK_intro (n := nx.length + 1) (xs' := (nx ++ [row ++ [(⟨o.name, v⟩ : PickV)]]).map (lD PickV.dat)) rfl (app_one rfl) (by omega) (by simp [D.width, Ty.width]) ?_
                    conv => whnf
                    refine KeysK_intro (by kernel_rfl) ?_
                    conv => whnf
                    refine WrK_i64 (by omega) (by omega) ?_
                    conv => whnf
                    have e9 : next ++ (((o.values.take (k + 1)).filter fun v => tr (fitV picks o v)).map fun v => row ++ [(⟨o.name, v⟩ : PickV)]) = nx ++ [row ++ [(⟨o.name, v⟩ : PickV)]] := by rw [hst, ← hN, List.append_assoc]
                    exact ⟨k + 1, hkl, Nat.sub_lt_sub_left hkl (Nat.lt_succ_self k), by dsimp only; rw [e9, List.length_append]; rfl⟩
                  · have hnf : ¬ fitV picks o v := fun h8 => by rw [hb.2 h8] at h6; cases h6
                    rw [tr_f hnf] at hst
                    refine WrK_i64 (by omega) (by omega) ?_
                    conv => whnf
                    have e9 : next ++ (((o.values.take (k + 1)).filter fun v => tr (fitV picks o v)).map fun v => row ++ [(⟨o.name, v⟩ : PickV)]) = nx := by rw [hst, ← hN]; simp
                    exact ⟨k + 1, hkl, Nat.sub_lt_sub_left hkl (Nat.lt_succ_self k), by dsimp only; rw [e9]; rfl⟩
            · have ek : o.values.take k = o.values := List.take_of_length_le (by omega)
              have e9 : next ++ (((o.values.take k).filter fun v => tr (fitV picks o v)).map fun v => row ++ [(⟨o.name, v⟩ : PickV)]) = (rows.take (j + 1)).flatMap (extF picks o) := by rw [ek, hfs]; rfl
              rw [e9]
              refine WrK_i64 (by omega) (by omega) ?_
              conv => whnf
              exact ⟨j + 1, hjl, Nat.sub_lt_sub_left hjl (Nat.lt_succ_self j), rfl⟩
        · rw [List.take_of_length_le (by omega), ← hsn]
          refine WrK_i64 (by omega) (by omega) ?_
          conv => whnf
          exact ⟨i + 1, hil, Nat.sub_lt_sub_left hil (Nat.lt_succ_self i), rfl⟩
    · have hro := rowsF_ok picks hm i
      have hrows := hrb i
      have h256 : 4 ^ i ≤ 256 := Nat.pow_le_pow_right (by omega) (show i ≤ 4 by omega)
      have et : m.options.take i = m.options := List.take_of_length_le (by omega)
      unfold allN
      rw [et] at hro hrows ⊢
      generalize hR : rowsF picks m.options = rows at hro hrows ⊢
      have e3 : (List.map (lD PickV.dat) rows).length = rows.length := List.length_map _
      refine LoopK_introR [19] hma hTa [(2, .key 2), (4, .pl), (5, .key 5), (13, .key 13), (14, .pl)] (fun j : Nat => ⟨[(2, .ae 2 0), (4, .nil), (5, .av 5 rows.length), (13, .av 13 ((rows.take j).filter (fitsB m.rules)).length), (14, .d (iD j))], [(2, some ⟨27, 2, [m.dat]⟩), (5, some ⟨28, 1, rows.map (lD PickV.dat)⟩), (13, some ⟨28, 1, ((rows.take j).filter (fitsB m.rules)).map (lD PickV.dat)⟩)], []⟩) (fun j => j ≤ rows.length) (fun j => rows.length - j) (by kernel_rfl) ?_ ?_
      · conv => whnf
        exact ⟨0, by omega, rfl⟩
      · intro j hj
        conv => whnf
        refine brLt (fun h2 => ?_) (fun h2 => ?_) <;> conv => whnf
        · have hjl : j < rows.length := by omega
          obtain ⟨row, hrow⟩ : ∃ row, rows[j]? = some row := ⟨rows[j]'hjl, by simp⟩
          have hrl := hrows.2 row (get_mem hrow)
          have hg : (rows.map (lD PickV.dat))[j]? = some (lD PickV.dat row) := by simp [hrow]
          have hjt : ((rows.take j).filter (fitsB m.rules)).length ≤ rows.length := Nat.le_trans (List.length_filter_le _ _) (by simp; omega)
          refine LoopK2R [19] hma hTa [(2, .key 2), (4, .pl), (5, .key 5), (13, .key 13), (14, .pl), (15, .pl), (16, .pl)] (fun (k : Nat) (b : Bool) => ⟨[(2, .ae 2 0), (4, .nil), (5, .av 5 rows.length), (13, .av 13 ((rows.take j).filter (fitsB m.rules)).length), (14, .d (iD j)), (15, .d (bD b)), (16, .d (iD k))], [(2, some ⟨27, 2, [m.dat]⟩), (5, some ⟨28, 1, rows.map (lD PickV.dat)⟩), (13, some ⟨28, 1, ((rows.take j).filter (fitsB m.rules)).map (lD PickV.dat)⟩)], []⟩) (fun k b => k ≤ m.rules.length ∧ b = fitsB (m.rules.take k) row) (fun k _ => m.rules.length - k) (by kernel_rfl) ?_ ?_
          · conv => whnf
            exact ⟨0, true, ⟨by omega, by simp [fitsB]⟩, rfl⟩
          · intro k b ⟨hk, hb⟩
            conv => whnf
            refine brLt (fun h3 => ?_) (fun h3 => ?_) <;> conv => whnf
            · have hkl : k < m.rules.length := by omega
              obtain ⟨ru, hru⟩ : ∃ ru, m.rules[k]? = some ru := ⟨m.rules[k]'hkl, by simp⟩
              have hsn : fitsB (m.rules.take (k + 1)) row = (fitsB (m.rules.take k) row && evalN ru row) := all_snoc hru
              refine brB (fun h5 => ?_) (fun h5 => ?_) <;> conv => whnf
              · refine IxK_map _ rfl hru ?_
                conv => whnf
                refine IxA_intro j rfl hjl ?_
                conv => whnf
                refine getK_intro hg ?_
                conv => whnf
                refine CallK_intro (c_spec_l6Eval _ (hok2 _ (get_mem hru)) (hmod.2.2.2.1 _ (get_mem hru)) row ⟨by omega, hro row (get_mem hrow)⟩) ?_
                conv => whnf
                refine WrK_i64 (by omega) (by omega) ?_
                conv => whnf
                exact ⟨(k + 1, evalN ru row), ⟨hkl, by dsimp only; rw [hsn, ← hb, h5, Bool.true_and]⟩, Nat.sub_lt_sub_left hkl (Nat.lt_succ_self k), rfl⟩
              · refine WrK_i64 (by omega) (by omega) ?_
                conv => whnf
                exact ⟨(k + 1, false), ⟨hkl, by dsimp only; rw [hsn, ← hb, h5, Bool.false_and]⟩, Nat.sub_lt_sub_left hkl (Nat.lt_succ_self k), rfl⟩
            · rw [List.take_of_length_le (by omega)] at hb
              refine brB (fun h5 => ?_) (fun h5 => ?_) <;> conv => whnf
              · have hfy := filter_y (f := fitsB m.rules) hrow (by rw [← hb, h5])
                refine IxA_intro j rfl hjl ?_
                conv => whnf
                refine getK_intro hg ?_
                conv => whnf
                refine AppK_intro (n := ((rows.take (j + 1)).filter (fitsB m.rules)).length) (xs' := ((rows.take (j + 1)).filter (fitsB m.rules)).map (lD PickV.dat)) (by rw [hfy]; simp) (by rw [hfy]; exact app_one rfl) (by rw [hfy]; simp; omega) (by simp [D.width, Ty.width]) ?_
                conv => whnf
                refine WrK_i64 (by omega) (by omega) ?_
                conv => whnf
                exact ⟨j + 1, hjl, Nat.sub_lt_sub_left hjl (Nat.lt_succ_self j), rfl⟩
              · have hfn := filter_n (f := fitsB m.rules) hrow (by rw [← hb, h5])
                refine WrK_i64 (by omega) (by omega) ?_
                conv => whnf
                exact ⟨j + 1, hjl, Nat.sub_lt_sub_left hjl (Nat.lt_succ_self j), by dsimp only; rw [hfn]; rfl⟩
        · rw [List.take_of_length_le (by omega)]
          exact ⟨rfl, rfl, by simp, rfl⟩

end Go.DL
