/- Contracts of functions of the program, at this seat: what each call returns, by its arguments as data; each states its own conditions. -/
import Derived.Test.YthifncefbpmdiaaPF
namespace Go.DL
set_option maxRecDepth 100000
set_option maxHeartbeats 2000000
set_option linter.unusedSimpArgs false
set_option linter.unusedVariables false
open Go.RowKit Go.Proofs Go.Proofs.Ythifncefbpmdiaa

/-! The reference's explosion: downwards in the order of the levels. -/
theorem ord_before {n : Nat} {f : Nat → Int} {k p : Nat} (hp : (ordN n f)[k]? = some p) : p ∉ (ordN n f).take k ∧ ∀ q ∈ ordN n f, f q < f p → q ∈ (ordN n f).take k := by
  have hpw := ord_pair n f
  have hk := get_lt hp
  have hs : ordN n f = (ordN n f).take k ++ p :: (ordN n f).drop (k + 1) := by
    rw [show p = (ordN n f)[k]'hk from (by rw [List.getElem?_eq_getElem hk] at hp; exact (Option.some.inj hp).symm), List.getElem_cons_drop, List.take_append_drop]
  generalize (ordN n f).drop (k + 1) = t at hs ⊢
  generalize (ordN n f).take k = r at hs
  rw [hs, List.pairwise_append] at hpw
  obtain ⟨_, h2, h3⟩ := hpw
  rw [List.pairwise_cons] at h2
  refine ⟨fun h => (h3 p h p (by simp)).2 rfl, fun q hq hlt => ?_⟩
  rw [hs] at hq
  rcases List.mem_append.1 hq with h | h
  · exact h
  · rcases List.mem_cons.1 h with rfl | h
    · omega
    · have := (h2.1 q h).1; omega
noncomputable def wO (E : List EQ) (O : Nat → Prop) (a : Nat) (q : Int) (N : Nat → Int) (ord : List Nat) (k j : Nat) : Int := dlt a q j + partP E O (fun p => p ∈ ord.take k) N j
theorem take_at {α : Type} {l : List α} {k : Nat} {p : α} (h : l[k]? = some p) : l.take (k + 1) = l.take k ++ [p] := by
  rw [List.take_add_one, h]; rfl
theorem wO_zero {E : List EQ} {O : Nat → Prop} {a : Nat} {q : Int} {N : Nat → Int} {ord : List Nat} (j : Nat) : wO E O a q N ord 0 j = dlt a q j := by
  unfold wO
  have : partP E O (fun p => p ∈ ord.take 0) N j = 0 := sumI_zero fun e _ => if_neg fun h1 => by have := h1.2.2; simp at this
  rw [this]; omega
theorem wO_nn {E : List EQ} {O : Nat → Prop} {a n : Nat} {q : Int} {N lev : Nat → Int} {ord : List Nat} (h : PieceOK E O a n q N lev) (k j : Nat) : 0 ≤ wO E O a q N ord k j := by
  have := partP_nn (O := O) (Pr := fun p => p ∈ ord.take k) h.qn h.sol.nn j
  have := h.dl j
  unfold wO; omega
theorem wO_full {E : List EQ} {O : Nat → Prop} {a n : Nat} {q : Int} {N lev : Nat → Int} {ord : List Nat} (h : PieceOK E O a n q N lev) (hm : ∀ q, q < n → q ∈ ord) {k p : Nat} (hb : ∀ q ∈ ord, lev q < lev p → q ∈ ord.take k) : wO E O a q N ord k p = N p := by
  rw [h.eqN]
  unfold wO
  congr 1
  refine partP_congr fun e he h1 _ _ => ⟨fun _ => trivial, fun _ => hb _ (hm _ (h.inE e he).1) ?_⟩
  have := h.st e he
  rw [h1] at this; exact this
theorem wO_last {E : List EQ} {O : Nat → Prop} {a n : Nat} {q : Int} {N lev : Nat → Int} {ord : List Nat} (h : PieceOK E O a n q N lev) (hm : ∀ q, q < n → q ∈ ord) (j : Nat) : wO E O a q N ord ord.length j = N j := by
  rw [h.eqN]
  unfold wO
  congr 1
  refine partP_congr fun e he h1 _ _ => ⟨fun _ => trivial, fun _ => ?_⟩
  rw [List.take_length]; exact hm _ (h.inE e he).1
theorem wO_step {E : List EQ} {O : Nat → Prop} {a : Nat} {q : Int} {N : Nat → Int} {ord : List Nat} {k p : Nat} (hp : ord[k]? = some p) (hn : p ∉ ord.take k) (hO : O p) (j : Nat) : wO E O a q N ord k j + partI E p N E.length j = wO E O a q N ord (k + 1) j := by
  have h1 := partI_full (E := E) (Pr := fun x => x ∈ ord.take k) (N := N) (j := j) hO hn
  have h2 : partP E O (fun x => x ∈ ord.take k ∨ x = p) N j = partP E O (fun x => x ∈ ord.take (k + 1)) N j := partP_congr fun e _ _ _ _ => by rw [take_at hp]; simp
  unfold wO
  rw [← h2, ← h1]; omega
noncomputable def partD (cat : List ItemV) (lines : List LineV) (day : Int) (c : List PickV) (N : Nat → Int) (p t j : Nat) : Int := sumI (fun e : EQ => if e.2.1 = j ∧ e.1 = p then e.2.2 * N p else 0) (edQ cat (activeN day c (lines.take t)))
theorem partD_y {cat : List ItemV} {lines : List LineV} {day : Int} {c : List PickV} {N : Nat → Int} {p i j : Nat} {x : LineV} (hx : lines[i]? = some x) (h1 : onP day c x) (h2 : (idxOf cat x.parent).toNat = p) : partD cat lines day c N p (i + 1) j = partD cat lines day c N p i j + (if j = (idxOf cat x.part).toNat then N p * x.quantity else 0) := by
  unfold partD activeN edQ
  rw [filter_y hx (show onB day c x = true from tr_t h1), List.map_append, sumI_append]
  congr 1
  simp only [List.map_cons, List.map_nil, sumI, List.foldr]
  by_cases e : (idxOf cat x.part).toNat = j
  · rw [if_pos ⟨e, h2⟩, if_pos e.symm, Int.mul_comm]; simp
  · rw [if_neg (fun h => e h.1), if_neg (fun h => e h.symm)]; simp
theorem partD_n {cat : List ItemV} {lines : List LineV} {day : Int} {c : List PickV} {N : Nat → Int} {p i j : Nat} {x : LineV} (hx : lines[i]? = some x) (h : ¬ (onP day c x ∧ (idxOf cat x.parent).toNat = p ∧ N p ≠ 0)) : partD cat lines day c N p (i + 1) j = partD cat lines day c N p i j := by
  unfold partD activeN edQ
  by_cases h1 : onP day c x
  · rw [filter_y hx (show onB day c x = true from tr_t h1), List.map_append, sumI_append]
    have : sumI (fun e : EQ => if e.2.1 = j ∧ e.1 = p then e.2.2 * N p else 0) (List.map (fun x : LineV => ((idxOf cat x.parent).toNat, (idxOf cat x.part).toNat, x.quantity)) [x]) = 0 := sumI_zero fun e he => by
      simp only [List.map_cons, List.map_nil, List.mem_singleton] at he
      subst he
      split
      · rename_i h3
        by_cases h4 : N p = 0
        · rw [h4, Int.mul_zero]
        · exact absurd ⟨h1, h3.2, h4⟩ h
      · rfl
    rw [this]; omega
  · rw [filter_n hx (show onB day c x = false from tr_f h1)]
theorem partD_zero (cat : List ItemV) (lines : List LineV) (day : Int) (c : List PickV) (N : Nat → Int) (p j : Nat) : partD cat lines day c N p 0 j = 0 := by simp [partD, activeN, edQ, sumI]
theorem partD_full {cat : List ItemV} {lines : List LineV} {day : Int} {c : List PickV} {N : Nat → Int} {p i j : Nat} (h : lines.length ≤ i) : partD cat lines day c N p i j = partI (edQ cat (activeN day c lines)) p N (edQ cat (activeN day c lines)).length j := by
  unfold partD partI; rw [List.take_of_length_le h, List.take_length]
theorem actTake {lines : List LineV} {day : Int} {c : List PickV} {t : Nat} {x : LineV} (h : x ∈ activeN day c (lines.take t)) : x ∈ activeN day c lines := by
  have h1 := List.mem_filter.1 h
  exact List.mem_filter.2 ⟨List.mem_of_mem_take h1.1, h1.2⟩
theorem partD_nn {cat : List ItemV} {lines : List LineV} {day : Int} {c : List PickV} {N : Nat → Int} (hq : ∀ e ∈ edQ cat (activeN day c lines), 0 ≤ e.2.2) (hN : ∀ j, 0 ≤ N j) (p t j : Nat) : 0 ≤ partD cat lines day c N p t j := by
  refine sumI_nonneg fun e he => ?_
  obtain ⟨x, hx, rfl⟩ := List.mem_map.1 he
  have := hq _ (List.mem_map.2 ⟨x, actTake hx, rfl⟩)
  split
  · exact Int.mul_nonneg this (hN _)
  · omega
theorem partD_self {cat : List ItemV} {lines : List LineV} {day : Int} {c : List PickV} {N lev : Nat → Int} (hs : ∀ e ∈ edQ cat (activeN day c lines), lev e.1 < lev e.2.1) (p t : Nat) : partD cat lines day c N p t p = 0 := by
  refine sumI_zero fun e he => if_neg fun h1 => ?_
  obtain ⟨x, hx, rfl⟩ := List.mem_map.1 he
  have := hs _ (List.mem_map.2 ⟨x, actTake hx, rfl⟩)
  rw [h1.1, h1.2] at this; omega
theorem pie_okL {cat : List ItemV} {lines act : List LineV} (hA : ActOK cat lines act) (Op : ItemV → Prop) (a : Nat) {q : Int} (hq : 0 ≤ q) : PieceOK (edQ cat act) (openP cat Op a) a cat.length q (pieN cat act Op a q) (levOf cat lines) := by
  have h := pie_ok hA.self Op a hq
  exact ⟨h.sol, h.qn, h.q0, hA.strict, fun j => (tight_lev _ _).1 j, fun j => lev_small (edges_lt (linesIn_of hA.line)) hA.acyc j, h.inE⟩

set_option maxHeartbeats 8000000 in
theorem c_spec_l10Down (cat : List ItemV) (hc : okL ItemV.ok cat) (h12 : cat.length ≤ 12) (lines : List LineV) (hl : okL LineV.ok lines) (h24 : lines.length ≤ 24) (a : Nat) (ha : a < cat.length) (q : Int) (hq0 : 0 ≤ q) (hq1 : q ≤ 100000) (day : Int) (c : List PickV) (hp : okL PickV.ok c) (hA : ActOK cat lines (activeN day c lines)) :
    Contract Try.prog 108 [.d (lD ItemV.dat cat), .d (lD LineV.dat lines), .d (iD (a : Int)), .d (iD q), .d (iD day), .d (lD PickV.dat c), .d (bD false)] (.one (.own ⟨3, 1, arrF cat.length (fun j => if j = a then 0 else encN (pieN cat (activeN day c lines) (fun _ => True) a q j))⟩)) := by
  refine contract_by hma hTa Try.func108 (by kernel_rfl) (by kernel_rfl) ?_
  have e1 : (List.map ItemV.dat cat).length = cat.length := List.length_map _
  have e2 : (List.map LineV.dat lines).length = lines.length := List.length_map _
  obtain ⟨hlen, hok⟩ := hl
  have hP := pie_okL hA (fun _ => True) a hq0
  have hDn : ∀ p t j, 0 ≤ partD cat lines day c (pieN cat (activeN day c lines) (fun _ => True) a q) p t j := partD_nn hP.qn hP.sol.nn
  have hDs : ∀ p t, partD cat lines day c (pieN cat (activeN day c lines) (fun _ => True) a q) p t p = 0 := partD_self hP.st
  have hDf := fun {p i j : Nat} (h : lines.length ≤ i) => partD_full (cat := cat) (lines := lines) (day := day) (c := c) (N := pieN cat (activeN day c lines) (fun _ => True) a q) (p := p) (j := j) h
  generalize pieN cat (activeN day c lines) (fun _ => True) a q = N at hP hDn hDs hDf ⊢
  generalize hE : edQ cat (activeN day c lines) = E at hP hDf
  conv => whnf
  refine MkK_intro cat.length (by omega) (by omega) (by omega) ?_
  conv => whnf
  refine IxA_intro a rfl ha ?_
  conv => whnf
  refine setK_intro (xs' := arrF cat.length (fun j => encN (dlt a q j))) (by simp; exact ha) ?_ ?_
  · rw [arrF_rep, arrF_set]
    exact arrF_congr fun j _ => by
      unfold dlt
      split <;> rw [enc_le (by omega)]
  conv => whnf
  refine CallK_intro (c_spec_l9Levels_y cat hc lines ⟨hlen, hok⟩ h12 h24 (linesIn_of hA.line) hA.acyc) ?_
  conv => whnf
  refine takeK_full rfl ?_
  conv => whnf
  refine CallK_intro (c_spec_l10Order cat.length (by omega) (levOf cat lines)) ?_
  conv => whnf
  have hlv0 : ∀ j, 0 ≤ levOf cat lines j := fun j => (tight_lev _ _).1 j
  have hlvn : ∀ j, levOf cat lines j < cat.length := fun j => lev_lt (by omega) (edges_lt (linesIn_of hA.line)) hA.acyc j
  have hmem : ∀ q, q < cat.length → q ∈ ordN cat.length (levOf cat lines) := fun q hq => ord_mem.2 ⟨hq, (levOf cat lines q).toNat, by have := hlv0 q; have := hlvn q; omega, by have := hlv0 q; omega⟩
  have hmem2 : ∀ q, q ∈ ordN cat.length (levOf cat lines) → q < cat.length := fun q hq => (ord_mem.1 hq).1
  have hbef := fun {k p : Nat} (hp : (ordN cat.length (levOf cat lines))[k]? = some p) => ord_before hp
  have hol : (ordN cat.length (levOf cat lines)).length ≤ 12 * 12 := Nat.le_trans (ord_len cat.length (levOf cat lines)) (Nat.mul_le_mul h12 h12)
  generalize ordN cat.length (levOf cat lines) = ord at hmem hmem2 hbef hol ⊢
  generalize levOf cat lines = lev at hlv0 hlvn hP hbef ⊢
  have e5 : (List.map nD ord).length = ord.length := List.length_map _
  have hOO : ∀ p, p < cat.length → openP cat (fun _ => True) a p := fun p hp => .inr ⟨cat[p], by simp, trivial⟩
  generalize openP cat (fun _ => True) a = O at hP hOO
  refine LoopK_intro hma hTa [(0, .pl), (1, .pl), (2, .pl), (4, .pl), (5, .pl), (6, .pl), (15, .key 15), (16, .fz), (17, .pl)] (fun k : Nat => ⟨[(0, .d (lD ItemV.dat cat)), (1, .d (lD LineV.dat lines)), (2, .d (iD a)), (4, .d (iD day)), (5, .d (lD PickV.dat c)), (6, .d (bD false)), (15, .av 15 cat.length), (16, .d (lD nD ord)), (17, .d (iD (k : Int)))], [(15, some ⟨3, 1, arrF cat.length (fun j => encN (wO E O a q N ord k j))⟩)], []⟩) (fun k => k ≤ ord.length) (fun k => ord.length - k) (by kernel_rfl) ?_ ?_
  · conv => whnf
    refine takeK_full rfl ?_
    conv => whnf
    refine ⟨0, by omega, ?_⟩
    have e3 : (fun j => encN (wO E O a q N ord 0 j)) = fun j => encN (dlt a q j) := funext fun j => by rw [wO_zero]
    dsimp only
    rw [e3]; rfl
  · intro k hk
    conv => whnf
    refine brLt (fun h3 => ?_) (fun h3 => ?_) <;> conv => whnf
    rotate_left
    · have ek : k = ord.length := by omega
      have e3 : (fun j => encN (wO E O a q N ord k j)) = fun j => encN (N j) := funext fun j => by rw [ek, wO_last hP hmem]
      rw [e3]
      refine IxA_intro a rfl ha ?_
      conv => whnf
      refine setK_intro (xs' := arrF cat.length (fun j => if j = a then 0 else encN (N j))) (by rw [arrF_len]; exact ha) (by rw [arrF_set]) ?_
      conv => whnf
      exact ⟨rfl, rfl, (arrF_len _ _).symm, rfl⟩
    refine IxK_mapLt k rfl (by omega) (fun p hpk => ?_)
    conv => whnf
    have hkl := get_lt hpk
    obtain ⟨hb1, hb2⟩ := hbef hpk
    have hpl := hmem2 p (get_mem hpk)
    have hfu := wO_full hP hmem hb2
    have hst := wO_step (E := E) (a := a) (q := q) (N := N) hpk hb1 (hOO p hpl)
    have hwn := wO_nn (ord := ord) hP k
    obtain ⟨y, hy⟩ : ∃ y, cat[p]? = some y := ⟨cat[p], by simp⟩
    refine LoopK_intro hma hTa [(0, .pl), (1, .pl), (2, .pl), (4, .pl), (5, .pl), (6, .pl), (15, .key 15), (16, .pl), (17, .pl), (18, .pl), (19, .pl)] (fun t : Nat => ⟨[(0, .d (lD ItemV.dat cat)), (1, .d (lD LineV.dat lines)), (2, .d (iD a)), (4, .d (iD day)), (5, .d (lD PickV.dat c)), (6, .d (bD false)), (15, .av 15 cat.length), (16, .d (lD nD ord)), (17, .d (iD (k : Int))), (18, .d (iD p)), (19, .d (iD t))], [(15, some ⟨3, 1, arrF cat.length (fun j => encN (wO E O a q N ord k j + partD cat lines day c N p t j))⟩)], []⟩) (fun t => t ≤ lines.length) (fun t => lines.length - t) (by kernel_rfl) ?_ ?_
    · conv => whnf
      refine ⟨0, by omega, ?_⟩
      have e3 : (fun j => encN (wO E O a q N ord k j + partD cat lines day c N p 0 j)) = fun j => encN (wO E O a q N ord k j) := funext fun j => by rw [partD_zero, Int.add_zero]
      dsimp only
      rw [e3]; rfl
    · intro t ht
      conv => whnf
      refine brLt (fun h7 => ?_) (fun h7 => ?_) <;> conv => whnf
      rotate_left
      · have e3 : (fun j => encN (wO E O a q N ord k j + partD cat lines day c N p t j)) = fun j => encN (wO E O a q N ord (k + 1) j) := funext fun j => by rw [hDf (by omega), hst]
        rw [e3]
        refine WrK_i64 (by omega) (by omega) ?_
        conv => whnf
        exact ⟨k + 1, hkl, Nat.sub_lt_sub_left hkl (Nat.lt_succ_self k), rfl⟩
      refine IxK_mapLt _ rfl (by omega) (fun x hx => ?_)
      conv => whnf
      have htl := get_lt hx
      have hln := hA.line x (get_mem hx)
      have hxo := hok x (get_mem hx)
      have hcode := idx_code hA.ct hy (s := x.parent) hln.1
      obtain ⟨hj, hjl⟩ := idx_nat hln.2.1
      have skip : ¬ (onP day c x ∧ (idxOf cat x.parent).toNat = p ∧ N p ≠ 0) → (fun j => encN (wO E O a q N ord k j + partD cat lines day c N p (t + 1) j)) = fun j => encN (wO E O a q N ord k j + partD cat lines day c N p t j) := fun h => funext fun j => by rw [partD_n hx h]
      refine IxK_map _ rfl hy ?_
      conv => whnf
      refine brStr (fun h8 => ?_) (fun h8 => ?_) <;> conv => whnf
      rotate_left
      · refine WrK_i64 (by omega) (by omega) ?_
        conv => whnf
        exact ⟨t + 1, htl, Nat.sub_lt_sub_left htl (Nat.lt_succ_self t), by dsimp only; rw [skip (fun h => h8 (hcode.2 h.2.1))]; rfl⟩
      have hpi := hcode.1 h8
      refine IxK_map _ rfl hx ?_
      conv => whnf
      refine CallK_tr (c_spec_l9On x hxo hln.2.2.2.2.2.2 day c hp) (fun h9 => ?_) (fun h9 => ?_) <;> conv => whnf
      rotate_left
      · refine WrK_i64 (by omega) (by omega) ?_
        conv => whnf
        exact ⟨t + 1, htl, Nat.sub_lt_sub_left htl (Nat.lt_succ_self t), by dsimp only; rw [skip (fun h => h9 h.1)]; rfl⟩
      refine IxA_intro p rfl hpl ?_
      conv => whnf
      refine getK_intro (arrF_get hpl) ?_
      rw [hfu, hDs, Int.add_zero]
      conv => whnf
      have hNp := hP.sol.nn p
      refine brNEq (fun h10 => ?_) (fun h10 => ?_) <;> conv => whnf
      · refine WrK_i64 (by omega) (by omega) ?_
        conv => whnf
        exact ⟨t + 1, htl, Nat.sub_lt_sub_left htl (Nat.lt_succ_self t), by dsimp only; rw [skip (fun h => h.2.2 ((enc_zero hNp).1 h10))]; rfl⟩
      have hqty := hln.2.2.2.1
      unfold inP at hqty
      have hyy : ∀ j, partD cat lines day c N p (t + 1) j = partD cat lines day c N p t j + (if j = (idxOf cat x.part).toNat then N p * x.quantity else 0) := fun j => partD_y hx h9 hpi
      generalize hjj : (idxOf cat x.part).toNat = j0 at hj hjl hyy
      have hj2 : findP (fun y : ItemV => y.code = x.part) cat = (j0 : Int) := hj
      refine IxK_map _ rfl hx ?_
      conv => whnf
      refine CallK_intro (c_spec_FindItem _ hc _) ?_
      rw [hj2]
      conv => whnf
      refine IxA_intro j0 rfl hjl ?_
      conv => whnf
      refine getK_intro (arrF_get hjl) ?_
      conv => whnf
      refine IxA_intro p rfl hpl ?_
      conv => whnf
      refine getK_intro (arrF_get hpl) ?_
      rw [hfu, hDs, Int.add_zero]
      conv => whnf
      refine IxK_map _ rfl hx ?_
      conv => whnf
      refine CallK_intro (c_spec_l10Times (N p) hNp _ (by omega) (by omega)) ?_
      conv => whnf
      have hsq2 : 0 ≤ N p * x.quantity := Int.mul_nonneg hNp (by omega)
      have hpp := hDn p t j0
      have hww := hwn j0
      refine CallK_intro (c_spec_l10Plus _ _ (by omega) hsq2) ?_
      conv => whnf
      refine IxA_intro j0 rfl hjl ?_
      conv => whnf
      refine setK_intro (xs' := arrF cat.length (fun j => encN (wO E O a q N ord k j + partD cat lines day c N p (t + 1) j))) (by rw [arrF_len]; exact hjl) ?_ ?_
      · refine Eq.symm (Eq.trans arrF_set (arrF_congr fun j _ => ?_))
        by_cases e : j = j0
        · rw [if_pos e, e, hyy, if_pos rfl]; congr 1; omega
        · rw [if_neg e, hyy, if_neg e, Int.add_zero]
      conv => whnf
      refine WrK_i64 (by omega) (by omega) ?_
      conv => whnf
      exact ⟨t + 1, htl, Nat.sub_lt_sub_left htl (Nat.lt_succ_self t), rfl⟩

end Go.DL
