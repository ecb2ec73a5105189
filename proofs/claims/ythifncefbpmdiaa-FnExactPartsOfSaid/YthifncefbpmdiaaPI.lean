/- Contracts of functions of the program, at this seat: what each call returns, by its arguments as data; each states its own conditions. -/
import Derived.Test.YthifncefbpmdiaaPH
namespace Go.DL
set_option maxRecDepth 100000
set_option maxHeartbeats 2000000
set_option linter.unusedSimpArgs false
set_option linter.unusedVariables false
open Go.RowKit Go.Proofs Go.Proofs.Ythifncefbpmdiaa

def phP (cat : List ItemV) (j : Nat) : Prop := ∃ y, cat[j]? = some y ∧ y.kind = 2
/-- What is left to need: the needs of phantoms have been passed on. -/
noncomputable def mskN (cat : List ItemV) (a : Nat) (N : Nat → Int) (d : List Nat) (w : Nat → Int) (j : Nat) : Int := ifP (j ∈ d ∧ j ≠ a ∧ phP cat j ∧ N j ≤ 1000000000) 0 (encN (w j))
theorem msk_nil (cat : List ItemV) (a : Nat) (N : Nat → Int) (w : Nat → Int) : mskN cat a N [] w = fun j => encN (w j) := funext fun j => ifP_f fun h => by simpa using h.1
theorem msk_off {cat : List ItemV} {a : Nat} {N : Nat → Int} {d : List Nat} {w : Nat → Int} {j : Nat} (h : j ∉ d) : mskN cat a N d w j = encN (w j) := ifP_f fun h1 => h h1.1
theorem msk_congr {cat : List ItemV} {a : Nat} {N : Nat → Int} {d : List Nat} {w w' : Nat → Int} {j : Nat} (h : w j = w' j) : mskN cat a N d w j = mskN cat a N d w' j := by unfold mskN; rw [h]
theorem wO_skip {E : List EQ} {O : Nat → Prop} {a : Nat} {q : Int} {N : Nat → Int} {ord : List Nat} {k p : Nat} (hp : ord[k]? = some p) (hO : ¬ O p) (j : Nat) : wO E O a q N ord (k + 1) j = wO E O a q N ord k j := by
  unfold wO
  congr 1
  refine partP_congr fun e _ _ h2 _ => ?_
  rw [take_at hp]
  constructor
  · intro h
    rcases List.mem_append.1 h with h | h
    · exact h
    · rw [List.mem_singleton.1 h] at h2; exact absurd h2 hO
  · exact fun h => List.mem_append_left _ h
theorem ord_le {n : Nat} {f : Nat → Int} {k p : Nat} (hp : (ordN n f)[k]? = some p) : ∀ q ∈ (ordN n f).take k, f q ≤ f p := by
  have hpw := ord_pair n f
  have hk := get_lt hp
  have hs : ordN n f = (ordN n f).take k ++ p :: (ordN n f).drop (k + 1) := by
    rw [show p = (ordN n f)[k]'hk from (by rw [List.getElem?_eq_getElem hk] at hp; exact (Option.some.inj hp).symm), List.getElem_cons_drop, List.take_append_drop]
  generalize (ordN n f).drop (k + 1) = t at hs ⊢
  generalize (ordN n f).take k = r at hs
  rw [hs, List.pairwise_append] at hpw
  exact fun q hq => (hpw.2.2 q hq p (by simp)).1

set_option maxHeartbeats 8000000 in
theorem c_spec_l10DownP (cat : List ItemV) (hc : okL ItemV.ok cat) (h12 : cat.length ≤ 12) (lines : List LineV) (hl : okL LineV.ok lines) (h24 : lines.length ≤ 24) (a : Nat) (ha : a < cat.length) (q : Int) (hq0 : 0 ≤ q) (hq1 : q ≤ 100000) (day : Int) (c : List PickV) (hp : okL PickV.ok c) (hA : ActOK cat lines (activeN day c lines)) :
    Contract Try.prog 108 [.d (lD ItemV.dat cat), .d (lD LineV.dat lines), .d (iD (a : Int)), .d (iD q), .d (iD day), .d (lD PickV.dat c), .d (bD true)] (.one (.own ⟨3, 1, arrF cat.length (fun j => if j = a then 0 else mskN cat a (pieN cat (activeN day c lines) (fun x => x.kind = 2) a q) (List.range cat.length) (pieN cat (activeN day c lines) (fun x => x.kind = 2) a q) j)⟩)) := by
  refine contract_by hma hTa Try.func108 (by kernel_rfl) (by kernel_rfl) ?_
  have e1 : (List.map ItemV.dat cat).length = cat.length := List.length_map _
  have e2 : (List.map LineV.dat lines).length = lines.length := List.length_map _
  obtain ⟨hlen, hok⟩ := hl
  have hP := pie_okL hA (fun x => x.kind = 2) a hq0
  have hDn : ∀ p t j, 0 ≤ partD cat lines day c (pieN cat (activeN day c lines) (fun x => x.kind = 2) a q) p t j := partD_nn hP.qn hP.sol.nn
  have hDs : ∀ p t, partD cat lines day c (pieN cat (activeN day c lines) (fun x => x.kind = 2) a q) p t p = 0 := partD_self hP.st
  have hDf := fun {p i j : Nat} (h : lines.length ≤ i) => partD_full (cat := cat) (lines := lines) (day := day) (c := c) (N := pieN cat (activeN day c lines) (fun x => x.kind = 2) a q) (p := p) (j := j) h
  generalize pieN cat (activeN day c lines) (fun x => x.kind = 2) a q = N at hP hDn hDs hDf ⊢
  generalize hE : edQ cat (activeN day c lines) = E at hP hDf
  conv => whnf
  refine MkK_intro cat.length (by omega) (by omega) (by omega) ?_
  conv => whnf
  refine IxA_intro a rfl ha ?_
  conv => whnf
  refine setK_intro (xs' := arrF cat.length (fun j => encN (dlt a q j))) (by simp; exact ha) ?_ ?_
  · rw [arrF_rep, arrF_set]
    exact arrF_congr fun j _ => by
      unfold dlt
      split <;> rw [enc_le (by omega)]
  conv => whnf
  refine CallK_intro (c_spec_l9Levels_y cat hc lines ⟨hlen, hok⟩ h12 h24 (linesIn_of hA.line) hA.acyc) ?_
  conv => whnf
  refine takeK_full rfl ?_
  conv => whnf
  refine CallK_intro (c_spec_l10Order cat.length (by omega) (levOf cat lines)) ?_
  conv => whnf
  have hlv0 : ∀ j, 0 ≤ levOf cat lines j := fun j => (tight_lev _ _).1 j
  have hlvn : ∀ j, levOf cat lines j < cat.length := fun j => lev_lt (by omega) (edges_lt (linesIn_of hA.line)) hA.acyc j
  have hmem : ∀ q, q < cat.length → q ∈ ordN cat.length (levOf cat lines) := fun q hq => ord_mem.2 ⟨hq, (levOf cat lines q).toNat, by have := hlv0 q; have := hlvn q; omega, by have := hlv0 q; omega⟩
  have hmem2 : ∀ q, q ∈ ordN cat.length (levOf cat lines) → q < cat.length := fun q hq => (ord_mem.1 hq).1
  have hole := fun {k p : Nat} (hp : (ordN cat.length (levOf cat lines))[k]? = some p) => ord_le hp
  have hbef := fun {k p : Nat} (hp : (ordN cat.length (levOf cat lines))[k]? = some p) => ord_before hp
  have hol : (ordN cat.length (levOf cat lines)).length ≤ 12 * 12 := Nat.le_trans (ord_len cat.length (levOf cat lines)) (Nat.mul_le_mul h12 h12)
  generalize ordN cat.length (levOf cat lines) = ord at hmem hmem2 hbef hole hol ⊢
  generalize levOf cat lines = lev at hlv0 hlvn hP hbef hole ⊢
  have e5 : (List.map nD ord).length = ord.length := List.length_map _
  have hOO : ∀ p, openP cat (fun x => x.kind = 2) a p ↔ p = a ∨ phP cat p := fun p => Iff.rfl
  generalize openP cat (fun x => x.kind = 2) a = O at hP hOO
  refine LoopK_intro hma hTa [(0, .pl), (1, .pl), (2, .pl), (4, .pl), (5, .pl), (6, .pl), (15, .key 15), (16, .fz), (17, .pl)] (fun k : Nat => ⟨[(0, .d (lD ItemV.dat cat)), (1, .d (lD LineV.dat lines)), (2, .d (iD a)), (4, .d (iD day)), (5, .d (lD PickV.dat c)), (6, .d (bD true)), (15, .av 15 cat.length), (16, .d (lD nD ord)), (17, .d (iD (k : Int)))], [(15, some ⟨3, 1, arrF cat.length (mskN cat a N (ord.take k) (wO E O a q N ord k))⟩)], []⟩) (fun k => k ≤ ord.length) (fun k => ord.length - k) (by kernel_rfl) ?_ ?_
  · conv => whnf
    refine takeK_full rfl ?_
    conv => whnf
    refine ⟨0, by omega, ?_⟩
    have e3 : mskN cat a N (ord.take 0) (wO E O a q N ord 0) = fun j => encN (dlt a q j) := by rw [List.take_zero, msk_nil]; exact funext fun j => by rw [wO_zero]
    dsimp only
    rw [e3]; rfl
  · intro k hk
    conv => whnf
    refine brLt (fun h3 => ?_) (fun h3 => ?_) <;> conv => whnf
    rotate_left
    · have ek : k = ord.length := by omega
      have e3 : arrF cat.length (mskN cat a N (ord.take k) (wO E O a q N ord k)) = arrF cat.length (mskN cat a N (List.range cat.length) N) := by
        refine arrF_congr fun j hj => ?_
        rw [ek, List.take_length]
        unfold mskN
        rw [wO_last hP hmem]
        have h1 : j ∈ ord ↔ j ∈ List.range cat.length := by rw [List.mem_range]; exact ⟨hmem2 j, hmem j⟩
        rw [h1]
      rw [e3]
      refine IxA_intro a rfl ha ?_
      conv => whnf
      refine setK_intro (xs' := arrF cat.length (fun j => if j = a then 0 else mskN cat a N (List.range cat.length) N j)) (by rw [arrF_len]; exact ha) (by rw [arrF_set]) ?_
      conv => whnf
      exact ⟨rfl, rfl, (arrF_len _ _).symm, rfl⟩
    refine IxK_mapLt k rfl (by omega) (fun p hpk => ?_)
    conv => whnf
    have hkl := get_lt hpk
    obtain ⟨hb1, hb2⟩ := hbef hpk
    have hpl := hmem2 p (get_mem hpk)
    have hfu := wO_full hP hmem hb2
    have hst := fun hO => wO_step (E := E) (O := O) (a := a) (q := q) (N := N) hpk hb1 hO
    have hwn := wO_nn (ord := ord) hP k
    have hle := hole hpk
    obtain ⟨y, hy⟩ : ∃ y, cat[p]? = some y := ⟨cat[p], by simp⟩
    have htk : ∀ j, j ∈ ord.take (k + 1) ↔ j ∈ ord.take k ∨ j = p := fun j => by rw [take_at hpk]; simp
    refine brNEq (fun h5 => ?_) (fun h5 => ?_) <;> conv => whnf
    have hOp : O p := (hOO p).2 (.inl (by omega))
    rotate_left
    refine IxK_map _ rfl hy ?_
    conv => whnf
    refine brNEq (fun h6 => ?_) (fun h6 => ?_) <;> conv => whnf
    have hOp : O p := (hOO p).2 (.inr ⟨y, hy, h6⟩)
    rotate_left
    · have hph : ¬ phP cat p := fun ⟨z, hz, hz2⟩ => h6 (by rw [hy] at hz; cases hz; exact hz2)
      have hnO : ¬ O p := fun h => ((hOO p).1 h).elim (fun e => h5 (by rw [e])) hph
      have e3 : mskN cat a N (ord.take (k + 1)) (wO E O a q N ord (k + 1)) = mskN cat a N (ord.take k) (wO E O a q N ord k) := funext fun j => by
        unfold mskN
        rw [wO_skip hpk hnO]
        have h7 : (j ∈ ord.take (k + 1) ∧ j ≠ a ∧ phP cat j ∧ N j ≤ 1000000000) ↔ (j ∈ ord.take k ∧ j ≠ a ∧ phP cat j ∧ N j ≤ 1000000000) := by
          rw [htk]
          constructor
          · rintro ⟨h | h, h'⟩
            · exact ⟨h, h'⟩
            · rw [h] at h'; exact absurd h'.2.1 hph
          · rintro ⟨h, h'⟩; exact ⟨.inl h, h'⟩
        rw [h7]
      refine WrK_i64 (by omega) (by omega) ?_
      conv => whnf
      exact ⟨k + 1, hkl, Nat.sub_lt_sub_left hkl (Nat.lt_succ_self k), by dsimp only; rw [e3]; rfl⟩
    all_goals
      refine LoopK_intro hma hTa [(0, .pl), (1, .pl), (2, .pl), (4, .pl), (5, .pl), (6, .pl), (15, .key 15), (16, .pl), (17, .pl), (18, .pl), (19, .pl)] (fun t : Nat => ⟨[(0, .d (lD ItemV.dat cat)), (1, .d (lD LineV.dat lines)), (2, .d (iD a)), (4, .d (iD day)), (5, .d (lD PickV.dat c)), (6, .d (bD true)), (15, .av 15 cat.length), (16, .d (lD nD ord)), (17, .d (iD (k : Int))), (18, .d (iD p)), (19, .d (iD t))], [(15, some ⟨3, 1, arrF cat.length (mskN cat a N (ord.take k) (fun j => wO E O a q N ord k j + partD cat lines day c N p t j))⟩)], []⟩) (fun t => t ≤ lines.length) (fun t => lines.length - t) (by kernel_rfl) ?_ ?_
      · conv => whnf
        refine ⟨0, by omega, ?_⟩
        have e3 : (fun j => wO E O a q N ord k j + partD cat lines day c N p 0 j) = wO E O a q N ord k := funext fun j => by rw [partD_zero, Int.add_zero]
        dsimp only
        rw [e3]; rfl
      · intro t ht
        conv => whnf
        refine brLt (fun h7 => ?_) (fun h7 => ?_) <;> conv => whnf
        rotate_left
        · have e3 : (fun j => wO E O a q N ord k j + partD cat lines day c N p t j) = wO E O a q N ord (k + 1) := funext fun j => by rw [hDf (by omega), hst hOp]
          rw [e3]
          have hwp : wO E O a q N ord (k + 1) p = N p := by rw [← hst hOp, hfu, hP.selfI, Int.add_zero]
          have hNp := hP.sol.nn p
          refine brNEq (fun h8 => ?_) (fun h8 => ?_) <;> conv => whnf
          · have e4 : mskN cat a N (ord.take (k + 1)) (wO E O a q N ord (k + 1)) = mskN cat a N (ord.take k) (wO E O a q N ord (k + 1)) := funext fun j => by
              unfold mskN
              have h9 : (j ∈ ord.take (k + 1) ∧ j ≠ a ∧ phP cat j ∧ N j ≤ 1000000000) ↔ (j ∈ ord.take k ∧ j ≠ a ∧ phP cat j ∧ N j ≤ 1000000000) := by
                rw [htk]
                constructor
                · rintro ⟨h | h, h'⟩
                  · exact ⟨h, h'⟩
                  · exact absurd (show j = a by omega) h'.1
                · rintro ⟨h, h'⟩; exact ⟨.inl h, h'⟩
              rw [h9]
            refine WrK_i64 (by omega) (by omega) ?_
            conv => whnf
            exact ⟨k + 1, hkl, Nat.sub_lt_sub_left hkl (Nat.lt_succ_self k), by dsimp only; rw [e4]; rfl⟩
          have hphp : phP cat p := ((hOO p).1 hOp).resolve_left (fun e => h8 (by rw [e]))
          have hpa : p ≠ a := fun e => h8 (by rw [e])
          refine IxA_intro p rfl hpl ?_
          conv => whnf
          refine getK_intro (arrF_get hpl) ?_
          rw [msk_off hb1, hwp]
          conv => whnf
          refine brLt (fun h9 => ?_) (fun h9 => ?_) <;> conv => whnf
          · have hN9 : N p ≤ 1000000000 := by
              rcases enc_cases (N p) with ⟨h, _⟩ | ⟨_, e⟩
              · exact h
              · omega
            refine IxA_intro p rfl hpl ?_
            conv => whnf
            refine setK_intro (xs' := arrF cat.length (mskN cat a N (ord.take (k + 1)) (wO E O a q N ord (k + 1)))) (by rw [arrF_len]; exact hpl) ?_ ?_
            · refine Eq.symm (Eq.trans arrF_set (arrF_congr fun j _ => ?_))
              by_cases e : j = p
              · rw [if_pos e, e]
                exact (ifP_t ⟨(htk p).2 (.inr rfl), hpa, hphp, hN9⟩).symm
              · rw [if_neg e]
                unfold mskN
                have h10 : j ∈ ord.take (k + 1) ↔ j ∈ ord.take k := by rw [htk]; exact ⟨fun h => h.resolve_right e, .inl⟩
                rw [h10]
            conv => whnf
            refine WrK_i64 (by omega) (by omega) ?_
            conv => whnf
            exact ⟨k + 1, hkl, Nat.sub_lt_sub_left hkl (Nat.lt_succ_self k), rfl⟩
          · have e4 : arrF cat.length (mskN cat a N (ord.take (k + 1)) (wO E O a q N ord (k + 1))) = arrF cat.length (mskN cat a N (ord.take k) (wO E O a q N ord (k + 1))) := arrF_congr fun j _ => by
              by_cases e : j = p
              · rw [e, msk_off hb1]
                unfold mskN
                by_cases h10 : p ∈ ord.take (k + 1) ∧ p ≠ a ∧ phP cat p ∧ N p ≤ 1000000000
                · rw [ifP_t h10, hwp]
                  rw [enc_le h10.2.2.2] at h9 ⊢
                  omega
                · rw [ifP_f h10]
              · unfold mskN
                have h10 : j ∈ ord.take (k + 1) ↔ j ∈ ord.take k := by rw [htk]; exact ⟨fun h => h.resolve_right e, .inl⟩
                rw [h10]
            refine WrK_i64 (by omega) (by omega) ?_
            conv => whnf
            exact ⟨k + 1, hkl, Nat.sub_lt_sub_left hkl (Nat.lt_succ_self k), by dsimp only; rw [e4]; rfl⟩
        refine IxK_mapLt _ rfl (by omega) (fun x hx => ?_)
        conv => whnf
        have htl := get_lt hx
        have hln := hA.line x (get_mem hx)
        have hxo := hok x (get_mem hx)
        have hcode := idx_code hA.ct hy (s := x.parent) hln.1
        obtain ⟨hj, hjl⟩ := idx_nat hln.2.1
        have skip : ¬ (onP day c x ∧ (idxOf cat x.parent).toNat = p ∧ N p ≠ 0) → (fun j => wO E O a q N ord k j + partD cat lines day c N p (t + 1) j) = fun j => wO E O a q N ord k j + partD cat lines day c N p t j := fun h => funext fun j => by rw [partD_n hx h]
        refine IxK_map _ rfl hy ?_
        conv => whnf
        refine brStr (fun h8 => ?_) (fun h8 => ?_) <;> conv => whnf
        rotate_left
        · refine WrK_i64 (by omega) (by omega) ?_
          conv => whnf
          exact ⟨t + 1, htl, Nat.sub_lt_sub_left htl (Nat.lt_succ_self t), by dsimp only; rw [skip (fun h => h8 (hcode.2 h.2.1))]; rfl⟩
        have hpi := hcode.1 h8
        refine IxK_map _ rfl hx ?_
        conv => whnf
        refine CallK_tr (c_spec_l9On x hxo hln.2.2.2.2.2.2 day c hp) (fun h9 => ?_) (fun h9 => ?_) <;> conv => whnf
        rotate_left
        · refine WrK_i64 (by omega) (by omega) ?_
          conv => whnf
          exact ⟨t + 1, htl, Nat.sub_lt_sub_left htl (Nat.lt_succ_self t), by dsimp only; rw [skip (fun h => h9 h.1)]; rfl⟩
        refine IxA_intro p rfl hpl ?_
        conv => whnf
        refine getK_intro (arrF_get hpl) ?_
        rw [msk_off hb1, hfu, hDs, Int.add_zero]
        conv => whnf
        have hNp := hP.sol.nn p
        refine brNEq (fun h10 => ?_) (fun h10 => ?_) <;> conv => whnf
        · refine WrK_i64 (by omega) (by omega) ?_
          conv => whnf
          exact ⟨t + 1, htl, Nat.sub_lt_sub_left htl (Nat.lt_succ_self t), by dsimp only; rw [skip (fun h => h.2.2 ((enc_zero hNp).1 h10))]; rfl⟩
        have hqty := hln.2.2.2.1
        unfold inP at hqty
        have hyy : ∀ j, partD cat lines day c N p (t + 1) j = partD cat lines day c N p t j + (if j = (idxOf cat x.part).toNat then N p * x.quantity else 0) := fun j => partD_y hx h9 hpi
        generalize hjj : (idxOf cat x.part).toNat = j0 at hj hjl hyy
        have hj0 : j0 ∉ ord.take k := fun h => by
          have h11 := hP.st (p, j0, x.quantity) (by rw [← hE]; exact List.mem_map.2 ⟨x, List.mem_filter.2 ⟨get_mem hx, tr_t h9⟩, by rw [hpi, hjj]⟩)
          have h12 := hle j0 h
          dsimp only at h11
          omega
        have hj2 : findP (fun y : ItemV => y.code = x.part) cat = (j0 : Int) := hj
        refine IxK_map _ rfl hx ?_
        conv => whnf
        refine CallK_intro (c_spec_FindItem _ hc _) ?_
        rw [hj2]
        conv => whnf
        refine IxA_intro j0 rfl hjl ?_
        conv => whnf
        refine getK_intro (arrF_get hjl) ?_
        rw [msk_off hj0]
        conv => whnf
        refine IxA_intro p rfl hpl ?_
        conv => whnf
        refine getK_intro (arrF_get hpl) ?_
        rw [msk_off hb1, hfu, hDs, Int.add_zero]
        conv => whnf
        refine IxK_map _ rfl hx ?_
        conv => whnf
        refine CallK_intro (c_spec_l10Times (N p) hNp _ (by omega) (by omega)) ?_
        conv => whnf
        have hsq2 : 0 ≤ N p * x.quantity := Int.mul_nonneg hNp (by omega)
        have hpp := hDn p t j0
        have hww := hwn j0
        refine CallK_intro (c_spec_l10Plus _ _ (by omega) hsq2) ?_
        conv => whnf
        refine IxA_intro j0 rfl hjl ?_
        conv => whnf
        refine setK_intro (xs' := arrF cat.length (mskN cat a N (ord.take k) (fun j => wO E O a q N ord k j + partD cat lines day c N p (t + 1) j))) (by rw [arrF_len]; exact hjl) ?_ ?_
        · refine Eq.symm (Eq.trans arrF_set (arrF_congr fun j _ => ?_))
          by_cases e : j = j0
          · rw [if_pos e, e, msk_off hj0, hyy, if_pos rfl]; congr 1; omega
          · rw [if_neg e]
            refine (msk_congr ?_).symm
            rw [hyy, if_neg e, Int.add_zero]
        conv => whnf
        refine WrK_i64 (by omega) (by omega) ?_
        conv => whnf
        exact ⟨t + 1, htl, Nat.sub_lt_sub_left htl (Nat.lt_succ_self t), rfl⟩


end Go.DL
