/- Contracts of functions of the program, at this seat: what each call returns, by its arguments as data; each states its own conditions. -/
import Derived.Test.YtjhjedfnjimflaaZ1
namespace Go.DL
set_option maxRecDepth 100000
set_option maxHeartbeats 2000000
set_option linter.unusedSimpArgs false
set_option linter.unusedVariables false
open Go.RowKit Go.Proofs Go.Proofs.Ytjhjedfnjimflaa

theorem ord_mem {n : Nat} {f : Nat → Int} {i : Nat} : i ∈ ordN n f ↔ i < n ∧ ∃ v < n, f i = (v : Int) := by
  unfold ordN ordRow
  simp only [List.mem_flatMap, List.mem_filter, List.mem_range, tr_iff]
  exact ⟨fun ⟨v, h1, h2, h3⟩ => ⟨h2, v, h1, h3⟩, fun ⟨h2, v, h1, h3⟩ => ⟨v, h1, h2, h3⟩⟩
theorem ord_pair (n : Nat) (f : Nat → Int) : (ordN n f).Pairwise (fun a b => f a ≤ f b ∧ a ≠ b) := by
  unfold ordN
  rw [List.pairwise_flatMap]
  refine ⟨fun v _ => ?_, ?_⟩
  · unfold ordRow
    have h1 : (List.range n).Pairwise (fun a b => a ≠ b) := List.nodup_range
    refine (h1.filter _).imp_of_mem fun {a b} ha hb hab => ⟨?_, hab⟩
    have ha := tr_iff.1 (List.mem_filter.1 ha).2
    have hb := tr_iff.1 (List.mem_filter.1 hb).2
    omega
  · refine (List.pairwise_lt_range (n := n)).imp fun {v w} hvw a ha b hb => ?_
    have ha := tr_iff.1 (List.mem_filter.1 ha).2
    have hb := tr_iff.1 (List.mem_filter.1 hb).2
    refine ⟨by omega, fun e => ?_⟩
    subst e; omega
theorem ord_len (n : Nat) (f : Nat → Int) : (ordN n f).length ≤ n * n := by
  have := flat_bound (f := ordRow n f) (b := n) (l := List.range n) (fun x _ => Nat.le_trans (List.length_filter_le _ _) (by simp))
  rw [List.length_range] at this
  exact this
/-- What stands behind an item in the order. -/
theorem ord_after {n : Nat} {f : Nat → Int} {k p : Nat} (hp : (ordN n f)[k]? = some p) : p ∉ (ordN n f).drop (k + 1) ∧ ∀ q ∈ ordN n f, f p < f q → q ∈ (ordN n f).drop (k + 1) := by
  have hpw := ord_pair n f
  have hk := get_lt hp
  have hs : ordN n f = (ordN n f).take k ++ p :: (ordN n f).drop (k + 1) := by
    rw [show p = (ordN n f)[k]'hk from (by rw [List.getElem?_eq_getElem hk] at hp; exact (Option.some.inj hp).symm), List.getElem_cons_drop, List.take_append_drop]
  generalize (ordN n f).drop (k + 1) = t at hs ⊢
  generalize (ordN n f).take k = r at hs
  rw [hs, List.pairwise_append] at hpw
  obtain ⟨_, h2, h3⟩ := hpw
  rw [List.pairwise_cons] at h2
  refine ⟨fun h => (h2.1 p h).2 rfl, fun q hq hlt => ?_⟩
  rw [hs] at hq
  rcases List.mem_append.1 hq with h | h
  · have := (h3 q h p (by simp)).1; omega
  · rcases List.mem_cons.1 h with rfl | h
    · omega
    · exact h
theorem drop_at {α : Type} {l : List α} {k : Nat} {p : α} (h : l[k]? = some p) : l.drop k = p :: l.drop (k + 1) := by
  have hk := get_lt h
  rw [show p = l[k]'hk from (by rw [List.getElem?_eq_getElem hk] at h; exact (Option.some.inj h).symm), List.getElem_cons_drop]
theorem enc_zero {w : Int} (h : 0 ≤ w) : encN w = 0 ↔ w = 0 := by
  rcases enc_cases w with ⟨_, e⟩ | ⟨_, e⟩ <;> rw [e] <;> omega
/-- What the lines of an item bring, as far as they are in force. -/
noncomputable def partL (cat : List ItemV) (lines : List LineV) (day : Int) (c : List PickV) (S : Nat → Int) (p i : Nat) : Int := partW (edQ cat (activeN day c (lines.take i))) S p
theorem partL_y {cat : List ItemV} {lines : List LineV} {day : Int} {c : List PickV} {S : Nat → Int} {p i : Nat} {x : LineV} (hx : lines[i]? = some x) (h1 : onP day c x) (h2 : (idxOf cat x.parent).toNat = p) : partL cat lines day c S p (i + 1) = partL cat lines day c S p i + x.quantity * S (idxOf cat x.part).toNat := by
  unfold partL activeN partW edQ
  rw [filter_y hx (show onB day c x = true from tr_t h1), List.map_append, sumI_append]
  simp [sumI, h2]
theorem partL_n {cat : List ItemV} {lines : List LineV} {day : Int} {c : List PickV} {S : Nat → Int} {p i : Nat} {x : LineV} (hx : lines[i]? = some x) (h : ¬ (onP day c x ∧ (idxOf cat x.parent).toNat = p)) : partL cat lines day c S p (i + 1) = partL cat lines day c S p i := by
  unfold partL activeN partW edQ
  by_cases h1 : onP day c x
  · rw [filter_y hx (show onB day c x = true from tr_t h1), List.map_append, sumI_append]
    have h2 : (idxOf cat x.parent).toNat ≠ p := fun e => h ⟨h1, e⟩
    simp [sumI, h2]
  · rw [filter_n hx (show onB day c x = false from tr_f h1)]
theorem partL_zero (cat : List ItemV) (lines : List LineV) (day : Int) (c : List PickV) (S : Nat → Int) (p : Nat) : partL cat lines day c S p 0 = 0 := by simp [partL, activeN, edQ, partW, sumI]
theorem partL_nn {cat : List ItemV} {lines act : List LineV} {day : Int} {c : List PickV} (h : ActOK cat lines act) {S : Nat → Int} (hS : ∀ i, 0 ≤ S i) (p i : Nat) : 0 ≤ partL cat lines day c S p i := by
  refine sumI_nonneg fun e he => ?_
  obtain ⟨x, hx, rfl⟩ := List.mem_map.1 he
  have hq := (h.line x (List.mem_of_mem_take (active_sub x hx))).2.2.2.1
  unfold inP at hq
  split
  · exact Int.mul_nonneg (by show 0 ≤ x.quantity; omega) (hS _)
  · omega
theorem partL_full {cat : List ItemV} {lines : List LineV} {day : Int} {c : List PickV} {S : Nat → Int} {p i : Nat} (h : lines.length ≤ i) : partL cat lines day c S p i = partW (edQ cat (activeN day c lines)) S p := by
  unfold partL; rw [List.take_of_length_le h]
theorem sol_self {E : List EQ} {b : Nat} {f S : Nat → Int} (h : SolW E b f S) (hf : ∀ e ∈ E, f e.1 < f e.2.1) : partW E S b = 0 :=
  sumI_zero fun e he => by
    split
    · rename_i e1
      have := hf e he
      rw [h.up e.2.1 (by rw [← e1]; exact this), Int.mul_zero]
    · rfl

set_option maxHeartbeats 4000000 in
theorem c_spec_QuantityIn (cat : List ItemV) (hc : okL ItemV.ok cat) (lines : List LineV) (hl : okL LineV.ok lines) (code part : ByteArray) (day : Int) (c : List PickV) (hp : okL PickV.ok c) : Contract Try.prog 61 [.d (lD ItemV.dat cat), .d (lD LineV.dat lines), .d (sD code), .d (sD part), .d (iD day), .d (lD PickV.dat c)] (.tup (.d (iD (qtyN cat lines code part day c))) [bD (tr (qtyP cat lines code part day c))]) := by
  refine contract_by hma hTa Try.func61 (by kernel_rfl) (by kernel_rfl) ?_
  have hl2 := hl
  obtain ⟨hlen, hok⟩ := hl2
  unfold qtyN
  conv => whnf
  have e1 : (List.map ItemV.dat cat).length = cat.length := List.length_map _
  have e2 : (List.map LineV.dat lines).length = lines.length := List.length_map _
  refine CallK_intro (c_spec_FindItem _ hc _) ?_
  conv => whnf
  refine CallK_intro (c_spec_FindItem _ hc _) ?_
  conv => whnf
  refine CallK_tr (c_spec_IsBills _ hc _ hl) (fun hb => ?_) (fun hb => ?_) <;> conv => whnf
  rotate_left
  · exact ⟨iF (fun h => hb h.1) rfl, bF (fun h => hb h.1), trivial⟩
  refine brLt (fun h1 => ?_) (fun h1 => ?_) <;> conv => whnf
  · exact ⟨iF (fun h => absurd (show 0 ≤ findP (fun y : ItemV => y.code = code) cat from h.2.1) (by omega)) rfl, bF (fun h => absurd (show 0 ≤ findP (fun y : ItemV => y.code = code) cat from h.2.1) (by omega)), trivial⟩
  refine brLt (fun h2 => ?_) (fun h2 => ?_) <;> conv => whnf
  · exact ⟨iF (fun h => absurd (show 0 ≤ findP (fun y : ItemV => y.code = part) cat from h.2.2.1) (by omega)) rfl, bF (fun h => absurd (show 0 ≤ findP (fun y : ItemV => y.code = part) cat from h.2.2.1) (by omega)), trivial⟩
  have h24 := hb.2.1
  have h12 := hb.1.2
  have hA := act_ok hb day c
  obtain ⟨hia, hial⟩ := idx_nat (c := code) (cat := cat) h1
  obtain ⟨hib, hibl⟩ := idx_nat (c := part) (cat := cat) h2
  have hsol : SolW (edQ cat (activeN day c lines)) (idxOf cat part).toNat (levOf cat lines) (qtyS cat lines part day c) := hA.sol _
  have hself := sol_self hsol hA.strict
  have hqP : qtyP cat lines code part day c ↔ qtyS cat lines part day c (idxOf cat code).toNat ≤ 1000000000 := ⟨fun h => h.2.2.2, fun h => ⟨hb, h1, h2, h⟩⟩
  have hia2 : findP (fun y : ItemV => y.code = code) cat = ((idxOf cat code).toNat : Int) := hia
  have hib2 : findP (fun y : ItemV => y.code = part) cat = ((idxOf cat part).toNat : Int) := hib
  rw [hia2, hib2]
  generalize (idxOf cat code).toNat = a at hial hqP ⊢
  generalize hbb : (idxOf cat part).toNat = b at hibl hsol hself ⊢
  generalize qtyS cat lines part day c = S at hsol hqP hself ⊢
  refine MkK_intro cat.length (by omega) (by omega) (by omega) ?_
  conv => whnf
  refine IxA_intro b rfl hibl ?_
  conv => whnf
  refine setK_intro (xs' := arrF cat.length (fun j => if j = b then 1 else 0)) (by simp; exact hibl) ?_ ?_
  · rw [arrF_rep, show D.sc (Value.int IntKind.i64 1) = iD 1 from rfl, arrF_set]
  conv => whnf
  refine CallK_intro (c_spec_l9Levels_y cat hc lines hl h12 h24 (linesIn_of hA.line) hA.acyc) ?_
  conv => whnf
  refine takeK_full rfl ?_
  conv => whnf
  refine CallK_intro (c_spec_l10Order cat.length (by omega) (levOf cat lines)) ?_
  conv => whnf
  have hst := hA.strict
  have hpn : ∀ i k, 0 ≤ partL cat lines day c S i k := fun i k => partL_nn hA hsol.nn i k
  have hlv0 : ∀ j, 0 ≤ levOf cat lines j := fun j => (tight_lev _ _).1 j
  have hlvn : ∀ j, levOf cat lines j < cat.length := fun j => lev_lt (by omega) (edges_lt (linesIn_of hA.line)) hA.acyc j
  have hmem : ∀ q, q < cat.length → q ∈ ordN cat.length (levOf cat lines) := fun q hq => ord_mem.2 ⟨hq, (levOf cat lines q).toNat, by have := hlv0 q; have := hlvn q; omega, by have := hlv0 q; omega⟩
  have hmem2 : ∀ q, q ∈ ordN cat.length (levOf cat lines) → q < cat.length := fun q hq => (ord_mem.1 hq).1
  have haft := fun {k p : Nat} (hp : (ordN cat.length (levOf cat lines))[k]? = some p) => ord_after hp
  have hol : (ordN cat.length (levOf cat lines)).length ≤ 12 * 12 := Nat.le_trans (ord_len cat.length (levOf cat lines)) (Nat.mul_le_mul h12 h12)
  generalize ordN cat.length (levOf cat lines) = ord at hmem hmem2 haft hol ⊢
  generalize levOf cat lines = lev at hlv0 hlvn hsol hst haft ⊢
  have e5 : (List.map nD ord).length = ord.length := List.length_map _
  refine WrK_i64 (by omega) (by omega) ?_
  conv => whnf
  refine LoopK_intro hma hTa [(0, .pl), (1, .pl), (4, .pl), (5, .pl), (14, .pl), (15, .pl), (16, .key 16), (17, .fz), (18, .pl)] (fun k : Nat => ⟨[(0, .d (lD ItemV.dat cat)), (1, .d (lD LineV.dat lines)), (4, .d (iD day)), (5, .d (lD PickV.dat c)), (14, .d (iD a)), (15, .d (iD b)), (16, .av 16 cat.length), (17, .d (lD nD ord)), (18, .d (iD ((k : Int) - 1)))], [(16, some ⟨3, 1, arrF cat.length (fun j => if j ∈ ord.drop k then encN (S j) else if j = b then 1 else 0)⟩)], []⟩) (fun k => k ≤ ord.length) (fun k => k) (by kernel_rfl) ?_ ?_
  · conv => whnf
    refine takeK_full rfl ?_
    conv => whnf
    refine ⟨ord.length, Nat.le_refl _, ?_⟩
    have e3 : arrF cat.length (fun j => if j ∈ ord.drop ord.length then encN (S j) else if j = b then 1 else 0) = arrF cat.length (fun j => if j = b then 1 else 0) := arrF_congr fun j _ => if_neg (by simp)
    dsimp only
    rw [e3, e5]; rfl
  · intro k hk
    conv => whnf
    refine brLe (fun h3 => ?_) (fun h3 => ?_) <;> conv => whnf
    · obtain ⟨k, rfl⟩ : ∃ m', k = m' + 1 := ⟨k - 1, by omega⟩
      rw [show ((k + 1 : Nat) : Int) - 1 = (k : Int) by omega]
      refine IxK_mapLt k rfl (by omega) (fun p hpk => ?_)
      conv => whnf
      obtain ⟨ha1, ha2⟩ := haft hpk
      have hpl := hmem2 p (get_mem hpk)
      have hdr := drop_at hpk
      obtain ⟨y, hy⟩ : ∃ y, cat[p]? = some y := ⟨cat[p], by simp⟩
      refine LoopK_intro hma hTa [(0, .pl), (1, .pl), (4, .pl), (5, .pl), (14, .pl), (15, .pl), (16, .key 16), (17, .pl), (18, .pl), (19, .pl), (20, .pl)] (fun i : Nat => ⟨[(0, .d (lD ItemV.dat cat)), (1, .d (lD LineV.dat lines)), (4, .d (iD day)), (5, .d (lD PickV.dat c)), (14, .d (iD a)), (15, .d (iD b)), (16, .av 16 cat.length), (17, .d (lD nD ord)), (18, .d (iD (k : Int))), (19, .d (iD p)), (20, .d (iD i))], [(16, some ⟨3, 1, arrF cat.length (fun j => if j = p then encN ((if p = b then 1 else 0) + partL cat lines day c S p i) else if j ∈ ord.drop (k + 1) then encN (S j) else if j = b then 1 else 0)⟩)], []⟩) (fun i => i ≤ lines.length) (fun i => lines.length - i) (by kernel_rfl) ?_ ?_
      · conv => whnf
        refine ⟨0, by omega, ?_⟩
        have e3 : arrF cat.length (fun j => if j = p then encN ((if p = b then 1 else 0) + partL cat lines day c S p 0) else if j ∈ ord.drop (k + 1) then encN (S j) else if j = b then 1 else 0) = arrF cat.length (fun j => if j ∈ ord.drop (k + 1) then encN (S j) else if j = b then 1 else 0) :=
          arrF_congr fun j _ => by
            by_cases e : j = p
            · subst e
              rw [if_pos rfl, if_neg ha1, partL_zero]
              split <;> exact enc_le (by omega)
            · rw [if_neg e]
        dsimp only
        rw [e3]; rfl
      · intro i hi
        conv => whnf
        refine brLt (fun h7 => ?_) (fun h7 => ?_) <;> conv => whnf
        · refine IxK_mapLt _ rfl (by omega) (fun x hx => ?_)
          conv => whnf
          have hil := get_lt hx
          have hln := hA.line x (get_mem hx)
          have hxo := hok x (get_mem hx)
          have hcode := idx_code hA.ct hy (s := x.parent) hln.1
          obtain ⟨hq, hql⟩ := idx_nat hln.2.1
          have skip : ¬ (onP day c x ∧ (idxOf cat x.parent).toNat = p) → partL cat lines day c S p (i + 1) = partL cat lines day c S p i := partL_n hx
          refine CallK_intro (c_spec_FindItem _ hc _) ?_
          conv => whnf
          refine IxK_map _ rfl hx ?_
          conv => whnf
          refine IxK_map _ rfl hy ?_
          conv => whnf
          refine brStr (fun h8 => ?_) (fun h8 => ?_) <;> conv => whnf
          · have hpi := hcode.1 h8
            refine IxK_map _ rfl hx ?_
            conv => whnf
            refine CallK_tr (c_spec_l9On x hxo hln.2.2.2.2.2.2 day c hp) (fun h9 => ?_) (fun h9 => ?_) <;> conv => whnf
            · have hst2 := hst _ (List.mem_map.2 ⟨x, List.mem_filter.2 ⟨get_mem hx, tr_t h9⟩, rfl⟩)
              have hst3 : lev p < lev (idxOf cat x.part).toNat := by rw [← hpi]; exact hst2
              have hpu := partL_y (S := S) hx h9 hpi
              have hqty := hln.2.2.2.1
              unfold inP at hqty
              have hqd := ha2 _ (hmem _ hql) hst3
              have hq2 : findP (fun y : ItemV => y.code = x.part) cat = (((idxOf cat x.part).toNat : Nat) : Int) := hq
              rw [hq2]
              generalize (idxOf cat x.part).toNat = q at hq hql hst3 hpu hqd
              have hqp : q ≠ p := by rintro rfl; omega
              have hSq := hsol.nn q
              refine IxA_intro q rfl hql ?_
              conv => whnf
              refine getK_intro (arrF_get hql) ?_
              rw [if_neg hqp, if_pos hqd]
              conv => whnf
              refine brNEq (fun h10 => ?_) (fun h10 => ?_) <;> conv => whnf
              · have hz : partL cat lines day c S p (i + 1) = partL cat lines day c S p i := by rw [hpu, (enc_zero hSq).1 h10, Int.mul_zero, Int.add_zero]
                refine WrK_i64 (by omega) (by omega) ?_
                conv => whnf
                exact ⟨i + 1, hil, Nat.sub_lt_sub_left hil (Nat.lt_succ_self i), by dsimp only; rw [hz]; rfl⟩
              · refine IxA_intro p rfl hpl ?_
                conv => whnf
                refine getK_intro (arrF_get hpl) ?_
                rw [if_pos rfl]
                conv => whnf
                refine IxA_intro q rfl hql ?_
                conv => whnf
                refine getK_intro (arrF_get hql) ?_
                rw [if_neg hqp, if_pos hqd]
                conv => whnf
                refine IxK_map _ rfl hx ?_
                conv => whnf
                refine CallK_intro (c_spec_l10Times (S q) hSq _ (by omega) (by omega)) ?_
                conv => whnf
                have hsq2 : 0 ≤ S q * x.quantity := Int.mul_nonneg hSq (by omega)
                have hpp := hpn p i
                refine CallK_intro (c_spec_l10Plus _ _ (by split <;> omega) hsq2) ?_
                conv => whnf
                refine IxA_intro p rfl hpl ?_
                conv => whnf
                refine setK_intro (xs' := arrF cat.length (fun j => if j = p then encN ((if p = b then 1 else 0) + partL cat lines day c S p (i + 1)) else if j ∈ ord.drop (k + 1) then encN (S j) else if j = b then 1 else 0)) (by rw [arrF_len]; exact hpl) ?_ ?_
                · have e4 : (if p = b then 1 else 0) + partL cat lines day c S p i + S q * x.quantity = (if p = b then 1 else 0) + partL cat lines day c S p (i + 1) := by
                    rw [hpu, Int.mul_comm]; omega
                  rw [e4]
                  refine Eq.symm (Eq.trans arrF_set (arrF_congr fun j _ => ?_))
                  by_cases e : j = p
                  · rw [if_pos e, if_pos e]
                  · rw [if_neg e, if_neg e, if_neg e]
                conv => whnf
                refine WrK_i64 (by omega) (by omega) ?_
                conv => whnf
                exact ⟨i + 1, hil, Nat.sub_lt_sub_left hil (Nat.lt_succ_self i), rfl⟩
            · refine WrK_i64 (by omega) (by omega) ?_
              conv => whnf
              exact ⟨i + 1, hil, Nat.sub_lt_sub_left hil (Nat.lt_succ_self i), by dsimp only; rw [skip (fun h => h9 h.1)]; rfl⟩
          · refine WrK_i64 (by omega) (by omega) ?_
            conv => whnf
            exact ⟨i + 1, hil, Nat.sub_lt_sub_left hil (Nat.lt_succ_self i), by dsimp only; rw [skip (fun h => h8 (hcode.2 h.2))]; rfl⟩
        · have e4 : (if p = b then 1 else 0) + partL cat lines day c S p i = S p := by
            rw [partL_full (by omega)]
            by_cases e : p = b
            · rw [if_pos e, e, hself, hsol.at_b]; rfl
            · rw [if_neg e, Int.zero_add, hsol.eq p e]
          have e3 : arrF cat.length (fun j => if j = p then encN ((if p = b then 1 else 0) + partL cat lines day c S p i) else if j ∈ ord.drop (k + 1) then encN (S j) else if j = b then 1 else 0) = arrF cat.length (fun j => if j ∈ ord.drop k then encN (S j) else if j = b then 1 else 0) :=
            arrF_congr fun j _ => by
              rw [hdr, e4]
              by_cases e : j = p
              · subst e
                rw [if_pos rfl, if_pos (by simp)]
              · rw [if_neg e]
                simp only [List.mem_cons, e, false_or]
          rw [e3]
          refine WrK_i64 (by omega) (by omega) ?_
          conv => whnf
          exact ⟨k, by omega, Nat.lt_succ_self k, rfl⟩
    · have hk0 : k = 0 := by omega
      subst hk0
      have e3 : arrF cat.length (fun j => if j ∈ ord.drop 0 then encN (S j) else if j = b then 1 else 0) = arrF cat.length (fun j => encN (S j)) :=
        arrF_congr fun j hj => if_pos (by simpa using hmem j hj)
      rw [e3]
      have hSa := hsol.nn a
      have hca := enc_cases (S a)
      refine IxA_intro a rfl hial ?_
      conv => whnf
      refine getK_intro (arrF_get hial) ?_
      conv => whnf
      refine brLt (fun h4 => ?_) (fun h4 => ?_) <;> conv => whnf
      · have hn : ¬ qtyP cat lines code part day c := fun h => by have := hqP.1 h; omega
        exact ⟨iF hn rfl, bF hn, trivial⟩
      · have hy : qtyP cat lines code part day c := hqP.2 (by omega)
        refine IxA_intro a rfl hial ?_
        conv => whnf
        refine getK_intro (arrF_get hial) ?_
        conv => whnf
        exact ⟨iT hy (by omega), bT hy, trivial⟩

end Go.DL
