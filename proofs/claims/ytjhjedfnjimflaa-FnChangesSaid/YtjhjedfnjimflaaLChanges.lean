/- The statement FnExactChangesSaid: the law returns true for every input that can be read as data, and each argument reads afterwards as it read before. No conditions. -/
import Derived.Test.YtjhjedfnjimflaaM
import Derived.Test.YtjhjedfnjimflaaPA
import Derived.ProofKit
namespace Go.DL
set_option maxRecDepth 100000
set_option maxHeartbeats 2000000
set_option linter.unusedSimpArgs false
set_option linter.unusedVariables false
open Go.RowKit Go.Proofs Go.Proofs.Ytjhjedfnjimflaa

theorem bEq_self (b : Bool) : bEq b b = true := by rw [bEq_eq]; simp
theorem flat_congr {α β : Type} {f g : α → List β} : ∀ {l : List α}, (∀ x ∈ l, f x = g x) → l.flatMap f = l.flatMap g
  | [], _ => rfl
  | x :: l, h => by rw [List.flatMap_cons, List.flatMap_cons, h x (by simp), flat_congr fun y hy => h y (by simp [hy])]
open Classical in
noncomputable def newD (x : ChangeV) (y : LineV) : LineV := { y with part := x.new, quantity := if 0 < x.quantity then x.quantity else y.quantity }
def hitP (x : ChangeV) (day : Int) (y : LineV) : Prop := x.day ≤ day ∧ y.parent = x.parent ∧ y.part = x.old
open Classical in
noncomputable def wantN (x : ChangeV) (day : Int) (y : LineV) : List LineV := if hitP x day y then (if x.new = ⟨#[]⟩ then [] else [newD x y]) else (if y.part = ⟨#[]⟩ then [] else [y])
theorem billsN_flat (day : Int) (f : LineV → List LineV) (l : List LineV) : billsN day (l.flatMap f) = l.flatMap (fun x => billsN day (f x)) := by
  induction l with
  | nil => rfl
  | cons x l ih =>
    rw [List.flatMap_cons, List.flatMap_cons, ← ih]
    unfold billsN keepN
    rw [List.filter_append, List.map_append]
open Classical in
theorem billsN_one (day : Int) (y : LineV) : billsN day [y] = if dayP day y then [dayL day y] else [] := by
  unfold billsN keepN
  split
  · rename_i h; simp [tr_t h]
  · rename_i h; simp [tr_f h]
open Classical in
theorem flat_bills (day : Int) (g : LineV → List LineV) (l : List LineV) : (billsN day l).flatMap g = l.flatMap (fun x => if dayP day x then g (dayL day x) else []) := by
  induction l with
  | nil => rfl
  | cons x l ih =>
    rw [List.flatMap_cons, ← ih]
    have : billsN day (x :: l) = billsN day [x] ++ billsN day l := by
      unfold billsN keepN
      rw [show x :: l = [x] ++ l from rfl, List.filter_append, List.map_append]
    rw [this, List.flatMap_append, billsN_one]
    split <;> simp
theorem bills_change (x : ChangeV) (hq : 0 ≤ x.quantity) (day : Int) (lines : List LineV) (hp : ∀ l ∈ lines, l.part ≠ ⟨#[]⟩) : billsN day (appN x lines) = (billsN day lines).flatMap (wantN x day) := by
  unfold appN
  rw [billsN_flat, flat_bills]
  refine flat_congr fun l hl => ?_
  have hne := hp l hl
  by_cases ho : offP x l
  · rw [changeN_off ho, billsN_one]
    by_cases hd : dayP day l
    · rw [if_pos hd, if_pos hd]
      have hn : ¬ hitP x day (dayL day l) := fun h => by
        rcases ho with h1 | h1 | h1
        · exact h1 h.2.1
        · exact h1 h.2.2
        · have := hd.2; have := h.1; omega
      unfold wantN
      rw [if_neg hn, if_neg (show ¬ (dayL day l).part = ⟨#[]⟩ from hne)]
    · rw [if_neg hd, if_neg hd]
  · obtain ⟨w1, w2, w3, w4⟩ := changeN_on ho
    have hpa : l.parent = x.parent := Classical.byContradiction fun h => ho (.inl h)
    have hol : l.part = x.old := Classical.byContradiction fun h => ho (.inr (.inl h))
    have hst : x.day ≤ l.stop := by
      have : ¬ l.stop < x.day := fun h => ho (.inr (.inr h))
      omega
    have hw : wantN x day (dayL day l) = if x.day ≤ day then (if x.new = ⟨#[]⟩ then [] else [newD x (dayL day l)]) else [dayL day l] := by
      unfold wantN
      by_cases h : x.day ≤ day
      · rw [if_pos (show hitP x day (dayL day l) from ⟨h, hpa, hol⟩), if_pos h]
      · rw [if_neg (fun h2 : hitP x day (dayL day l) => h h2.1), if_neg h, if_neg (show ¬ (dayL day l).part = ⟨#[]⟩ from hne)]
    have hD : dayL day (newL x l) = newD x (dayL day l) := by
      unfold newL newD dayL
      simp only [LineV.mk.injEq, true_and, and_true]
      by_cases h : x.quantity = 0
      · rw [if_pos h, if_neg (by omega)]
      · rw [if_neg h, if_pos (by omega)]
    have hS : dayL day (stopB x l) = dayL day l := rfl
    have eS : dayP day (stopB x l) ↔ l.start ≤ day ∧ day ≤ x.day - 1 := Iff.rfl
    have eN : dayP day (newL x l) ↔ Max.max l.start x.day ≤ day ∧ day ≤ l.stop := Iff.rfl
    have two : ∀ a b : LineV, billsN day [a, b] = billsN day [a] ++ billsN day [b] := fun a b => by
      unfold billsN keepN
      rw [show [a, b] = [a] ++ [b] from rfl, List.filter_append, List.map_append]
    rw [hw]
    have eL : dayP day l ↔ l.start ≤ day ∧ day ≤ l.stop := Iff.rfl
    by_cases h4 : l.start < x.day <;> by_cases h5 : x.new = ⟨#[]⟩
    · rw [w1 h4 h5, billsN_one, hS, if_pos h5]
      by_cases hd : dayP day l <;> by_cases hx : x.day ≤ day
      · rw [if_pos hd, if_pos hx, if_neg (fun h => by have := (eS.1 h).2; omega)]
      · rw [if_pos hd, if_neg hx, if_pos (eS.2 ⟨(eL.1 hd).1, by omega⟩)]
      · rw [if_neg hd, if_neg (fun h => by have := (eS.1 h).2; omega)]
      · rw [if_neg hd, if_neg (fun h => hd (eL.2 ⟨(eS.1 h).1, by omega⟩))]
    · rw [w2 h4 h5, two, billsN_one, billsN_one, hS, hD, if_neg h5]
      by_cases hd : dayP day l <;> by_cases hx : x.day ≤ day
      · rw [if_pos hd, if_pos hx, if_neg (fun h => by have := (eS.1 h).2; omega), if_pos (eN.2 ⟨by have := (eL.1 hd).1; omega, (eL.1 hd).2⟩)]; rfl
      · rw [if_pos hd, if_neg hx, if_pos (eS.2 ⟨(eL.1 hd).1, by omega⟩), if_neg (fun h => by have := (eN.1 h).1; omega)]; rfl
      · rw [if_neg hd, if_neg (fun h => by have := (eS.1 h).2; omega), if_neg (fun h => hd (eL.2 ⟨by omega, (eN.1 h).2⟩))]; rfl
      · rw [if_neg hd, if_neg (fun h => hd (eL.2 ⟨(eS.1 h).1, by omega⟩)), if_neg (fun h => by have := (eN.1 h).1; omega)]; rfl
    · rw [w3 h4 h5, if_pos h5]
      by_cases hd : dayP day l <;> by_cases hx : x.day ≤ day
      · rw [if_pos hd, if_pos hx]; rfl
      · have := (eL.1 hd).1; omega
      · rw [if_neg hd]; rfl
      · rw [if_neg hd]; rfl
    · rw [w4 h4 h5, billsN_one, hD, if_neg h5]
      by_cases hd : dayP day l <;> by_cases hx : x.day ≤ day
      · rw [if_pos hd, if_pos hx, if_pos (eN.2 ⟨by have := (eL.1 hd).1; omega, (eL.1 hd).2⟩)]
      · have := (eL.1 hd).1; omega
      · rw [if_neg hd, if_neg (fun h => hd (eL.2 ⟨by have := (eN.1 h).1; omega, (eN.1 h).2⟩))]
      · rw [if_neg hd, if_neg (fun h => by have := (eN.1 h).1; omega)]
theorem want_len (x : ChangeV) (day : Int) (y : LineV) : (wantN x day y).length ≤ 1 := by
  unfold wantN; (repeat' split) <;> simp
theorem part_ne {cat : List ItemV} {lines : List LineV} (h : isBillsP cat lines) : ∀ l ∈ lines, l.part ≠ ⟨#[]⟩ := fun l hl e => by
  have h1 := (h.2.2.1 l hl).2.1
  rw [e] at h1
  have h2 := noempty h.1
  have h3 : idxOf cat ⟨#[]⟩ = -1 := h2
  omega
theorem billsN_part {day : Int} {l : List LineV} (h : ∀ y ∈ l, y.part ≠ ⟨#[]⟩) : ∀ y ∈ billsN day l, y.part ≠ ⟨#[]⟩ := fun y hy => by
  unfold billsN at hy
  obtain ⟨z, hz, rfl⟩ := List.mem_map.1 hy
  exact h z (keep_mem.1 hz).1
theorem flat_len1 (x : ChangeV) (day : Int) (l : List LineV) : (l.flatMap (wantN x day)).length ≤ l.length := by
  have := flat_bound (b := 1) (f := wantN x day) (l := l) (fun y _ => want_len x day y)
  omega
theorem want_ok {x : ChangeV} (hx : x.ok) {day : Int} {y : LineV} (h : y.ok) : ∀ z ∈ wantN x day y, z.ok := by
  intro z hz
  obtain ⟨k0, k1, k2, k3, k4, k5⟩ := h
  unfold wantN at hz
  split at hz
  · split at hz
    · simp at hz
    · simp at hz; subst hz
      refine ⟨k0, hx.2.2.2.1, ?_, k3, k4, k5⟩
      show okI (if 0 < x.quantity then x.quantity else y.quantity)
      split
      · exact hx.2.2.2.2
      · exact k2
  · split at hz
    · simp at hz
    · simp at hz; subst hz; exact ⟨k0, k1, k2, k3, k4, k5⟩
set_option maxHeartbeats 8000000 in
theorem law0_FnChanges (b : List Int) (hb1 : b.length ≤ 9223372036854775807) (hb2 : ∀ n ∈ b, 0 ≤ n ∧ n ≤ 255) : Contract Try.prog 9 [.d (lD yD b)] (.one (.d (.sc (.bool true)))) := by
  refine contract_byR [200000 + 50] hma hTa Try.func9 (by kernel_rfl) (by kernel_rfl) ?_
  conv => whnf
  refine CallK_tr (c_laws_big b hb1) (fun h => ?_) (fun h => ?_) <;> conv => whnf
  refine DCallK_intro (c_spec_DrawApplyChange b (by omega) hb2) ?_
  rintro r _ ⟨cat, lines, x, hc, hc6, hl, hl20, hx, rfl⟩
  conv => whnf
  rcases Classical.em (applyP cat lines x) with hA | hA
  rotate_left
  · refine CallK_intro (c_impl_ApplyChange cat hc lines hl x hx _ ⟨fun h => absurd h hA, fun _ => rfl⟩) ?_
    conv => whnf
    refine CallK_intro (c_spec_ApplyChange cat hc lines hl x hx _ ⟨fun h => absurd h hA, fun _ => rfl⟩) ?_
    conv => whnf
    rw [bEq_self]
    conv => whnf
    exact congrArg (fun b => D.sc (.bool b)) (eqB_iff.2 rfl)
  obtain ⟨hB, hX, hB2⟩ := hA
  have hA : applyP cat lines x := ⟨hB, hX, hB2⟩
  have hd := hX.2.1
  have hd1 := hd.1
  have hd2 := hd.2
  have hq0 : 0 ≤ x.quantity := by
    rcases hX.2.2.2.2 with h | h
    · have := h.2; omega
    · exact h.2.2.1
  have hao := app_ok hl (by omega) hx hd
  have hpn := part_ne hB
  have hch := fun day => bills_change x hq0 day lines hpn
  refine CallK_intro (c_impl_ApplyChange cat hc lines hl x hx _ ⟨fun _ => rfl, fun h => absurd hA h⟩) ?_
  conv => whnf
  refine CallK_intro (c_spec_ApplyChange cat hc lines hl x hx _ ⟨fun _ => rfl, fun h => absurd hA h⟩) ?_
  conv => whnf
  rw [bEq_self]
  conv => whnf
  generalize appN x lines = out at hao hB2 hch ⊢
  refine WrK_i64 (by omega) (by omega) ?_
  conv => whnf
  refine WrK_i64 (by omega) (by omega) ?_
  conv => whnf
  have hday : ∀ d ∈ [0, x.day - 1, x.day, x.day + 1, 10, 25, 999], okI d := fun d h => by
    simp only [List.mem_cons, List.not_mem_nil, or_false] at h
    unfold okI
    omega
  refine LoopK_intro hma hTa [(3, .pl), (4, .pl), (5, .key 5), (6, .pl), (10, .fz), (11, .pl)] (fun i : Nat => ⟨[(3, .d (lD ItemV.dat cat)), (4, .d (lD LineV.dat lines)), (5, .ae 5 0), (6, .d (lD LineV.dat out)), (10, .d (lD iD [0, x.day - 1, x.day, x.day + 1, 10, 25, 999])), (11, .d (iD i))], [(5, some ⟨69, 5, [x.dat]⟩)], []⟩) (fun i => i ≤ 7) (fun i => 7 - i) (by kernel_rfl) ?_ ?_
  · conv => whnf
    exact ⟨0, by omega, rfl⟩
  · intro i hi
    generalize hdl : [0, x.day - 1, x.day, x.day + 1, 10, 25, 999] = days at hday ⊢
    have h7 : days.length = 7 := by subst hdl; rfl
    have e7 : (List.map iD days).length = 7 := by rw [List.length_map, h7]
    conv => whnf
    refine brLt (fun h1 => ?_) (fun h1 => ?_) <;> conv => whnf
    · refine IxK_mapLt _ rfl (by omega) (fun day hdy => ?_)
      conv => whnf
      have hdo := hday day (get_mem hdy)
      have hil : i < 7 := by have := get_lt hdy; omega
      refine CallK_intro (c_spec_BillsOn_y cat hc lines hl day hB) ?_
      conv => whnf
      have hbo := bills_ok (day := day) hl hdo
      have hbl := bills_len day lines
      have hbo2 := bills_ok (day := day) hao hdo
      have hch2 := hch day
      have hpo := billsN_part (day := day) hpn
      generalize hold : billsN day lines = old at hbo hbl hch2 hpo ⊢
      have e2 : (List.map LineV.dat old).length = old.length := List.length_map _
      refine LoopK_intro hma hTa [(3, .pl), (4, .pl), (5, .key 5), (6, .pl), (10, .pl), (11, .pl), (12, .key 12), (13, .fz), (14, .pl)] (fun k : Nat => ⟨[(3, .d (lD ItemV.dat cat)), (4, .d (lD LineV.dat lines)), (5, .ae 5 0), (6, .d (lD LineV.dat out)), (10, .d (lD iD days)), (11, .d (iD i)), (12, .av 12 ((old.take k).flatMap (wantN x day)).length), (13, .d (lD LineV.dat old)), (14, .d (iD k))], [(5, some ⟨69, 5, [x.dat]⟩), (12, some ⟨67, 6, ((old.take k).flatMap (wantN x day)).map LineV.dat⟩)], []⟩) (fun k => k ≤ old.length) (fun k => old.length - k) (by kernel_rfl) ?_ ?_
      · conv => whnf
        refine takeK_full rfl ?_
        conv => whnf
        exact ⟨0, by omega, rfl⟩
      · intro k hk
        have hfl : ((old.take k).flatMap (wantN x day)).length ≤ old.length := Nat.le_trans (flat_len1 x day _) (by simp; omega)
        conv => whnf
        refine brLt (fun h2 => ?_) (fun h2 => ?_) <;> conv => whnf
        · refine IxK_mapLt _ rfl (by omega) (fun y hy => ?_)
          conv => whnf
          have hkl := get_lt hy
          have hsn := flat_snoc (f := wantN x day) hy
          have ap : ∀ (z : LineV) (K : Nat → List D → Prop), wantN x day y = [z] → K ((old.take (k + 1)).flatMap (wantN x day)).length (((old.take (k + 1)).flatMap (wantN x day)).map LineV.dat) → AppK (((old.take k).flatMap (wantN x day)).map LineV.dat) ((old.take k).flatMap (wantN x day)).length [z.dat] 6 K := fun z K hz hK =>
            AppK_intro (n := ((old.take (k + 1)).flatMap (wantN x day)).length) (xs' := ((old.take (k + 1)).flatMap (wantN x day)).map LineV.dat) (by rw [hsn, hz]; simp) (by rw [hsn, hz]; exact app_one rfl) (by rw [hsn, hz, List.length_append, List.length_singleton]; omega) (by simp [LineV.dat, D.width]) hK
          have hyp := hpo y (get_mem hy)
          have nohit : wantN x day y = [] → (old.take (k + 1)).flatMap (wantN x day) = (old.take k).flatMap (wantN x day) := fun h => by rw [hsn, h, List.append_nil]
          have miss : ¬ hitP x day y → wantN x day y = [y] := fun h => by unfold wantN; rw [if_neg h, if_neg hyp]
          have hit0 : hitP x day y → x.new = ⟨#[]⟩ → wantN x day y = [] := fun h h2 => by unfold wantN; rw [if_pos h, if_pos h2]
          have hit1 : hitP x day y → x.new ≠ ⟨#[]⟩ → wantN x day y = [newD x y] := fun h h2 => by unfold wantN; rw [if_pos h, if_neg h2]
          have nq1 : ∀ z : LineV, 0 < x.quantity → z = { y with part := x.new, quantity := x.quantity } → z = newD x y := fun z h h2 => by rw [h2]; unfold newD; rw [if_pos h]
          have nq0 : ∀ z : LineV, ¬ 0 < x.quantity → z = { y with part := x.new } → z = newD x y := fun z h h2 => by rw [h2]; unfold newD; rw [if_neg h]
          refine IxK_map i rfl hdy ?_
          conv => whnf
          refine brLe (fun h3 => ?_) (fun h3 => ?_) <;> conv => whnf
          rotate_left
          · refine brNStr (fun h5 => absurd h5 hyp) (fun h5 => ?_)
            conv => whnf
            refine ap y _ (miss fun h => by have := h.1; omega) ?_
            conv => whnf
            refine WrK_i64 (by omega) (by omega) ?_
            conv => whnf
            exact ⟨k + 1, hkl, Nat.sub_lt_sub_left hkl (Nat.lt_succ_self k), rfl⟩
          refine brStr (fun h4 => ?_) (fun h4 => ?_) <;> conv => whnf
          rotate_left
          · refine brNStr (fun h5 => absurd h5 hyp) (fun h5 => ?_)
            conv => whnf
            refine ap y _ (miss fun h => h4 h.2.1) ?_
            conv => whnf
            refine WrK_i64 (by omega) (by omega) ?_
            conv => whnf
            exact ⟨k + 1, hkl, Nat.sub_lt_sub_left hkl (Nat.lt_succ_self k), rfl⟩
          refine brStr (fun h6 => ?_) (fun h6 => ?_) <;> conv => whnf
          rotate_left
          · refine brNStr (fun h5 => absurd h5 hyp) (fun h5 => ?_)
            conv => whnf
            refine ap y _ (miss fun h => h6 h.2.2) ?_
            conv => whnf
            refine WrK_i64 (by omega) (by omega) ?_
            conv => whnf
            exact ⟨k + 1, hkl, Nat.sub_lt_sub_left hkl (Nat.lt_succ_self k), rfl⟩
          have hh : hitP x day y := ⟨h3, h4, h6⟩
          refine brLt (fun h7 => ?_) (fun h7 => ?_) <;> conv => whnf
          · refine brNStr (fun h5 => ?_) (fun h5 => ?_) <;> conv => whnf
            · refine WrK_i64 (by omega) (by omega) ?_
              conv => whnf
              exact ⟨k + 1, hkl, Nat.sub_lt_sub_left hkl (Nat.lt_succ_self k), by dsimp only; rw [nohit (hit0 hh h5)]; rfl⟩
            · refine ap ⟨y.parent, x.new, x.quantity, y.start, y.stop, y.when⟩ _ (by rw [hit1 hh h5, nq1 _ h7 rfl]) ?_
              conv => whnf
              refine WrK_i64 (by omega) (by omega) ?_
              conv => whnf
              exact ⟨k + 1, hkl, Nat.sub_lt_sub_left hkl (Nat.lt_succ_self k), rfl⟩
          · refine brNStr (fun h5 => ?_) (fun h5 => ?_) <;> conv => whnf
            · refine WrK_i64 (by omega) (by omega) ?_
              conv => whnf
              exact ⟨k + 1, hkl, Nat.sub_lt_sub_left hkl (Nat.lt_succ_self k), by dsimp only; rw [nohit (hit0 hh h5)]; rfl⟩
            · refine ap ⟨y.parent, x.new, y.quantity, y.start, y.stop, y.when⟩ _ (by rw [hit1 hh h5, nq0 _ (by omega) rfl]) ?_
              conv => whnf
              refine WrK_i64 (by omega) (by omega) ?_
              conv => whnf
              exact ⟨k + 1, hkl, Nat.sub_lt_sub_left hkl (Nat.lt_succ_self k), rfl⟩
        · rw [List.take_of_length_le (l := old) (by omega)]
          refine IxK_map i rfl hdy ?_
          conv => whnf
          refine CallK_intro (c_impl_BillsOn_y cat hc out hao day hB2) ?_
          conv => whnf
          refine takeK_full (by simp) ?_
          conv => whnf
          refine takeK_full (by simp) ?_
          conv => whnf
          have hwl : okL LineV.ok (old.flatMap (wantN x day)) := ⟨Nat.le_trans (flat_len1 x day old) hbo.1, fun z hz => by
            obtain ⟨y, hy, h3⟩ := List.mem_flatMap.1 hz
            exact want_ok hx (hbo.2 y hy) z h3⟩
          refine CallK_tr (c_laws_sameLines _ hbo2 _ hwl) (fun _ => ?_) (fun h => absurd hch2 h)
          conv => whnf
          refine WrK_i64 (by omega) (by omega) ?_
          conv => whnf
          exact ⟨i + 1, by omega, Nat.sub_lt_sub_left hil (Nat.lt_succ_self i), rfl⟩
    · refine CallK_tr (c_spec_IsBills _ hc _ hao) (fun _ => ?_) (fun h => absurd hB2 h)
      conv => whnf


theorem bytes_dec {x : D} (h : HasTy (.sl .u8) x) : ∃ b : List Int, x = lD yD b ∧ b.length ≤ 9223372036854775807 ∧ ∀ n ∈ b, 0 ≤ n ∧ n ≤ 255 := by
  obtain ⟨b, e, h1, h2⟩ := sl_dec (f := yD) (ok := fun n => 0 ≤ n ∧ n ≤ 255) (e := .u8) (fun y hy => by cases hy with | u8 n lo hi => exact ⟨n, rfl, lo, hi⟩) h
  exact ⟨b, e, h1, h2⟩
theorem law_FnChanges : ∀ xs, HasTys [.sl .u8] xs → Contract Try.prog 9 (xs.map .d) (.one (.d (.sc (.bool true)))) := by
  intro xs h
  obtain ⟨d0, r0, rfl, h0, g0⟩ := HasTys_cons h
  cases HasTys_nil g0
  obtain ⟨b, rfl, hb1, hb2⟩ := bytes_dec h0
  exact law0_FnChanges b hb1 hb2
end Go.DL
namespace Go.Proofs.Ytjhjedfnjimflaa
open Go.ChangeShapes Go.WideShapes Go.ChangeAt Go.RowKit
theorem Try.cpD : Try.checked.prog = Try.prog := by kernel_rfl
theorem Try.ownD : ownKnob Try.checked.prog.godebug = none := by kernel_rfl
theorem Try.laidOutD : laidOutB Try.checked.prog = true := by kernel_rfl
theorem Try.lawD : ∀ xs, DL.HasTys [.sl .u8] xs → DL.Contract Try.checked.prog 9 (xs.map .d) (.one (.d (.sc (.bool true)))) := by rw [Try.cpD]; exact DL.law_FnChanges
theorem fnChanges_lifted (os : Os) (started : os.Started) (H : Type) (enc : TypeId × Value → H) :
    ReturnsInHanded {} Try.checked os 9 .any (Rows.fnChangesSpec.pre6 enc Try.checked.prog Try.f9 Rows.fnChangesRow.domain false) (Rows.fnChangesSpec.post enc Try.checked.prog Try.f9 false true false false) := by
  refine returnsInHanded_of_change (C := Try.checked) Try.ownD started (by kernel_rfl) Try.func9
    (ChangeSpec.witness6 (enc := enc) (C := Try.checked) false ⟨#[], #[.slice none 0 0], []⟩ 8 (by kernel_rfl) (by kernel_rfl) (by kernel_rfl) (by kernel_rfl)) ?_
  intro W base args ds gs before hval0 hW0 _ _
  exact DL.law_calls (P := Try.checked.prog) (fn := Try.f9) (s := Rows.fnChangesSpec) (ts := [22]) (tb := 4) (tys := [.sl .u8]) (by kernel_rfl) (by kernel_rfl) (by kernel_rfl) rfl
    (fun ds h => match ds, h with | [d0], _ => rfl) Try.laidOutD (by kernel_rfl) Try.lawD W base args ds gs before @hval0 hW0
/-- The law returns true, whatever comes in. -/
theorem FnChanges_holds : Rows.FnChangesSaid :=
  OpenClaim.holds_of_wide 9 Try.f9 rfl rfl rfl rfl rfl rfl rfl ⟨rfl, rfl, rfl, rfl, rfl⟩ rfl rfl rfl rfl rfl (by kernel_rfl) Try.func9 (by kernel_rfl)
    (of_decide_eq_true (by kernel_rfl)) (by unfold Func.isWrapper; first | (rw [if_pos (by decide +kernel)]; kernel_rfl) | (rw [if_neg (by decide +kernel)]; exact ⟨rfl, rfl⟩))
    (fun os started H enc _ => fnChanges_lifted os started H enc)
end Go.Proofs.Ytjhjedfnjimflaa
namespace Go.DL

end Go.DL
