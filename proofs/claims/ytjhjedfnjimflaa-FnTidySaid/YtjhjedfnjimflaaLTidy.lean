/- The statement FnExactTidySaid: the law returns true for every input that can be read as data, and each argument reads afterwards as it read before. No conditions. -/
import Derived.Test.YtjhjedfnjimflaaM
import Derived.Test.YtjhjedfnjimflaaPB
import Derived.ProofKit
namespace Go.DL
set_option maxRecDepth 100000
set_option maxHeartbeats 2000000
set_option linter.unusedSimpArgs false
set_option linter.unusedVariables false
open Go.RowKit Go.Proofs Go.Proofs.Ytjhjedfnjimflaa

theorem billsN_app (day : Int) (a b : List LineV) : billsN day (a ++ b) = billsN day a ++ billsN day b := by
  unfold billsN keepN; rw [List.filter_append, List.map_append]
open Classical in
theorem billsN_one (day : Int) (y : LineV) : billsN day [y] = if dayP day y then [dayL day y] else [] := by
  unfold billsN keepN
  split
  · rename_i h; simp [tr_t h]
  · rename_i h; simp [tr_f h]
theorem bills_step (day : Int) {out : List LineV} {l : LineV} (ho : ∀ p ∈ out, p.start ≤ p.stop) (hl : l.start ≤ l.stop) : billsN day (stepT out l) = billsN day out ++ billsN day [l] := by
  rcases stepT_cases out l with ⟨rfl, e⟩ | ⟨o, p, rfl, ⟨g, e⟩ | ⟨_, e⟩⟩ <;> rw [e]
  · rfl
  · rw [billsN_app, billsN_app, List.append_assoc]
    congr 1
    obtain ⟨g0, g1, g2, g3, g4⟩ := g
    have hp := ho p (by simp)
    have ep : dayL day { p with stop := l.stop } = dayL day p := rfl
    have el : dayL day l = dayL day p := by
      unfold dayL; cases l; cases p; simp only at g0 g1 g2 g3; subst g0 g1 g2 g3; rfl
    rw [billsN_one, billsN_one, billsN_one, ep, el]
    have d1 : dayP day { p with stop := l.stop } ↔ p.start ≤ day ∧ day ≤ l.stop := Iff.rfl
    have d2 : dayP day p ↔ p.start ≤ day ∧ day ≤ p.stop := Iff.rfl
    have d3 : dayP day l ↔ l.start ≤ day ∧ day ≤ l.stop := Iff.rfl
    by_cases h1 : dayP day p
    · have h3 : ¬ dayP day l := fun h => by have := (d2.1 h1).2; have := (d3.1 h).1; omega
      rw [if_pos h1, if_neg h3, if_pos (d1.2 ⟨(d2.1 h1).1, by have := (d2.1 h1).2; omega⟩)]; rfl
    · by_cases h3 : dayP day l
      · rw [if_neg h1, if_pos h3, if_pos (d1.2 ⟨by have := (d3.1 h3).1; omega, (d3.1 h3).2⟩)]; rfl
      · rw [if_neg h1, if_neg h3, if_neg (fun h => by
          have h4 := d1.1 h
          rcases Int.lt_or_le p.stop day with h5 | h5
          · exact h3 (d3.2 ⟨by omega, h4.2⟩)
          · exact h1 (d2.2 ⟨h4.1, h5⟩))]; rfl
  · rw [billsN_app]
theorem bills_fold (day : Int) : ∀ (lines out : List LineV), (∀ p ∈ out, p.start ≤ p.stop) → (∀ l ∈ lines, l.start ≤ l.stop) → billsN day (lines.foldl stepT out) = billsN day out ++ billsN day lines
  | [], out, _, _ => by
    have : billsN day [] = [] := rfl
    rw [List.foldl_nil, this, List.append_nil]
  | l :: r, out, ho, hl => by
    have h1 := hl l (by simp)
    rw [List.foldl_cons, bills_fold day r _ (stepT_all (Q := fun p => p.start ≤ p.stop) ho h1 fun p hp g => by have := g.2.2.2.2; show p.start ≤ l.stop; omega) fun y hy => hl y (by simp [hy]), bills_step day ho h1, List.append_assoc, ← billsN_app]
    rfl
theorem bills_tidy (day : Int) {lines : List LineV} (h : ∀ l ∈ lines, l.start ≤ l.stop) : billsN day (tidyN lines) = billsN day lines := by
  have := bills_fold day lines [] (by simp) h
  exact this
theorem bills_ord {cat : List ItemV} {lines : List LineV} (hB : isBillsP cat lines) : ∀ l ∈ lines, l.start ≤ l.stop := fun l hl => (hB.2.2.1 l hl).2.2.2.2.2.1.1
theorem tidy_bills {cat : List ItemV} {lines : List LineV} (hl : okL LineV.ok lines) (hB : isBillsP cat lines) : isBillsP cat (tidyN lines) := by
  have hQ := tidyQ hl hB.2.2.1
  have hin := linesIn_of hB.2.2.1
  have hE : ∀ y ∈ tidyN lines, ∃ x ∈ lines, x.parent = y.parent ∧ x.part = y.part :=
    foldT_all (Q := fun y => ∃ x ∈ lines, x.parent = y.parent ∧ x.part = y.part) (fun p l hp _ _ => hp) lines [] (by simp) fun l h => ⟨l, h, rfl, rfl⟩
  have hT := linesIn_of fun y hy => (hQ y hy).2
  refine ⟨hB.1, by have := tidy_len lines; have := hB.2.1; omega, fun y hy => (hQ y hy).2, ?_⟩
  refine acyc_strict (g := levOf cat lines) cat.length (edges_lt hT) (fun e he => ?_) (fun j => (tight_lev _ _).1 j) (fun j => lev_small (edges_lt hin) hB.2.2.2 j)
  obtain ⟨y, hy, rfl⟩ := List.mem_map.1 he
  obtain ⟨x, hx, h1, h2⟩ := hE y hy
  have := passL_fix (l := edgesOf cat lines) (f := levOf cat lines) hB.2.2.2 _ (List.mem_map.2 ⟨x, hx, rfl⟩)
  rw [h1, h2] at this
  exact this
def chainT (out : List LineV) : Prop := ∀ (i : Nat) (a b : LineV), out[i]? = some a → out[i + 1]? = some b → ¬ goesP a b
theorem chain_snoc {o : List LineV} {p : LineV} (h : chainT o) (hl : ∀ q, o[o.length - 1]? = some q → 0 < o.length → ¬ goesP q p) : chainT (o ++ [p]) := by
  intro i a b ha hb
  have hi : i + 1 < (o ++ [p]).length := get_lt hb
  simp at hi
  by_cases e : i + 1 = o.length
  · rw [List.getElem?_append_left (by omega)] at ha
    rw [List.getElem?_append_right (by omega)] at hb
    rw [show i + 1 - o.length = 0 by omega] at hb
    simp at hb; subst hb
    exact hl a (by rw [show o.length - 1 = i by omega]; exact ha) (by omega)
  · rw [List.getElem?_append_left (by omega)] at ha hb
    exact h i a b ha hb
theorem chain_pre {o r : List LineV} (h : chainT (o ++ r)) : chainT o := by
  intro i a b ha hb
  have hi := get_lt hb
  exact h i a b (by rw [List.getElem?_append_left (by omega)]; exact ha) (by rw [List.getElem?_append_left (by omega)]; exact hb)
theorem chain_step {out : List LineV} {l : LineV} (h : chainT out) : chainT (stepT out l) := by
  rcases stepT_cases out l with ⟨rfl, e⟩ | ⟨o, p, rfl, ⟨g, e⟩ | ⟨hn, e⟩⟩ <;> rw [e]
  · intro i a b _ hb; have := get_lt hb; simp at this
  · refine chain_snoc (chain_pre h) fun q hq h0 => ?_
    have h1 := h (o.length - 1) q p (by rw [List.getElem?_append_left (by omega)]; exact hq) (by rw [List.getElem?_append_right (by omega), show o.length - 1 + 1 - o.length = 0 by omega]; rfl)
    exact h1
  · refine chain_snoc h fun q hq _ => ?_
    have : (o ++ [p])[(o ++ [p]).length - 1]? = some p := by simp
    rw [this] at hq; cases hq
    exact hn
theorem chain_fold : ∀ (lines out : List LineV), chainT out → chainT (lines.foldl stepT out)
  | [], _, h => h
  | _ :: r, _, h => chain_fold r _ (chain_step h)
theorem tidy_id : ∀ (r out : List LineV), chainT (out ++ r) → r.foldl stepT out = out ++ r
  | [], out, _ => by simp
  | x :: r, out, h => by
    have e : stepT out x = out ++ [x] := by
      rcases stepT_cases out x with ⟨rfl, e⟩ | ⟨o, p, rfl, ⟨g, e⟩ | ⟨_, e⟩⟩
      · exact e
      · exfalso
        refine h o.length p x ?_ ?_ g
        · rw [List.append_assoc, List.getElem?_append_right (by omega)]; simp
        · rw [List.getElem?_append_right (by simp)]; simp
      · exact e
    rw [List.foldl_cons, e, tidy_id r (out ++ [x]) (by simpa using h)]
    simp
theorem tidy_idem (lines : List LineV) : tidyN (tidyN lines) = tidyN lines := by
  have h : chainT (tidyN lines) := chain_fold lines [] (fun i a b ha _ => by simp at ha)
  have := tidy_id (tidyN lines) [] (by simpa using h)
  simpa [tidyN] using this
def sameX (l : LineV) : ChangeV := ⟨7, l.parent, l.part, l.part, 0⟩
theorem step_same {x : ChangeV} (h7 : x.day = 7) (hq : x.quantity = 0) (he : x.old = x.new) (hne : x.new ≠ ⟨#[]⟩) (out : List LineV) (l : LineV) : (changeN x l).foldl stepT out = stepT out l := by
  by_cases ho : offP x l
  · rw [changeN_off ho]; rfl
  · obtain ⟨w1, w2, w3, w4⟩ := changeN_on ho
    have hpa : l.parent = x.parent := Classical.byContradiction fun h => ho (.inl h)
    have hol : l.part = x.old := Classical.byContradiction fun h => ho (.inr (.inl h))
    by_cases h4 : l.start < x.day
    · rw [w2 h4 hne]
      show stepT (stepT out (stopB x l)) (newL x l) = stepT out l
      have hg : ∀ p : LineV, p.stop = x.day - 1 → p.parent = l.parent → p.part = l.part → p.quantity = l.quantity → p.when = l.when → goesP p (newL x l) := fun p h1 h2 h3 h5 h6 =>
        ⟨h2, by rw [h3, hol, he]; rfl, by rw [h5]; unfold newL; rw [if_pos hq], h6, by show Max.max l.start x.day = p.stop + 1; omega⟩
      have hst : (newL x l).stop = l.stop := rfl
      rcases stepT_cases out (stopB x l) with ⟨rfl, e⟩ | ⟨o, p, rfl, ⟨g, e⟩ | ⟨hn, e⟩⟩
      · rw [e, stepT_go (out := [stopB x l]) (p := stopB x l) rfl (hg _ rfl rfl rfl rfl rfl), stepT_nil]
        rfl
      · obtain ⟨g0, g1, g2, g3, g4⟩ := g
        have gl : goesP p l := ⟨g0, g1, g2, g3, g4⟩
        rw [e, stepT_go (out := o ++ [(⟨p.parent, p.part, p.quantity, p.start, (stopB x l).stop, p.when⟩ : LineV)]) (p := ⟨p.parent, p.part, p.quantity, p.start, (stopB x l).stop, p.when⟩) (by simp) (hg _ rfl g0 g1 g2 g3), stepT_go (out := o ++ [p]) (p := p) (by simp) gl]
        simp [hst]
      · have gl : ¬ goesP p l := fun h => hn h
        rw [e, stepT_go (out := o ++ [p] ++ [stopB x l]) (p := stopB x l) (by simp) (hg _ rfl rfl rfl rfl rfl), stepT_no (out := o ++ [p]) (p := p) (by simp) gl]
        simp [hst, stopB]
    · rw [w4 h4 hne]
      have : newL x l = l := by
        unfold newL
        rw [if_pos hq, ← he, ← hol, show Max.max l.start x.day = l.start by omega]
      rw [this]; rfl
theorem fold_same {x : ChangeV} (h7 : x.day = 7) (hq : x.quantity = 0) (he : x.old = x.new) (hne : x.new ≠ ⟨#[]⟩) : ∀ (lines out : List LineV), (appN x lines).foldl stepT out = lines.foldl stepT out
  | [], _ => rfl
  | l :: r, out => by
    have : appN x (l :: r) = changeN x l ++ appN x r := rfl
    rw [this, List.foldl_append, step_same h7 hq he hne, fold_same h7 hq he hne r, List.foldl_cons]
theorem part_ne {cat : List ItemV} {lines : List LineV} (h : isBillsP cat lines) : ∀ l ∈ lines, l.part ≠ ⟨#[]⟩ := fun l hl e => by
  have h1 := (h.2.2.1 l hl).2.1
  rw [e] at h1
  have h2 := noempty h.1
  have h3 : idxOf cat ⟨#[]⟩ = -1 := h2
  omega
set_option maxHeartbeats 8000000 in
theorem law0_FnTidy (b : List Int) (hb1 : b.length ≤ 9223372036854775807) (hb2 : ∀ n ∈ b, 0 ≤ n ∧ n ≤ 255) : Contract Try.prog 6 [.d (lD yD b)] (.one (.d (.sc (.bool true)))) := by
  refine contract_byR [200000 + 35] hma hTa Try.func6 (by kernel_rfl) (by kernel_rfl) ?_
  conv => whnf
  refine CallK_tr (c_laws_big b hb1) (fun h => ?_) (fun h => ?_) <;> conv => whnf
  refine DCallK_intro (c_spec_DrawTidyLines b (by omega) hb2) ?_
  rintro r _ ⟨cat, lines, hc, hc6, hl, hl24, rfl⟩
  conv => whnf
  have e2 : (List.map LineV.dat lines).length = lines.length := List.length_map _
  rcases Classical.em (isBillsP cat lines) with hB | hB
  rotate_left
  · refine CallK_intro (c_impl_TidyLines_n cat hc lines hl hB) ?_
    conv => whnf
    refine CallK_tr (c_spec_IsBills _ hc _ hl) (fun h => absurd h hB) (fun _ => ?_)
    conv => whnf
    exact congrArg (fun b => D.sc (.bool b)) (eqB_iff.2 rfl)
  refine CallK_intro (c_impl_TidyLines_y cat hc lines hl hB) ?_
  conv => whnf
  refine CallK_tr (c_spec_IsBills _ hc _ hl) (fun _ => ?_) (fun h => absurd hB h)
  conv => whnf
  have htB := tidy_bills hl hB
  have htl := tidy_len lines
  have hto : okL LineV.ok (tidyN lines) := ⟨by omega, fun y hy => (tidyQ hl hB.2.2.1 y hy).1⟩
  have hbt := fun day => bills_tidy day (bills_ord hB)
  have hid := tidy_idem lines
  have hsm := fun (x : ChangeV) (h7 : x.day = 7) (hq : x.quantity = 0) (he : x.old = x.new) (hne : x.new ≠ ⟨#[]⟩) => fold_same h7 hq he hne lines []
  change ∀ (x : ChangeV), x.day = 7 → x.quantity = 0 → x.old = x.new → x.new ≠ ⟨#[]⟩ → tidyN (appN x lines) = tidyN lines at hsm
  have hpn := part_ne hB
  generalize tidyN lines = t at htB htl hto hbt hid hsm ⊢
  have et : (List.map LineV.dat t).length = t.length := List.length_map _
  refine LoopK_intro hma hTa [(3, .pl), (4, .pl), (5, .fz), (6, .pl)] (fun i : Nat => ⟨[(3, .d (lD ItemV.dat cat)), (4, .d (lD LineV.dat lines)), (5, .d (lD LineV.dat t)), (6, .d (iD i))], [], []⟩) (fun i => i ≤ 40) (fun i => 40 - i) (by kernel_rfl) ?_ ?_
  · conv => whnf
    refine takeK_full rfl ?_
    conv => whnf
    exact ⟨0, by omega, rfl⟩
  · intro i hi
    conv => whnf
    refine brLt (fun h1 => ?_) (fun h1 => ?_) <;> conv => whnf
    · have hil : i < 40 := by omega
      have hdo : okI (i : Int) := by unfold okI; omega
      have hb1 := bills_ok (day := (i : Int)) hto hdo
      have hb2 := bills_ok (day := (i : Int)) hl hdo
      have hbi := hbt (i : Int)
      refine CallK_intro (c_spec_BillsOn_y cat hc t hto i htB) ?_
      conv => whnf
      refine CallK_intro (c_spec_BillsOn_y cat hc lines hl i hB) ?_
      conv => whnf
      refine takeK_full rfl ?_
      conv => whnf
      refine takeK_full rfl ?_
      conv => whnf
      refine CallK_tr (c_laws_sameLines _ hb1 _ hb2) (fun _ => ?_) (fun h => absurd hbi h)
      conv => whnf
      refine CallK_intro (c_impl_BillsOn_y cat hc lines hl i hB) ?_
      conv => whnf
      refine CallK_intro (c_spec_BillsOn_y cat hc lines hl i hB) ?_
      conv => whnf
      refine brNEq (fun _ => ?_) (fun h => absurd rfl h)
      conv => whnf
      refine WrK_i64 (by omega) (by omega) ?_
      conv => whnf
      exact ⟨i + 1, hil, Nat.sub_lt_sub_left hil (Nat.lt_succ_self i), rfl⟩
    · refine brLt (fun h2 => absurd h2 (by omega)) (fun _ => ?_)
      conv => whnf
      refine CallK_intro (c_impl_TidyLines_y cat hc t hto htB) ?_
      conv => whnf
      rw [hid]
      refine takeK_full rfl ?_
      conv => whnf
      refine CallK_tr (c_laws_sameLines _ hto _ hto) (fun _ => ?_) (fun h => absurd rfl h)
      conv => whnf
      refine LoopK_intro hma hTa [(3, .pl), (4, .pl), (5, .pl), (7, .pl)] (fun i : Nat => ⟨[(3, .d (lD ItemV.dat cat)), (4, .d (lD LineV.dat lines)), (5, .d (lD LineV.dat t)), (7, .d (iD i))], [], []⟩) (fun i => i ≤ 2) (fun i => 2 - i) (by kernel_rfl) ?_ ?_
      · conv => whnf
        exact ⟨0, by omega, rfl⟩
      · intro i hi
        conv => whnf
        refine brLt (fun h3 => ?_) (fun h3 => ?_) <;> conv => whnf
        · refine brLt (fun h4 => ?_) (fun h4 => ?_) <;> conv => whnf
          · have hil : i < 2 := by omega
            refine IxK_mapLt _ rfl (by omega) (fun l hli => ?_)
            conv => whnf
            refine IxK_map i rfl hli ?_
            conv => whnf
            refine IxK_map i rfl hli ?_
            conv => whnf
            have hlo := hl.2 l (get_mem hli)
            have hx : ChangeV.ok ⟨7, l.parent, l.part, l.part, 0⟩ := ⟨(show okI 7 by unfold okI; omega), hlo.1, hlo.2.1, hlo.2.1, okZ⟩
            have hs := hsm ⟨7, l.parent, l.part, l.part, 0⟩ rfl rfl rfl (hpn l (get_mem hli))
            rcases Classical.em (applyP cat lines ⟨7, l.parent, l.part, l.part, 0⟩) with hA | hA
            · refine CallK_intro (c_impl_ApplyChange cat hc lines hl ⟨7, l.parent, l.part, l.part, 0⟩ hx _ ⟨fun _ => rfl, fun h => absurd hA h⟩) ?_
              conv => whnf
              have hao := app_ok hl (by omega) hx hA.2.1.2.1
              refine CallK_intro (c_impl_TidyLines_y cat hc _ hao hA.2.2) ?_
              conv => whnf
              rw [hs]
              refine takeK_full rfl ?_
              conv => whnf
              refine CallK_tr (c_laws_sameLines _ hto _ hto) (fun _ => ?_) (fun h => absurd rfl h)
              conv => whnf
              refine WrK_i64 (by omega) (by omega) ?_
              conv => whnf
              exact ⟨i + 1, hil, Nat.sub_lt_sub_left hil (Nat.lt_succ_self i), rfl⟩
            · refine CallK_intro (c_impl_ApplyChange cat hc lines hl ⟨7, l.parent, l.part, l.part, 0⟩ hx _ ⟨fun h => absurd h hA, fun _ => rfl⟩) ?_
              conv => whnf
              refine WrK_i64 (by omega) (by omega) ?_
              conv => whnf
              exact ⟨i + 1, hil, Nat.sub_lt_sub_left hil (Nat.lt_succ_self i), rfl⟩


theorem bytes_dec {x : D} (h : HasTy (.sl .u8) x) : ∃ b : List Int, x = lD yD b ∧ b.length ≤ 9223372036854775807 ∧ ∀ n ∈ b, 0 ≤ n ∧ n ≤ 255 := by
  obtain ⟨b, e, h1, h2⟩ := sl_dec (f := yD) (ok := fun n => 0 ≤ n ∧ n ≤ 255) (e := .u8) (fun y hy => by cases hy with | u8 n lo hi => exact ⟨n, rfl, lo, hi⟩) h
  exact ⟨b, e, h1, h2⟩
theorem law_FnTidy : ∀ xs, HasTys [.sl .u8] xs → Contract Try.prog 6 (xs.map .d) (.one (.d (.sc (.bool true)))) := by
  intro xs h
  obtain ⟨d0, r0, rfl, h0, g0⟩ := HasTys_cons h
  cases HasTys_nil g0
  obtain ⟨b, rfl, hb1, hb2⟩ := bytes_dec h0
  exact law0_FnTidy b hb1 hb2
end Go.DL
namespace Go.Proofs.Ytjhjedfnjimflaa
open Go.ChangeShapes Go.WideShapes Go.ChangeAt Go.RowKit
theorem Try.cpD : Try.checked.prog = Try.prog := by kernel_rfl
theorem Try.ownD : ownKnob Try.checked.prog.godebug = none := by kernel_rfl
theorem Try.laidOutD : laidOutB Try.checked.prog = true := by kernel_rfl
theorem Try.lawD : ∀ xs, DL.HasTys [.sl .u8] xs → DL.Contract Try.checked.prog 6 (xs.map .d) (.one (.d (.sc (.bool true)))) := by rw [Try.cpD]; exact DL.law_FnTidy
theorem fnTidy_lifted (os : Os) (started : os.Started) (H : Type) (enc : TypeId × Value → H) :
    ReturnsInHanded {} Try.checked os 6 .any (Rows.fnTidySpec.pre6 enc Try.checked.prog Try.f6 Rows.fnTidyRow.domain false) (Rows.fnTidySpec.post enc Try.checked.prog Try.f6 false true false false) := by
  refine returnsInHanded_of_change (C := Try.checked) Try.ownD started (by kernel_rfl) Try.func6
    (ChangeSpec.witness6 (enc := enc) (C := Try.checked) false ⟨#[], #[.slice none 0 0], []⟩ 8 (by kernel_rfl) (by kernel_rfl) (by kernel_rfl) (by kernel_rfl)) ?_
  intro W base args ds gs before hval0 hW0 _ _
  exact DL.law_calls (P := Try.checked.prog) (fn := Try.f6) (s := Rows.fnTidySpec) (ts := [22]) (tb := 4) (tys := [.sl .u8]) (by kernel_rfl) (by kernel_rfl) (by kernel_rfl) rfl
    (fun ds h => match ds, h with | [d0], _ => rfl) Try.laidOutD (by kernel_rfl) Try.lawD W base args ds gs before @hval0 hW0
/-- The law returns true, whatever comes in. -/
theorem FnTidy_holds : Rows.FnTidySaid :=
  OpenClaim.holds_of_wide 6 Try.f6 rfl rfl rfl rfl rfl rfl rfl ⟨rfl, rfl, rfl, rfl, rfl⟩ rfl rfl rfl rfl rfl (by kernel_rfl) Try.func6 (by kernel_rfl)
    (of_decide_eq_true (by kernel_rfl)) (by unfold Func.isWrapper; first | (rw [if_pos (by decide +kernel)]; kernel_rfl) | (rw [if_neg (by decide +kernel)]; exact ⟨rfl, rfl⟩))
    (fun os started H enc _ => fnTidy_lifted os started H enc)
end Go.Proofs.Ytjhjedfnjimflaa
namespace Go.DL

end Go.DL
