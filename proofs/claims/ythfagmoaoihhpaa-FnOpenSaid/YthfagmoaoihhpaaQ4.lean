/- Contracts of functions of the program, at this seat: what each call returns, by its arguments as data; each states its own conditions. -/
import Derived.Test.YthfagmoaoihhpaaQ3
import Derived.Test.YthfagmoaoihhpaaXE
namespace Go.DL
set_option maxRecDepth 100000
set_option maxHeartbeats 2000000
set_option linter.unusedSimpArgs false
set_option linter.unusedVariables false
open Go.RowKit Go.Proofs Go.Proofs.Ythfagmoaoihhpaa

def pkS (a : List PickV × CurV) (o : OptV) : List PickV × CurV := if eqB (a.2.below 2) 0 = true then (if 0 < o.values.length then (a.1 ++ [⟨o.name, (a.2.aft 2).pick o.values⟩], (a.2.aft 2).aft o.values.length) else (a.1, a.2.aft 2)) else (a.1, a.2.aft 2)
def pkT (os : List OptV) (c : CurV) : List PickV × CurV := os.foldl pkS ([], c)
theorem pkT_snoc {os : List OptV} {c : CurV} {i : Nat} {o : OptV} (h : os[i]? = some o) : pkT (os.take (i + 1)) c = pkS (pkT (os.take i) c) o := by unfold pkT; rw [take_snoc h, List.foldl_append]; rfl
def LZ : PickV := ⟨⟨#[76, 73, 68]⟩, ⟨#[90]⟩⟩
def pkE (a : List PickV × CurV) : List PickV × CurV := if eqB (a.2.below 12) 0 = true then (a.1 ++ [LZ], a.2.aft 12) else (a.1, a.2.aft 12)
def pkR (m : ModelV) (c : CurV) : List PickV × CurV := pkE (pkT m.options c)
theorem LZ_ok : LZ.ok := by constructor <;> (show okS _; unfold okS; decide)
theorem pkT_ok {m : ModelV} (hm : m.ok) {c : CurV} (hc : c.ok) : ∀ i, i ≤ m.options.length → (pkT (m.options.take i) c).1.length ≤ i ∧ (∀ x ∈ (pkT (m.options.take i) c).1, PickV.ok x) ∧ (pkT (m.options.take i) c).2.ok
  | 0, _ => ⟨by simp [pkT], by simp [pkT], by simpa [pkT] using hc⟩
  | i + 1, hi => by
    obtain ⟨h1, h2, h3⟩ := pkT_ok hm hc i (by omega)
    obtain ⟨o, ho⟩ : ∃ o, m.options[i]? = some o := ⟨m.options[i], by simp⟩
    have hoK := hm.1.2 o (get_mem ho)
    rw [pkT_snoc ho]
    generalize pkT (m.options.take i) c = a at h1 h2 h3
    have k2 := CurV.aft_ok h3 2
    unfold pkS
    split
    · split
      · rename_i hv
        refine ⟨by simp; omega, fun y hy => ?_, CurV.aft_ok k2 _⟩
        rcases List.mem_append.1 hy with h | h
        · exact h2 y h
        · rw [List.mem_singleton.1 h]; exact ⟨hoK.1, hoK.2.2 _ (CurV.pick_mem _ hv)⟩
      · exact ⟨by show a.1.length ≤ i + 1; omega, h2, k2⟩
    · exact ⟨by show a.1.length ≤ i + 1; omega, h2, k2⟩
theorem pkR_ok {m : ModelV} (hm : m.ok) (h4 : m.options.length ≤ 4) {c : CurV} (hc : c.ok) : okL PickV.ok (pkR m c).1 ∧ (pkR m c).1.length ≤ 5 ∧ (pkR m c).2.ok := by
  obtain ⟨h1, h2, h3⟩ := pkT_ok hm hc m.options.length (Nat.le_refl _)
  rw [List.take_length] at h1 h2 h3
  unfold pkR
  generalize pkT m.options c = a at h1 h2 h3
  unfold pkE
  split
  · refine ⟨⟨by simp; omega, fun y hy => ?_⟩, by simp; omega, CurV.aft_ok h3 _⟩
    rcases List.mem_append.1 hy with h | h
    · exact h2 y h
    · rw [List.mem_singleton.1 h]; exact LZ_ok
  · exact ⟨⟨by show a.1.length ≤ _; omega, h2⟩, by show a.1.length ≤ 5; omega, CurV.aft_ok h3 _⟩
set_option maxHeartbeats 8000000 in
theorem c_spec_l7Picks (c : CurV) (hc : c.ok) (m : ModelV) (hm : m.ok) (h4 : m.options.length ≤ 4) (h3 : ∀ o ∈ m.options, o.values.length ≤ 3) : LContract Try.prog 27 [.lp, .d m.dat] (some (curA c)) (fun r xs => r = .one (.own ⟨42, 2, (pkR m c).1.map PickV.dat⟩) ∧ xs = [(pkR m c).2.dat]) := by
  refine contract_byL [6, 100000 + 40, 100000 + 28] hma hTa Try.func27 (by kernel_rfl) (by kernel_rfl) ?_
  have e1 : (List.map OptV.dat m.options).length = m.options.length := List.length_map _
  conv => whnf
  refine LoopK_introR [6, 100000 + 40, 100000 + 28] hma hTa [(0, .key 100000), (3, .key 3), (5, .key 5), (6, .pl)] (fun p : Nat × (List PickV × CurV) => ⟨[(0, .ae 100000 0), (3, .ae 3 0), (5, .av 5 p.2.1.length), (6, .d (iD p.1))], [(100000, some (curA p.2.2)), (3, some ⟨27, 2, [m.dat]⟩), (5, some ⟨42, 2, p.2.1.map PickV.dat⟩)], []⟩) (fun p => p.2 = pkT (m.options.take p.1) c ∧ p.1 ≤ m.options.length) (fun p => 10 - p.1) (by kernel_rfl) ?_ ?_
  · conv => whnf
    exact ⟨(0, ([], c)), ⟨rfl, by show 0 ≤ _; omega⟩, rfl⟩
  rintro ⟨i, a⟩ ⟨ha, hi⟩
  dsimp only at ha hi
  obtain ⟨hl, hok, hc1⟩ := pkT_ok hm hc i hi
  have hsn := fun {o} (h : m.options[i]? = some o) => pkT_snoc (c := c) h
  rw [← ha] at hl hok hc1 hsn
  dsimp only
  conv => whnf
  refine brLt (fun h => ?_) (fun h => ?_) <;> conv => whnf
  · refine LCallK_intro (c_spec_l1Once _ hc1 2) ?_
    conv => whnf
    have hil : i < m.options.length := by omega
    obtain ⟨o, ho⟩ : ∃ o, m.options[i]? = some o := ⟨m.options[i], by simp⟩
    have hoK := hm.1.2 o (get_mem ho)
    have hoV := h3 o (get_mem ho)
    have hst := hsn ho
    have k2 := CurV.aft_ok hc1 2
    have hdec : 10 - (i + 1) < 10 - i := by omega
    refine brB (fun h6 => ?_) (fun h6 => ?_) <;> conv => whnf
    · refine IxK_map i rfl ho ?_
      conv => whnf
      refine brLt (fun h5 => ?_) (fun h5 => ?_) <;> conv => whnf
      · refine IxK_map i rfl ho ?_
        conv => whnf
        refine IxK_map i rfl ho ?_
        conv => whnf
        have hvl : 0 < o.values.length := by have : (List.map sD o.values).length = o.values.length := List.length_map _; omega
        refine LCallK_intro (c_spec_l1Pick _ k2 o.values hvl (by omega)) ?_
        have hs : pkS a o = (a.1 ++ [⟨o.name, (a.2.aft 2).pick o.values⟩], (a.2.aft 2).aft o.values.length) := by unfold pkS; rw [if_pos h6, if_pos hvl]
        rw [hs] at hst
        generalize (a.2.aft 2).pick o.values = s at hst ⊢
        generalize (a.2.aft 2).aft o.values.length = c3 at hst ⊢
        conv => whnf
        refine AppK_intro (n := (a.1 ++ [(⟨o.name, s⟩ : PickV)]).length) (xs' := (a.1 ++ [(⟨o.name, s⟩ : PickV)]).map PickV.dat) (by simp) (app1 rfl) (by simp; omega) (by simp [PickV.dat, D.width, Ty.width]) ?_
        conv => whnf
        refine KeysK_intro (by kernel_rfl) ?_
        conv => whnf
        refine WrK_i64 (by omega) (by omega) ?_
        conv => whnf
        exact ⟨(i + 1, (a.1 ++ [(⟨o.name, s⟩ : PickV)], c3)), ⟨hst.symm, hil⟩, hdec, rfl⟩
      · have hs : pkS a o = (a.1, a.2.aft 2) := by
          have : (List.map sD o.values).length = o.values.length := List.length_map _
          unfold pkS; rw [if_pos h6, if_neg (by omega)]
        rw [hs] at hst
        refine WrK_i64 (by omega) (by omega) ?_
        conv => whnf
        exact ⟨(i + 1, (a.1, a.2.aft 2)), ⟨hst.symm, hil⟩, hdec, rfl⟩
    · have hs : pkS a o = (a.1, a.2.aft 2) := by unfold pkS; rw [if_neg (by rw [h6]; decide)]
      rw [hs] at hst
      refine WrK_i64 (by omega) (by omega) ?_
      conv => whnf
      exact ⟨(i + 1, (a.1, a.2.aft 2)), ⟨hst.symm, hil⟩, hdec, rfl⟩
  · have ei : i = m.options.length := by omega
    have hR : ∀ r, pkR m c = r → (eqB (a.2.below 12) 0 = true → r = (a.1 ++ [LZ], a.2.aft 12)) ∧ (eqB (a.2.below 12) 0 = false → r = (a.1, a.2.aft 12)) := fun r h => by
      subst h
      unfold pkR
      rw [ei, List.take_length] at ha
      rw [← ha]
      unfold pkE
      exact ⟨fun h => if_pos h, fun h => if_neg (by rw [h]; decide)⟩
    generalize pkR m c = r at hR ⊢
    refine LCallK_intro (c_spec_l1Once _ hc1 12) ?_
    conv => whnf
    refine brB (fun h6 => ?_) (fun h6 => ?_) <;> conv => whnf
    · refine AppK_intro (n := (a.1 ++ [LZ]).length) (xs' := (a.1 ++ [LZ]).map PickV.dat) (by simp) (app1 rfl) (by simp; omega) (by simp [D.width, Ty.width]) ?_
      conv => whnf
      rw [(hR r rfl).1 h6]
      exact ⟨rfl, rfl, rfl, _, ⟨rfl, rfl⟩, rfl, rfl, by simp, rfl⟩
    · rw [(hR r rfl).2 h6]
      exact ⟨rfl, rfl, rfl, _, ⟨rfl, rfl⟩, rfl, rfl, by simp, rfl⟩

def mpR (r : Res) (_ : List D) : Prop := ∃ (m : ModelV) (l : List PickV), m.ok ∧ okL PickV.ok l ∧ l.length ≤ 5 ∧ r = .tup (.d m.dat) [lD PickV.dat l]
theorem c_spec_l7Two (b : List Int) (hb : b.length ≤ 1048576) (hb2 : ∀ x ∈ b, 0 ≤ x ∧ x ≤ 255) : LContract Try.prog 17 [.d (lD yD b)] none mpR := by
  refine contract_byL [3, 200000 + 25, 200000 + 26, 100000 + 27] hma hTa Try.func17 (by kernel_rfl) (by kernel_rfl) ?_
  conv => whnf
  refine DCallK_intro (c_spec_l1New b hb hb2) ?_
  rintro r _ ⟨c, hc, rfl⟩
  conv => whnf
  refine DCallK_intro (c_spec_l7Model c hc) ?_
  rintro r _ ⟨m, c1, hm, h4, h3, hc1, rfl, rfl⟩
  conv => whnf
  refine LCallK_intro (c_spec_l7Picks c1 hc1 m hm h4 h3) ?_
  obtain ⟨h5, h6, h7⟩ := pkR_ok hm h4 hc1
  generalize pkR m c1 = q at h5 h6 h7 ⊢
  conv => whnf
  refine KeysK_intro (by kernel_rfl) ?_
  conv => whnf
  refine ⟨_, ⟨m, q.1, hm, h5, h6, rfl⟩, ?_⟩
  conv => whnf
  refine ⟨rfl, rfl, ?_⟩
  conv => whnf
  refine takeK_full rfl ?_
  conv => whnf
  exact ⟨rfl, rfl, trivial⟩

theorem c_spec_DrawConflictOf (b : List Int) (hb : b.length ≤ 1048576) (hb2 : ∀ x ∈ b, 0 ≤ x ∧ x ≤ 255) : LContract Try.prog 6 [.d (lD yD b)] none mpR := by
  refine contract_byL [200000 + 17] hma hTa Try.func6 (by kernel_rfl) (by kernel_rfl) ?_
  conv => whnf
  refine DCallK_intro (c_spec_l7Two b hb hb2) ?_
  rintro r _ ⟨m, l, hm, h5, h6, rfl⟩
  conv => whnf
  exact ⟨_, ⟨m, l, hm, h5, h6, rfl⟩, rfl, rfl, rfl, rfl, trivial⟩

theorem c_laws_contains (ch : List PickV) (hc : okL PickV.ok ch) (picks : List PickV) (hp : okL PickV.ok picks) : Contract Try.prog 11 [.d (lD PickV.dat ch), .d (lD PickV.dat picks)] (.one (.d (bD (tr (conP picks ch))))) := by
  refine contract_byR [8] hma hTa Try.func11 (by kernel_rfl) (by kernel_rfl) ?_
  have hc1 := hc.1
  have hp1 := hp.1
  have e1 : (List.map PickV.dat ch).length = ch.length := List.length_map _
  have e2 : (List.map PickV.dat picks).length = picks.length := List.length_map _
  conv => whnf
  refine LoopK_introR [8] hma hTa [(0, .pl), (1, .pl), (5, .pl)] (fun i : Nat => ⟨[(0, .d (lD PickV.dat ch)), (1, .d (lD PickV.dat picks)), (5, .d (iD i))], [], []⟩) (fun i => i ≤ picks.length ∧ conP (picks.take i) ch) (fun i => picks.length - i) (by kernel_rfl) ?_ ?_
  · conv => whnf
    exact ⟨0, ⟨by omega, fun p hp => by simp at hp⟩, rfl⟩
  · intro i ⟨hi, hall⟩
    conv => whnf
    refine brLt (fun h => ?_) (fun h => ?_) <;> conv => whnf
    rotate_left
    · rw [List.take_of_length_le (by omega)] at hall
      exact bT hall
    have hil : i < picks.length := by omega
    obtain ⟨p, hpi⟩ : ∃ p, picks[i]? = some p := ⟨picks[i], by simp⟩
    refine LoopK_introR [8] hma hTa [(0, .pl), (1, .pl), (5, .pl), (6, .pl), (7, .pl)] (fun j : Nat => ⟨[(0, .d (lD PickV.dat ch)), (1, .d (lD PickV.dat picks)), (5, .d (iD i)), (6, .d (bD (tr (p ∈ ch.take j)))), (7, .d (iD j))], [], []⟩) (fun j => j ≤ ch.length) (fun j => ch.length - j) (by kernel_rfl) ?_ ?_
    · conv => whnf
      exact ⟨0, by omega, by rw [tr_f (by simp)]; rfl⟩
    · intro j hj
      conv => whnf
      refine brLt (fun h2 => ?_) (fun h2 => ?_) <;> conv => whnf
      · have hjl : j < ch.length := by omega
        obtain ⟨q, hq⟩ : ∃ q, ch[j]? = some q := ⟨ch[j], by simp⟩
        have hmem : p ∈ ch.take (j + 1) ↔ p ∈ ch.take j ∨ p = q := by rw [take_snoc hq]; simp
        refine brTr (fun h6 => ?_) (fun h6 => ?_) <;> conv => whnf
        · refine KeysK_intro (by kernel_rfl) ?_
          conv => whnf
          refine WrK_i64 (by omega) (by omega) ?_
          conv => whnf
          exact ⟨j + 1, hjl, Nat.sub_lt_sub_left hjl (Nat.lt_succ_self j), by dsimp only; rw [tr_t (hmem.2 (.inl h6))]; rfl⟩
        · refine IxK_map j rfl hq ?_
          conv => whnf
          refine IxK_map i rfl hpi ?_
          conv => whnf
          refine KeysK_intro (by kernel_rfl) ?_
          conv => whnf
          refine WrK_i64 (by omega) (by omega) ?_
          conv => whnf
          refine ⟨j + 1, hjl, Nat.sub_lt_sub_left hjl (Nat.lt_succ_self j), ?_⟩
          dsimp only
          have e : tr (p ∈ ch.take (j + 1)) = (strEq q.option p.option && (strEq q.value p.value && true)) := (tr_bool (pick_eq.trans ⟨fun h => hmem.2 (.inr h.symm), fun h => ((hmem.1 h).resolve_left h6).symm⟩)).symm
          rw [e]
          rfl
      · rw [List.take_of_length_le (by omega)]
        refine brNTr (fun h5 => ?_) (fun h5 => ?_) <;> conv => whnf
        · refine WrK_i64 (by omega) (by omega) ?_
          conv => whnf
          refine ⟨i + 1, ⟨hil, fun x hx => ?_⟩, Nat.sub_lt_sub_left hil (Nat.lt_succ_self i), rfl⟩
          rw [take_snoc hpi] at hx
          rcases List.mem_append.1 hx with hx | hx
          · exact hall x hx
          · rw [List.mem_singleton.1 hx]; exact h5
        · exact bF (fun h => h5 (h p (get_mem hpi)))

end Go.DL
