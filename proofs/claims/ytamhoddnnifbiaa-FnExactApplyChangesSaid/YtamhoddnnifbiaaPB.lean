/- Contracts of functions of the program, at this seat: what each call returns, by its arguments as data; each states its own conditions. -/
import Derived.Test.YtamhoddnnifbiaaPA
namespace Go.DL
set_option maxRecDepth 100000
set_option maxHeartbeats 2000000
set_option linter.unusedSimpArgs false
set_option linter.unusedVariables false
open Go.RowKit Go.Proofs Go.Proofs.Ytamhoddnnifbiaa

/-! Tidied lines. -/
def goesP (a b : LineV) : Prop := a.parent = b.parent ∧ a.part = b.part ∧ a.quantity = b.quantity ∧ a.when = b.when ∧ b.start = a.stop + 1

set_option maxHeartbeats 4000000 in
theorem c_impl_goesOn (a b : LineV) (ha : a.ok) (hb : b.ok) (hs : a.stop ≤ 1000000) : Contract Try.prog 79 [.d a.dat, .d b.dat] (.one (.d (bD (tr (goesP a b))))) := by
  refine contract_by hma hTa Try.func79 (by kernel_rfl) (by kernel_rfl) ?_
  obtain ⟨a0, a1, a2, a3, a4, a5⟩ := ha
  obtain ⟨b0, b1, b2, b3, b4, b5⟩ := hb
  have a51 := a5.1
  have e1 : (List.map NodeV.dat a.when).length = a.when.length := List.length_map _
  have e2 : (List.map NodeV.dat b.when).length = b.when.length := List.length_map _
  conv => whnf
  refine brNStr (fun g0 => ?_) (fun g0 => ?_) <;> conv => whnf
  rotate_left
  · exact bF (fun h => g0 h.1)
  refine brNStr (fun g1 => ?_) (fun g1 => ?_) <;> conv => whnf
  rotate_left
  · exact bF (fun h => g1 h.2.1)
  refine brNEq (fun g2 => ?_) (fun g2 => ?_) <;> conv => whnf
  rotate_left
  · exact bF (fun h => g2 h.2.2.1)
  refine brNEq (fun g3 => ?_) (fun g3 => ?_) <;> conv => whnf
  rotate_left
  · exact bF (fun h => g3 (by rw [h.2.2.2.1]))
  refine WrK_i64 (by omega) (by omega) ?_
  conv => whnf
  refine brNEq (fun g4 => ?_) (fun g4 => ?_) <;> conv => whnf
  rotate_left
  · exact bF (fun h => g4 h.2.2.2.2)
  refine LoopK_intro hma hTa [(2, .key 2), (3, .key 3), (44, .pl), (45, .pl)] (fun i : Nat => ⟨[(2, .ae 2 0), (3, .ae 3 0), (44, .d (iD (a.when.map NodeV.dat).length)), (45, .d (iD i))], [(2, some ⟨107, 6, [a.dat]⟩), (3, some ⟨107, 6, [b.dat]⟩)], []⟩) (fun i => i ≤ a.when.length ∧ ∀ j, j < i → a.when[j]? = b.when[j]?) (fun i => a.when.length - i) (by kernel_rfl) ?_ ?_
  · conv => whnf
    exact ⟨0, ⟨by omega, fun j h => by omega⟩, rfl⟩
  · rintro i ⟨hi, hall⟩
    conv => whnf
    refine brLt (fun h4 => ?_) (fun h4 => ?_) <;> conv => whnf
    · refine IxK_mapLt _ rfl (by omega) (fun x hx => ?_)
      conv => whnf
      refine IxK_mapLt _ rfl (by omega) (fun y hy => ?_)
      conv => whnf
      have hil := get_lt hx
      refine brM_intro (fun h5 => ?_) (fun h5 => ?_) <;> conv => whnf
      · refine bF (fun h6 => ?_)
        rw [h6.2.2.2.1, hy] at hx
        cases hx
        rw [nodeEq_iff.2 rfl] at h5
        cases h5
      · refine WrK_i64 (by omega) (by omega) ?_
        conv => whnf
        refine ⟨i + 1, ⟨hil, fun j hj => ?_⟩, Nat.sub_lt_sub_left hil (Nat.lt_succ_self i), rfl⟩
        by_cases e : j = i
        · have h6 : x = y := nodeEq_iff.1 (by revert h5; cases (eqB x.kind y.kind && (strEq x.option y.option && (strEq x.value y.value && true))) <;> simp)
          rw [e, hx, hy, h6]
        · exact hall j (by omega)
    · refine bT ⟨g0, g1, g2, List.ext_getElem? fun j => ?_, g4⟩
      by_cases hj : j < i
      · exact hall j hj
      · rw [List.getElem?_eq_none (by omega), List.getElem?_eq_none (by omega)]

open Classical in
noncomputable def stepT (out : List LineV) (l : LineV) : List LineV := match out.getLast? with
  | some p => if goesP p l then out.dropLast ++ [{ p with stop := l.stop }] else out ++ [l]
  | none => [l]
noncomputable def tidyN (lines : List LineV) : List LineV := lines.foldl stepT []
theorem tidy_snoc {lines : List LineV} {i : Nat} {l : LineV} (h : lines[i]? = some l) : tidyN (lines.take (i + 1)) = stepT (tidyN (lines.take i)) l := by
  unfold tidyN; rw [take_snoc h, List.foldl_append]; rfl
theorem last_at {out : List LineV} : out.getLast? = out[out.length - 1]? := List.getLast?_eq_getElem? ..
theorem stepT_nil (l : LineV) : stepT [] l = [l] := rfl
theorem stepT_go {out : List LineV} {p l : LineV} (h : out[out.length - 1]? = some p) (g : goesP p l) : stepT out l = out.dropLast ++ [{ p with stop := l.stop }] := by
  unfold stepT; rw [last_at, h]; dsimp only; rw [if_pos g]
theorem stepT_no {out : List LineV} {p l : LineV} (h : out[out.length - 1]? = some p) (g : ¬ goesP p l) : stepT out l = out ++ [l] := by
  unfold stepT; rw [last_at, h]; dsimp only; rw [if_neg g]
theorem stepT_cases (out : List LineV) (l : LineV) : (out = [] ∧ stepT out l = [l]) ∨ ∃ o p, out = o ++ [p] ∧ ((goesP p l ∧ stepT out l = o ++ [{ p with stop := l.stop }]) ∨ (¬ goesP p l ∧ stepT out l = out ++ [l])) := by
  rcases List.eq_nil_or_concat out with rfl | ⟨o, p, rfl⟩
  · exact .inl ⟨rfl, rfl⟩
  · refine .inr ⟨o, p, by simp, ?_⟩
    rw [show o.concat p = o ++ [p] by simp]
    have h : (o ++ [p])[(o ++ [p]).length - 1]? = some p := by simp
    rcases Classical.em (goesP p l) with g | g
    · exact .inl ⟨g, by rw [stepT_go h g]; simp⟩
    · exact .inr ⟨g, stepT_no h g⟩
theorem stepT_len (out : List LineV) (l : LineV) : (stepT out l).length ≤ out.length + 1 := by
  rcases stepT_cases out l with ⟨rfl, h⟩ | ⟨o, p, rfl, ⟨_, h⟩ | ⟨_, h⟩⟩ <;> rw [h] <;> simp
theorem stepT_all {Q : LineV → Prop} {out : List LineV} {l : LineV} (h : ∀ y ∈ out, Q y) (hl : Q l) (hg : ∀ p, Q p → goesP p l → Q { p with stop := l.stop }) : ∀ y ∈ stepT out l, Q y := by
  rcases stepT_cases out l with ⟨rfl, e⟩ | ⟨o, p, rfl, ⟨g, e⟩ | ⟨_, e⟩⟩ <;> rw [e] <;> intro y hy
  · simp at hy; subst hy; exact hl
  · rcases List.mem_append.1 hy with hy | hy
    · exact h y (by simp [hy])
    · simp at hy; subst hy; exact hg p (h p (by simp)) g
  · rcases List.mem_append.1 hy with hy | hy
    · exact h y hy
    · simp at hy; subst hy; exact hl
theorem foldT_all {Q : LineV → Prop} (hg : ∀ p l, Q p → Q l → goesP p l → Q { p with stop := l.stop }) : ∀ (lines out : List LineV), (∀ y ∈ out, Q y) → (∀ l ∈ lines, Q l) → ∀ y ∈ lines.foldl stepT out, Q y
  | [], _, h, _ => h
  | l :: r, out, h, hl => foldT_all hg r _ (stepT_all h (hl l (by simp)) fun p hp g => hg p l hp (hl l (by simp)) g) fun y hy => hl y (by simp [hy])
theorem foldT_len : ∀ (lines out : List LineV), (lines.foldl stepT out).length ≤ out.length + lines.length
  | [], _ => Nat.le_refl _
  | l :: r, out => by
    have h1 := foldT_len r (stepT out l)
    have h2 := stepT_len out l
    rw [List.foldl_cons, List.length_cons]; omega
theorem tidy_len (lines : List LineV) : (tidyN lines).length ≤ lines.length := by have := foldT_len lines []; unfold tidyN; simp at this; omega
def lineQ (cat : List ItemV) (x : LineV) : Prop := x.ok ∧ isLineP cat x
theorem lineQ_go {cat : List ItemV} {p l : LineV} (hp : lineQ cat p) (hl : lineQ cat l) (g : goesP p l) : lineQ cat { p with stop := l.stop } := by
  obtain ⟨⟨k0, k1, k2, k3, k4, k5⟩, h0, h1, h2, h3, h4, h5, h6⟩ := hp
  obtain ⟨⟨_, _, _, _, q4, _⟩, _, _, _, _, r4, r5, _⟩ := hl
  obtain ⟨_, _, _, _, g4⟩ := g
  refine ⟨⟨k0, k1, k2, k3, q4, k5⟩, h0, h1, h2, h3, h4, ?_, h6⟩
  unfold inP at *
  show p.start ≤ l.stop ∧ l.stop ≤ 999
  omega
theorem tidyQ {cat : List ItemV} {lines : List LineV} (hl : okL LineV.ok lines) (hB : ∀ x ∈ lines, isLineP cat x) : ∀ y ∈ tidyN lines, lineQ cat y :=
  foldT_all (fun p l hp hl g => lineQ_go hp hl g) lines [] (by simp) fun l h => ⟨hl.2 l h, hB l h⟩
theorem set_last {α β : Type} {f : α → β} {l : List α} {q : α} (h : 0 < l.length) : (l.map f).set (l.length - 1) (f q) = (l.dropLast ++ [q]).map f := by
  rcases List.eq_nil_or_concat l with rfl | ⟨o, p, rfl⟩
  · simp at h
  · simp

theorem c_impl_TidyLines_n (cat : List ItemV) (hc : okL ItemV.ok cat) (lines : List LineV) (hl : okL LineV.ok lines) (hB : ¬ isBillsP cat lines) : Contract Try.prog 36 [.d (lD ItemV.dat cat), .d (lD LineV.dat lines)] (.one (.own ⟨107, 6, []⟩)) := by
  refine contract_by hma hTa Try.func36 (by kernel_rfl) (by kernel_rfl) ?_
  conv => whnf
  refine CallK_tr (c_impl_IsBills _ hc _ hl) (fun h => absurd h hB) (fun _ => ?_)
  conv => whnf
  exact ⟨rfl, rfl, rfl, rfl⟩
set_option maxHeartbeats 4000000 in
theorem c_impl_TidyLines_y (cat : List ItemV) (hc : okL ItemV.ok cat) (lines : List LineV) (hl : okL LineV.ok lines) (hB : isBillsP cat lines) : Contract Try.prog 36 [.d (lD ItemV.dat cat), .d (lD LineV.dat lines)] (.one (.own ⟨107, 6, (tidyN lines).map LineV.dat⟩)) := by
  refine contract_by hma hTa Try.func36 (by kernel_rfl) (by kernel_rfl) ?_
  conv => whnf
  refine CallK_tr (c_impl_IsBills _ hc _ hl) (fun _ => ?_) (fun h => absurd hB h)
  conv => whnf
  have hlen := hB.2.1
  have e2 : (List.map LineV.dat lines).length = lines.length := List.length_map _
  refine LoopK_intro hma hTa [(5, .key 5), (15, .pl), (16, .pl), (17, .pl)] (fun i : Nat => ⟨[(5, .av 5 (tidyN (lines.take i)).length), (15, .d (lD LineV.dat lines)), (16, .d (iD (lines.map LineV.dat).length)), (17, .d (iD i))], [(5, some ⟨107, 6, (tidyN (lines.take i)).map LineV.dat⟩)], []⟩) (fun i => i ≤ lines.length) (fun i => lines.length - i) (by kernel_rfl) ?_ ?_
  · conv => whnf
    exact ⟨0, by omega, rfl⟩
  · intro i hi
    conv => whnf
    refine brLt (fun h => ?_) (fun h => ?_) <;> conv => whnf
    · refine IxK_mapLt _ rfl (by omega) (fun l hli => ?_)
      conv => whnf
      have hil := get_lt hli
      have hlo := hl.2 l (get_mem hli)
      have hll := hB.2.2.1 l (get_mem hli)
      have hsn := tidy_snoc hli
      have htl : (tidyN (lines.take i)).length ≤ lines.length := Nat.le_trans (tidy_len _) (by simp; omega)
      have hQ := tidyQ (cat := cat) (lines := lines.take i) ⟨by simp; omega, fun x hx => hl.2 x (List.mem_of_mem_take hx)⟩ fun x hx => hB.2.2.1 x (List.mem_of_mem_take hx)
      generalize tidyN (lines.take i) = out at hsn htl hQ ⊢
      have ap : ∀ (K : Nat → List D → Prop), K (out ++ [l]).length ((out ++ [l]).map LineV.dat) → AppK (out.map LineV.dat) out.length [l.dat] 6 K := fun K hK =>
        AppK_intro (n := (out ++ [l]).length) (xs' := (out ++ [l]).map LineV.dat) (by simp) (app_one rfl) (by simp; omega) (by simp [LineV.dat, D.width]) hK
      refine brLt (fun h2 => ?_) (fun h2 => ?_) <;> conv => whnf
      · obtain ⟨p, hp⟩ : ∃ p, out[out.length - 1]? = some p := ⟨out[out.length - 1]'(by omega), by simp⟩
        obtain ⟨hpo, hpl⟩ := hQ p (get_mem hp)
        have hpe : p.stop ≤ 999 := hpl.2.2.2.2.2.1.2
        refine WrK_i64 (by omega) (by omega) ?_
        conv => whnf
        refine IxA_intro (out.length - 1) (by omega) (by omega) ?_
        conv => whnf
        refine getK_intro (y := p.dat) (by rw [List.getElem?_map, hp]; rfl) ?_
        conv => whnf
        refine CallK_tr (c_impl_goesOn p l hpo hlo (by omega)) (fun g => ?_) (fun g => ?_) <;> conv => whnf
        · have hgo := stepT_go hp g
          refine WrK_i64 (by omega) (by omega) ?_
          conv => whnf
          refine IxA_intro (out.length - 1) (by omega) (by omega) ?_
          conv => whnf
          refine getK_intro (y := p.dat) (by rw [List.getElem?_map, hp]; rfl) ?_
          conv => whnf
          refine setK_intro (xs' := (out.dropLast ++ [{ p with stop := l.stop }]).map LineV.dat) (by rw [List.length_map]; omega) (set_last (f := LineV.dat) (q := { p with stop := l.stop }) (by omega)).symm ?_
          conv => whnf
          refine WrK_i64 (by omega) (by omega) ?_
          conv => whnf
          refine ⟨i + 1, hil, Nat.sub_lt_sub_left hil (Nat.lt_succ_self i), ?_⟩
          dsimp only
          have hln : (out.dropLast ++ [({ p with stop := l.stop } : LineV)]).length = out.length := by simp; omega
          rw [hsn, hgo, hln]
          rfl
        · have hno := stepT_no hp g
          refine CallK_intro (c_impl_copyLine l hlo (cond_of hB (get_mem hli))) ?_
          conv => whnf
          refine ap _ ?_
          conv => whnf
          refine WrK_i64 (by omega) (by omega) ?_
          conv => whnf
          exact ⟨i + 1, hil, Nat.sub_lt_sub_left hil (Nat.lt_succ_self i), by dsimp only; rw [hsn, hno]; rfl⟩
      · have h0 : out = [] := List.eq_nil_of_length_eq_zero (by omega)
        refine CallK_intro (c_impl_copyLine l hlo (cond_of hB (get_mem hli))) ?_
        conv => whnf
        refine ap _ ?_
        conv => whnf
        refine WrK_i64 (by omega) (by omega) ?_
        conv => whnf
        exact ⟨i + 1, hil, Nat.sub_lt_sub_left hil (Nat.lt_succ_self i), by dsimp only; rw [hsn, h0, stepT_nil]; rfl⟩
    · rw [List.take_of_length_le (l := lines) (by omega)]
      exact ⟨rfl, rfl, by simp, rfl⟩

end Go.DL
