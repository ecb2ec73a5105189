/- Contracts of functions of the program, at this seat: what each call returns, by its arguments as data; each states its own conditions. -/
import Derived.Test.YtjhjedfnjimflaaP3
namespace Go.DL
set_option maxRecDepth 100000
set_option maxHeartbeats 2000000
set_option linter.unusedSimpArgs false
set_option linter.unusedVariables false
open Go.RowKit Go.Proofs Go.Proofs.Ytjhjedfnjimflaa

def catR (r : Res) (xs : List D) : Prop := ∃ (l : List ItemV) (c : CurV), (∀ x ∈ l, x.ok) ∧ 1 ≤ l.length ∧ l.length ≤ 6 ∧ c.ok ∧ r = .one (.own ⟨79, 8, l.map ItemV.dat⟩) ∧ xs = [c.dat]
theorem strs_at {ds : List D} (h : strsB ds = true) {i : Nat} (hi : i < ds.length) : ∃ s, ds[i]? = some (sD s) ∧ okS s := by
  obtain ⟨l, rfl, hok⟩ := strsB_spec h
  rw [List.length_map] at hi
  refine ⟨l[i], by simp [hi], ?_⟩
  have := hok l[i] (List.getElem_mem _)
  unfold okS; omega
theorem mem_set {α : Type} {l : List α} {i : Nat} {x y : α} {p : α → Prop} (h : ∀ z ∈ l, p z) (hx : p x) (hy : y ∈ l.set i x) : p y := by
  rcases List.mem_or_eq_of_mem_set hy with h1 | h1
  · exact h y h1
  · rw [h1]; exact hx
set_option maxHeartbeats 4000000 in
theorem c_spec_l8Catalog (c : CurV) (hc : c.ok) : LContract Try.prog 103 [.lp] (some (curA c)) catR := by
  refine contract_byL [100000 + 115, 100000 + 113, 200000 + 154, 200000 + 155] hma hTa Try.func103 (by kernel_rfl) (by kernel_rfl) ?_
  conv => whnf
  refine L_Below hc (fun v c1 hc1 hv _ => ?_)
  have hv := hv (by omega)
  conv => whnf
  refine WrK_i64 (by omega) (by omega) ?_
  conv => whnf
  refine LoopK_introR [100000 + 115, 100000 + 113, 200000 + 154, 200000 + 155] hma hTa [(0, .key 100000), (3, .key 3), (4, .pl), (5, .pl)] (fun p : Nat × List ItemV × CurV => ⟨[(0, .ae 100000 0), (3, .av 3 p.2.1.length), (4, .d (iD (1 + v))), (5, .d (iD p.1))], [(100000, some (curA p.2.2)), (3, some ⟨79, 8, p.2.1.map ItemV.dat⟩)], []⟩) (fun p => p.2.1.length = p.1 ∧ (p.1 : Int) ≤ 1 + v ∧ (∀ x ∈ p.2.1, ItemV.ok x) ∧ CurV.ok p.2.2) (fun p => 10 - p.1) (by kernel_rfl) ?_ ?_
  · conv => whnf
    exact ⟨(0, [], c1), ⟨rfl, by show (0 : Int) ≤ 1 + v; omega, by simp, hc1⟩, rfl⟩
  · rintro ⟨i, l, c2⟩ ⟨hl, hi, hok, hc2⟩
    dsimp only at hl hi hok hc2
    dsimp only
    conv => whnf
    refine brLt (fun h => ?_) (fun h => ?_) <;> conv => whnf
    · refine IxA_intro i rfl (by omega) ?_
      conv => whnf
      obtain ⟨s, hs1, hs2⟩ := strs_at (ds := [sD ⟨#[65]⟩, sD ⟨#[66]⟩, sD ⟨#[67]⟩, sD ⟨#[68]⟩, sD ⟨#[69]⟩, sD ⟨#[70]⟩]) rfl (i := i) (by simp; omega)
      refine getK_intro hs1 ?_
      conv => whnf
      refine DCallK_intro (c_spec_l8Item c2 hc2 s hs2) ?_
      rintro r _ ⟨x, c3, hx, hc3, rfl, rfl⟩
      conv => whnf
      refine AppK_intro (n := (l ++ [x]).length) (xs' := (l ++ [x]).map ItemV.dat) (by simp) (app1 rfl) (by simp; omega) (by simp [ItemV.dat, D.width, Ty.width]) ?_
      conv => whnf
      refine WrK_i64 (by omega) (by omega) ?_
      conv => whnf
      exact ⟨(i + 1, l ++ [x], c3), ⟨by simp [hl], by show ((i + 1 : Nat) : Int) ≤ 1 + v; omega, fun y hy => (by rcases List.mem_append.1 hy with h1 | h1; exact hok y h1; simp at h1; subst h1; exact hx), hc3⟩, (by show 10 - (i + 1) < 10 - i; omega), rfl⟩
    · have hl1 : 1 ≤ l.length := by omega
      have hl6 : l.length ≤ 6 := by omega
      obtain ⟨x0, hx0⟩ : ∃ x, l[0]? = some x := ⟨l[0], by simp⟩
      have hx0o := hok x0 (get_mem hx0)
      refine L_Once hc2 (fun b c3 hc3 => ?_)
      conv => whnf
      have rest : ∀ (l : List ItemV) (c3 : CurV), (∀ x ∈ l, ItemV.ok x) → 1 ≤ l.length → l.length ≤ 6 → c3.ok → catR (.one (.own ⟨79, 8, l.map ItemV.dat⟩)) [c3.dat] := fun l c3 h1 h2 h3 h4 => ⟨l, c3, h1, h2, h3, h4, rfl, rfl⟩
      refine brB (fun _ => ?_) (fun _ => ?_) <;> conv => whnf
      · refine IxA_intro 0 rfl (by omega) ?_
        conv => whnf
        refine getK_intro (y := x0.dat) (by simp [hx0]) ?_
        conv => whnf
        refine DCallK_intro (c_spec_l8Bad c3 hc3 x0 hx0o) ?_
        rintro r _ ⟨x, c4, hx, hc4, rfl, rfl⟩
        conv => whnf
        refine IxA_intro 0 rfl (by omega) ?_
        conv => whnf
        refine setK_intro (xs' := (l.set 0 x).map ItemV.dat) (by simp; omega) (by rw [List.map_set]) ?_
        conv => whnf
        have hok' : ∀ y ∈ l.set 0 x, ItemV.ok y := fun y hy => mem_set hok hx hy
        have hll : (l.set 0 x).length = l.length := List.length_set ..
        generalize l.set 0 x = l' at hok' hll ⊢
        rw [← hll]
        refine L_Once hc4 (fun b c5 hc5 => ?_)
        conv => whnf
        refine brB (fun _ => ?_) (fun _ => ?_) <;> conv => whnf
        · refine brLt (fun h7 => ?_) (fun h7 => ?_) <;> conv => whnf
          · obtain ⟨y0, hy0⟩ : ∃ x, l'[0]? = some x := ⟨l'[0]'(by omega), by simp⟩
            obtain ⟨y1, hy1⟩ : ∃ x, l'[1]? = some x := ⟨l'[1]'(by omega), by simp⟩
            refine IxA_intro 0 rfl (by omega) ?_
            conv => whnf
            refine getK_intro (y := y0.dat) (by simp [hy0]) ?_
            conv => whnf
            refine IxA_intro 1 rfl (by omega) ?_
            conv => whnf
            refine getK_intro (y := y1.dat) (by simp [hy1]) ?_
            conv => whnf
            refine IxA_intro 0 rfl (by omega) ?_
            conv => whnf
            refine setK_intro (xs' := (l'.set 0 y1).map ItemV.dat) (by simp; omega) (by rw [List.map_set]) ?_
            conv => whnf
            refine IxA_intro 1 rfl (by omega) ?_
            conv => whnf
            refine setK_intro (xs' := ((l'.set 0 y1).set 1 y0).map ItemV.dat) (by simp; omega) (by rw [List.map_set (l := l'.set 0 y1)]) ?_
            conv => whnf
            exact ⟨rfl, rfl, rfl, _, rest ((l'.set 0 y1).set 1 y0) _ (fun y hy => mem_set (fun z hz => mem_set hok' (hok' y1 (get_mem hy1)) hz) (hok' y0 (get_mem hy0)) hy) (by simp; omega) (by simp; omega) hc5, rfl, rfl, by simp, rfl⟩
          · exact ⟨rfl, rfl, rfl, _, rest l' _ hok' (by omega) (by omega) hc5, rfl, rfl, by simp, rfl⟩
        · exact ⟨rfl, rfl, rfl, _, rest l' _ hok' (by omega) (by omega) hc5, rfl, rfl, by simp, rfl⟩
      · refine L_Once hc3 (fun b c5 hc5 => ?_)
        conv => whnf
        refine brB (fun _ => ?_) (fun _ => ?_) <;> conv => whnf
        · refine brLt (fun h7 => ?_) (fun h7 => ?_) <;> conv => whnf
          · obtain ⟨y0, hy0⟩ : ∃ x, l[0]? = some x := ⟨l[0]'(by omega), by simp⟩
            obtain ⟨y1, hy1⟩ : ∃ x, l[1]? = some x := ⟨l[1]'(by omega), by simp⟩
            refine IxA_intro 0 rfl (by omega) ?_
            conv => whnf
            refine getK_intro (y := y0.dat) (by simp [hy0]) ?_
            conv => whnf
            refine IxA_intro 1 rfl (by omega) ?_
            conv => whnf
            refine getK_intro (y := y1.dat) (by simp [hy1]) ?_
            conv => whnf
            refine IxA_intro 0 rfl (by omega) ?_
            conv => whnf
            refine setK_intro (xs' := (l.set 0 y1).map ItemV.dat) (by simp; omega) (by rw [List.map_set]) ?_
            conv => whnf
            refine IxA_intro 1 rfl (by omega) ?_
            conv => whnf
            refine setK_intro (xs' := ((l.set 0 y1).set 1 y0).map ItemV.dat) (by simp; omega) (by rw [List.map_set (l := l.set 0 y1)]) ?_
            conv => whnf
            exact ⟨rfl, rfl, rfl, _, rest ((l.set 0 y1).set 1 y0) _ (fun y hy => mem_set (fun z hz => mem_set hok (hok y1 (get_mem hy1)) hz) (hok y0 (get_mem hy0)) hy) (by simp; omega) (by simp; omega) hc5, rfl, rfl, by simp, rfl⟩
          · exact ⟨rfl, rfl, rfl, _, rest l _ hok (by omega) (by omega) hc5, rfl, rfl, by simp, rfl⟩
        · exact ⟨rfl, rfl, rfl, _, rest l _ hok (by omega) (by omega) hc5, rfl, rfl, by simp, rfl⟩

def billR (r : Res) (xs : List D) : Prop := ∃ (l : List LineV) (c : CurV), (∀ x ∈ l, x.ok) ∧ l.length ≤ 20 ∧ c.ok ∧ r = .one (.own ⟨67, 6, l.map LineV.dat⟩) ∧ xs = [c.dat]
set_option maxHeartbeats 4000000 in
theorem c_spec_l9Bills (c : CurV) (hc : c.ok) (cat : List ItemV) (hcat : ∀ x ∈ cat, ItemV.ok x) (hcl : cat.length ≤ 1000) : LContract Try.prog 104 [.lp, .d (lD ItemV.dat cat)] (some (curA c)) billR := by
  refine contract_byL [8, 11, 100000 + 115, 100000 + 113, 100000 + 157, 100000 + 156] hma hTa Try.func104 (by kernel_rfl) (by kernel_rfl) ?_
  conv => whnf
  have e1 : (List.map ItemV.dat cat).length = cat.length := List.length_map _
  have ok0 : okI 0 := by unfold okI; omega
  have ok1 : okI 1 := by unfold okI; omega
  have ok9 : okI 9 := by unfold okI; omega
  have ok999 : okI 999 := by unfold okI; omega
  have okE : okS ⟨#[]⟩ := by unfold okS; decide
  have okA : okS ⟨#[65]⟩ := by unfold okS; decide
  have okC : okS ⟨#[67]⟩ := by unfold okS; decide
  have okQ : okS ⟨#[81]⟩ := by unfold okS; decide
  have okN : okL NodeV.ok [⟨0, ⟨#[]⟩, ⟨#[]⟩⟩] := ⟨by simp, fun x hx => by simp at hx; subst hx; exact ⟨ok0, okE, okE⟩⟩
  refine L_Below hc (fun v c1 hc1 hv _ => ?_)
  have hv := hv (by omega)
  conv => whnf
  obtain ⟨n0, rfl⟩ : ∃ n : Nat, v = (n : Int) := ⟨v.toNat, by omega⟩
  refine LoopK_introR [8, 11, 100000 + 115, 100000 + 113, 100000 + 157, 100000 + 156] hma hTa [(0, .key 100000), (1, .pl), (5, .key 5), (6, .pl)] (fun p : Nat × List LineV × CurV => ⟨[(0, .ae 100000 0), (1, .d (lD ItemV.dat cat)), (5, .av 5 p.2.1.length), (6, .d (iD p.1))], [(100000, some (curA p.2.2)), (5, some ⟨67, 6, p.2.1.map LineV.dat⟩)], []⟩) (fun p => p.2.1.length + p.1 ≤ 9 ∧ (∀ x ∈ p.2.1, LineV.ok x) ∧ CurV.ok p.2.2) (fun p => p.1) (by kernel_rfl) ?_ ?_
  · conv => whnf
    exact ⟨(n0, [], c1), ⟨by show 0 + n0 ≤ 9; omega, by simp, hc1⟩, rfl⟩
  · rintro ⟨n, l, c2⟩ ⟨hl, hok, hc2⟩
    dsimp only at hl hok hc2
    dsimp only
    have rest : ∀ (l : List LineV) (c3 : CurV), (∀ x ∈ l, LineV.ok x) → l.length ≤ 20 → c3.ok → billR (.one (.own ⟨67, 6, l.map LineV.dat⟩)) [c3.dat] := fun l c3 h1 h2 h3 => ⟨l, c3, h1, h2, h3, rfl, rfl⟩
    have app : ∀ (x : LineV), (∀ y ∈ l, LineV.ok y) → x.ok → ∀ y ∈ l ++ [x], LineV.ok y := fun x h1 h2 y hy => by
      rcases List.mem_append.1 hy with h3 | h3
      · exact h1 y h3
      · simp at h3; subst h3; exact h2
    have appK : ∀ (x : LineV) (K : Nat → List D → Prop), K (l ++ [x]).length ((l ++ [x]).map LineV.dat) → AppK (l.map LineV.dat) l.length [x.dat] 6 K := fun x K hK => AppK_intro (n := (l ++ [x]).length) (xs' := (l ++ [x]).map LineV.dat) (by simp) (app1 rfl) (by simp; omega) (by simp [LineV.dat, D.width]) hK
    conv => whnf
    refine brLt (fun h1 => ?_) (fun h1 => ?_) <;> conv => whnf
    · refine brLt (fun h2 => ?_) (fun h2 => ?_) <;> conv => whnf
      · obtain ⟨n, rfl⟩ : ∃ m, n = m + 1 := ⟨n - 1, by omega⟩
        have en : ((n + 1 : Nat) : Int) - 1 = (n : Int) := by omega
        refine WrK_i64 (by omega) (by omega) ?_
        conv => whnf
        refine L_Below hc2 (fun a c3 hc3 ha _ => ?_)
        have ha := ha (by omega)
        conv => whnf
        refine WrK_i64 (by omega) (by omega) ?_
        conv => whnf
        refine WrK_i64 (by omega) (by omega) ?_
        conv => whnf
        refine WrK_i64 (by omega) (by omega) ?_
        conv => whnf
        refine L_Below hc3 (fun b c4 hc4 hb _ => ?_)
        have hb := hb (by omega)
        conv => whnf
        refine WrK_i64 (by omega) (by omega) ?_
        conv => whnf
        refine IxK_mapI (by omega) (by omega) (fun ia xa hia hxa => ?_)
        conv => whnf
        have hxo := hcat xa (get_mem hxa)
        refine brEq (fun h3 => ?_) (fun h3 => ?_) <;> conv => whnf
        · refine WrK_i64 (by omega) (by omega) ?_
          conv => whnf
          exact ⟨(n, l, c4), ⟨by show l.length + n ≤ 9; omega, hok, hc4⟩, Nat.lt_succ_self n, by dsimp only; rw [← en]; rfl⟩
        · refine IxK_map ia (by omega) hxa ?_
          conv => whnf
          refine IxK_mapI (by omega) (by omega) (fun ib xb hib hxb => ?_)
          conv => whnf
          have hxbo := hcat xb (get_mem hxb)
          refine L_Below hc4 (fun q c5 hc5 hq _ => ?_)
          have hq2 := (okI_of (by omega) hq (by omega)).2
          have hq := hq (by omega)
          conv => whnf
          refine WrK_i64 (by omega) (by omega) ?_
          conv => whnf
          refine L_When hc5 (fun wl c6 hc6 hwl hwo => ?_)
          conv => whnf
          refine takeK_full rfl ?_
          conv => whnf
          refine KeysK_intro (by kernel_rfl) ?_
          conv => whnf
          have hwk : okL NodeV.ok wl := ⟨by omega, hwo⟩
          refine L_Once hc6 (fun b2 c7 hc7 => ?_)
          conv => whnf
          refine brB (fun _ => ?_) (fun _ => ?_) <;> conv => whnf
          · refine L_Below hc7 (fun f c8 hc8 hf _ => ?_)
            have hf2 := (okI_of (by omega) hf (by omega)).1
            have hf := hf (by omega)
            conv => whnf
            refine L_Below hc8 (fun g c9 hc9 hg _ => ?_)
            have hg := hg (by omega)
            have hfg : okI (f + g) := by unfold okI; omega
            conv => whnf
            refine WrK_i64 (by omega) (by omega) ?_
            conv => whnf
            refine KeysK_intro (by kernel_rfl) ?_
            conv => whnf
            refine appK ⟨xa.code, xb.code, 1 + q, f, f + g, wl⟩ _ ?_
            conv => whnf
            refine WrK_i64 (by omega) (by omega) ?_
            conv => whnf
            exact ⟨(n, l ++ [⟨xa.code, xb.code, 1 + q, f, f + g, wl⟩], c9), ⟨by show (l ++ [_]).length + n ≤ 9; simp; omega, app _ hok ⟨hxo.1, hxbo.1, hq2, hf2, hfg, hwk⟩, hc9⟩, Nat.lt_succ_self n, by dsimp only; rw [← en]; rfl⟩
          · refine appK ⟨xa.code, xb.code, 1 + q, 0, 999, wl⟩ _ ?_
            conv => whnf
            refine WrK_i64 (by omega) (by omega) ?_
            conv => whnf
            exact ⟨(n, l ++ [⟨xa.code, xb.code, 1 + q, 0, 999, wl⟩], c7), ⟨by show (l ++ [_]).length + n ≤ 9; simp; omega, app _ hok ⟨hxo.1, hxbo.1, hq2, ok0, ok999, hwk⟩, hc7⟩, Nat.lt_succ_self n, by dsimp only; rw [← en]; rfl⟩
      · refine L_Below hc2 (fun k c3 hc3 _ _ => ?_)
        conv => whnf
        refine brEq (fun _ => ?_) (fun _ => ?_) <;> conv => whnf
        · refine appK ⟨⟨#[67]⟩, ⟨#[65]⟩, 1, 0, 9, [⟨0, ⟨#[]⟩, ⟨#[]⟩⟩]⟩ _ ?_
          conv => whnf
          exact ⟨rfl, rfl, rfl, _, rest _ _ (app _ hok ⟨okC, okA, ok1, ok0, ok9, okN⟩) (by simp; omega) hc3, rfl, rfl, by simp, rfl⟩
        refine brEq (fun _ => ?_) (fun _ => ?_) <;> conv => whnf
        · refine appK ⟨⟨#[65]⟩, ⟨#[81]⟩, 1, 0, 9, [⟨0, ⟨#[]⟩, ⟨#[]⟩⟩]⟩ _ ?_
          conv => whnf
          exact ⟨rfl, rfl, rfl, _, rest _ _ (app _ hok ⟨okA, okQ, ok1, ok0, ok9, okN⟩) (by simp; omega) hc3, rfl, rfl, by simp, rfl⟩
        refine brEq (fun _ => ?_) (fun _ => ?_) <;> conv => whnf
        · refine brLt (fun h9 => ?_) (fun h9 => ?_) <;> conv => whnf
          · obtain ⟨y0, hy0⟩ : ∃ x, l[0]? = some x := ⟨l[0]'(by omega), by simp⟩
            have hy0o := hok y0 (get_mem hy0)
            refine L_PickInt hc3 rfl rfl (fun w c4 hc4 hw => ?_)
            conv => whnf
            refine IxA_intro 0 rfl (by omega) ?_
            conv => whnf
            refine getK_intro (y := y0.dat) (by simp [hy0]) ?_
            conv => whnf
            refine setK_intro (xs' := (l.set 0 { y0 with quantity := w }).map LineV.dat) (by simp; omega) (by rw [List.map_set]; rfl) ?_
            conv => whnf
            exact ⟨rfl, rfl, rfl, _, rest (l.set 0 { y0 with quantity := w }) _ (fun y hy => mem_set hok (show LineV.ok { y0 with quantity := w } from ⟨hy0o.1, hy0o.2.1, hw, hy0o.2.2.2⟩) hy) (by simp; omega) hc4, rfl, rfl, by simp, rfl⟩
          · exact ⟨rfl, rfl, rfl, _, rest l _ hok (by omega) hc3, rfl, rfl, by simp, rfl⟩
        · exact ⟨rfl, rfl, rfl, _, rest l _ hok (by omega) hc3, rfl, rfl, by simp, rfl⟩
    · refine L_Below hc2 (fun k c3 hc3 _ _ => ?_)
      conv => whnf
      refine brEq (fun _ => ?_) (fun _ => ?_) <;> conv => whnf
      · refine appK ⟨⟨#[67]⟩, ⟨#[65]⟩, 1, 0, 9, [⟨0, ⟨#[]⟩, ⟨#[]⟩⟩]⟩ _ ?_
        conv => whnf
        exact ⟨rfl, rfl, rfl, _, rest _ _ (app _ hok ⟨okC, okA, ok1, ok0, ok9, okN⟩) (by simp; omega) hc3, rfl, rfl, by simp, rfl⟩
      refine brEq (fun _ => ?_) (fun _ => ?_) <;> conv => whnf
      · refine appK ⟨⟨#[65]⟩, ⟨#[81]⟩, 1, 0, 9, [⟨0, ⟨#[]⟩, ⟨#[]⟩⟩]⟩ _ ?_
        conv => whnf
        exact ⟨rfl, rfl, rfl, _, rest _ _ (app _ hok ⟨okA, okQ, ok1, ok0, ok9, okN⟩) (by simp; omega) hc3, rfl, rfl, by simp, rfl⟩
      refine brEq (fun _ => ?_) (fun _ => ?_) <;> conv => whnf
      · refine brLt (fun h9 => ?_) (fun h9 => ?_) <;> conv => whnf
        · obtain ⟨y0, hy0⟩ : ∃ x, l[0]? = some x := ⟨l[0]'(by omega), by simp⟩
          have hy0o := hok y0 (get_mem hy0)
          refine L_PickInt hc3 rfl rfl (fun w c4 hc4 hw => ?_)
          conv => whnf
          refine IxA_intro 0 rfl (by omega) ?_
          conv => whnf
          refine getK_intro (y := y0.dat) (by simp [hy0]) ?_
          conv => whnf
          refine setK_intro (xs' := (l.set 0 { y0 with quantity := w }).map LineV.dat) (by simp; omega) (by rw [List.map_set]; rfl) ?_
          conv => whnf
          exact ⟨rfl, rfl, rfl, _, rest (l.set 0 { y0 with quantity := w }) _ (fun y hy => mem_set hok (show LineV.ok { y0 with quantity := w } from ⟨hy0o.1, hy0o.2.1, hw, hy0o.2.2.2⟩) hy) (by simp; omega) hc4, rfl, rfl, by simp, rfl⟩
        · exact ⟨rfl, rfl, rfl, _, rest l _ hok (by omega) hc3, rfl, rfl, by simp, rfl⟩
      · exact ⟨rfl, rfl, rfl, _, rest l _ hok (by omega) hc3, rfl, rfl, by simp, rfl⟩

end Go.DL
