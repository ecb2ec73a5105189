/- Contracts of functions of the program, at this seat: what each call returns, by its arguments as data; each states its own conditions. -/
import Derived.Test.YtjhjedfnjimflaaP5
namespace Go.DL
set_option maxRecDepth 100000
set_option maxHeartbeats 2000000
set_option linter.unusedSimpArgs false
set_option linter.unusedVariables false
open Go.RowKit Go.Proofs Go.Proofs.Ytjhjedfnjimflaa

def choiceR (r : Res) (xs : List D) : Prop := ∃ (l : List PickV) (c : CurV), (∀ x ∈ l, x.ok) ∧ l.length ≤ 3 ∧ c.ok ∧ r = .one (.own ⟨42, 2, l.map PickV.dat⟩) ∧ xs = [c.dat]
theorem c_spec_l6Choice (c : CurV) (hc : c.ok) : LContract Try.prog 108 [.lp] (some (curA c)) choiceR := by
  refine contract_byL [6, 100000 + 113, 100000 + 82] hma hTa Try.func108 (by kernel_rfl) (by kernel_rfl) ?_
  conv => whnf
  refine LoopK_introR [6, 100000 + 113, 100000 + 82] hma hTa [(0, .key 100000), (3, .key 3), (4, .pl)] (fun p : Nat × List PickV × CurV => ⟨[(0, .ae 100000 0), (3, .av 3 p.2.1.length), (4, .d (iD p.1))], [(100000, some (curA p.2.2)), (3, some ⟨42, 2, p.2.1.map PickV.dat⟩)], []⟩) (fun p => p.2.1.length ≤ p.1 ∧ p.1 ≤ 3 ∧ (∀ x ∈ p.2.1, PickV.ok x) ∧ CurV.ok p.2.2) (fun p => 10 - p.1) (by kernel_rfl) ?_ ?_
  · conv => whnf
    exact ⟨(0, [], c), ⟨by simp, by simp, by simp, hc⟩, rfl⟩
  · rintro ⟨i, l, c2⟩ ⟨hl, hi, hok, hc2⟩
    dsimp only at hl hi hok hc2
    dsimp only
    conv => whnf
    refine brLt (fun h => ?_) (fun h => ?_) <;> conv => whnf
    · refine L_Once hc2 (fun b c3 hc3 => ?_)
      conv => whnf
      refine brB (fun _ => ?_) (fun _ => ?_) <;> conv => whnf
      · obtain ⟨s, hs1, hs2⟩ := strs_at (ds := [sD ⟨#[67, 79, 76, 79, 82]⟩, sD ⟨#[83, 73, 90, 69]⟩, sD ⟨#[76, 73, 68]⟩]) rfl (i := i) (by simp; omega)
        refine IxA_intro i rfl (by omega) ?_
        conv => whnf
        refine getK_intro hs1 ?_
        conv => whnf
        refine L_Pick hc3 rfl rfl (fun v c4 hc4 hv => ?_)
        conv => whnf
        refine AppK_intro (n := (l ++ [(⟨s, v⟩ : PickV)]).length) (xs' := (l ++ [(⟨s, v⟩ : PickV)]).map PickV.dat) (by simp) (app1 rfl) (by simp; omega) (by simp [PickV.dat, D.width, Ty.width]) ?_
        conv => whnf
        refine KeysK_intro (by kernel_rfl) ?_
        conv => whnf
        refine WrK_i64 (by omega) (by omega) ?_
        conv => whnf
        exact ⟨(i + 1, l ++ [(⟨s, v⟩ : PickV)], c4), ⟨by show (l ++ [_]).length ≤ i + 1; simp; omega, by show i + 1 ≤ 3; omega, fun y hy => (by rcases List.mem_append.1 hy with h1 | h1; exact hok y h1; simp at h1; subst h1; exact ⟨hs2, by show okS v; unfold okS; omega⟩), hc4⟩, (by show 10 - (i + 1) < 10 - i; omega), rfl⟩
      · refine WrK_i64 (by omega) (by omega) ?_
        conv => whnf
        exact ⟨(i + 1, l, c3), ⟨by show l.length ≤ i + 1; omega, by show i + 1 ≤ 3; omega, hok, hc3⟩, (by show 10 - (i + 1) < 10 - i; omega), rfl⟩
    · exact ⟨rfl, rfl, rfl, _, ⟨l, c2, hok, by omega, hc2, rfl, rfl⟩, rfl, rfl, by simp, rfl⟩

theorem c_spec_l10Quantity (c : CurV) (hc : c.ok) : LContract Try.prog 118 [.lp] (some (curA c)) (fun r xs => ∃ (v : Int) (c' : CurV), okI v ∧ v ≤ 100001 ∧ c'.ok ∧ r = .one (.d (iD v)) ∧ xs = [c'.dat]) := by
  refine contract_byL [100000 + 113, 100000 + 157, 100000 + 115] hma hTa Try.func118 (by kernel_rfl) (by kernel_rfl) ?_
  conv => whnf
  refine L_Once hc (fun b c1 hc1 => ?_)
  conv => whnf
  refine brB (fun h => ?_) (fun h => ?_) <;> conv => whnf
  · refine LCallK_intro (c_spec_l1PickInt _ hc1 [-1, 0, 100000, 100001] (by decide) (by decide)) ?_
    have hm := c1.pickI_mem (l := [-1, 0, 100000, 100001]) (by decide)
    have hm2 : okI (c1.pickI [-1, 0, 100000, 100001]) ∧ c1.pickI [-1, 0, 100000, 100001] ≤ 100001 := by
      unfold okI; simp at hm; omega
    conv => whnf
    exact ⟨rfl, rfl, rfl, _, ⟨_, _, hm2.1, hm2.2, CurV.aft_ok hc1 _, rfl, rfl⟩, rfl, rfl, trivial⟩
  · refine L_Below hc1 (fun v c2 hc2 hv _ => ?_)
    have hv1 := hv (by omega)
    conv => whnf
    refine WrK_i64 (by omega) (by omega) ?_
    conv => whnf
    exact ⟨rfl, rfl, rfl, _, ⟨1 + v, c2, (okI_of (by omega) hv (by omega)).2, by omega, hc2, rfl, rfl⟩, rfl, rfl, trivial⟩

theorem c_spec_l11Change (c : CurV) (hc : c.ok) : LContract Try.prog 112 [.lp] (some (curA c)) (fun r xs => ∃ (v : ChangeV) (c' : CurV), v.ok ∧ c'.ok ∧ r = .one (.d v.dat) ∧ xs = [c'.dat]) := by
  refine contract_byL [200000 + 107, 100000 + 82, 100000 + 115, 100000 + 113, 200000 + 106] hma hTa Try.func112 (by kernel_rfl) (by kernel_rfl) ?_
  conv => whnf
  refine DCallK_intro (c_spec_l4Day c hc) ?_
  rintro r _ ⟨day, c1, hday, hc1, rfl, rfl⟩
  conv => whnf
  refine L_Pick hc1 rfl rfl (fun p c2 hc2 hp => ?_)
  conv => whnf
  refine L_Pick hc2 rfl rfl (fun o c3 hc3 ho => ?_)
  conv => whnf
  refine L_Pick hc3 rfl rfl (fun n c4 hc4 hn => ?_)
  conv => whnf
  refine L_Below hc4 (fun q c5 hc5 hq _ => ?_)
  have hq := (okI_of (by omega) hq (by omega)).1
  have okS_of : ∀ s : ByteArray, s.size ≤ 1000 → okS s := fun s h => by unfold okS; omega
  have ok0 : okI 0 := by unfold okI; omega
  conv => whnf
  have fin : ∀ (q : Int) (c : CurV), okI q → c.ok → LCallK Try.prog 113 [.lp, .d (iD 20)] (curA c) = LCallK Try.prog 113 [.lp, .d (iD 20)] (curA c) := fun _ _ _ _ => rfl
  refine brStr (fun h => ?_) (fun h => ?_) <;> conv => whnf
  · refine L_Once hc5 (fun b c6 hc6 => ?_)
    conv => whnf
    refine brB (fun _ => ?_) (fun _ => ?_) <;> conv => whnf
    · refine L_Once hc6 (fun b c7 hc7 => ?_)
      conv => whnf
      refine brB (fun _ => ?_) (fun _ => ?_) <;> conv => whnf
      · refine DCallK_intro (c_spec_l1Code c7 hc7) ?_
        rintro r _ ⟨o2, c8, ho2, hc8, rfl, rfl⟩
        conv => whnf
        exact ⟨rfl, rfl, rfl, _, ⟨⟨day, p, o2, n, 0⟩, c8, ⟨hday, okS_of _ hp, ho2, okS_of _ hn, ok0⟩, hc8, rfl, rfl⟩, rfl, rfl, trivial⟩
      · exact ⟨rfl, rfl, rfl, _, ⟨⟨day, p, o, n, 0⟩, c7, ⟨hday, okS_of _ hp, okS_of _ ho, okS_of _ hn, ok0⟩, hc7, rfl, rfl⟩, rfl, rfl, trivial⟩
    · refine L_Once hc6 (fun b c7 hc7 => ?_)
      conv => whnf
      refine brB (fun _ => ?_) (fun _ => ?_) <;> conv => whnf
      · refine DCallK_intro (c_spec_l1Code c7 hc7) ?_
        rintro r _ ⟨o2, c8, ho2, hc8, rfl, rfl⟩
        conv => whnf
        exact ⟨rfl, rfl, rfl, _, ⟨⟨day, p, o2, n, q⟩, c8, ⟨hday, okS_of _ hp, ho2, okS_of _ hn, hq⟩, hc8, rfl, rfl⟩, rfl, rfl, trivial⟩
      · exact ⟨rfl, rfl, rfl, _, ⟨⟨day, p, o, n, q⟩, c7, ⟨hday, okS_of _ hp, okS_of _ ho, okS_of _ hn, hq⟩, hc7, rfl, rfl⟩, rfl, rfl, trivial⟩
  · refine L_Once hc5 (fun b c7 hc7 => ?_)
    conv => whnf
    refine brB (fun _ => ?_) (fun _ => ?_) <;> conv => whnf
    · refine DCallK_intro (c_spec_l1Code c7 hc7) ?_
      rintro r _ ⟨o2, c8, ho2, hc8, rfl, rfl⟩
      conv => whnf
      exact ⟨rfl, rfl, rfl, _, ⟨⟨day, p, o2, n, q⟩, c8, ⟨hday, okS_of _ hp, ho2, okS_of _ hn, hq⟩, hc8, rfl, rfl⟩, rfl, rfl, trivial⟩
    · exact ⟨rfl, rfl, rfl, _, ⟨⟨day, p, o, n, q⟩, c7, ⟨hday, okS_of _ hp, okS_of _ ho, okS_of _ hn, hq⟩, hc7, rfl, rfl⟩, rfl, rfl, trivial⟩

def caseR (r : Res) (xs : List D) : Prop := ∃ (cat : List ItemV) (lines : List LineV) (s : ByteArray) (c : CurV), okL ItemV.ok cat ∧ cat.length ≤ 6 ∧ okL LineV.ok lines ∧ lines.length ≤ 20 ∧ okS s ∧ c.ok ∧ r = .tup (.d (lD ItemV.dat cat)) [lD LineV.dat lines, sD s] ∧ xs = [c.dat]
theorem c_spec_l10Case (c : CurV) (hc : c.ok) : LContract Try.prog 117 [.lp] (some (curA c)) caseR := by
  refine contract_byL [5, 200000 + 103, 200000 + 104, 100000 + 113, 200000 + 106] hma hTa Try.func117 (by kernel_rfl) (by kernel_rfl) ?_
  conv => whnf
  refine DCallK_intro (c_spec_l8Catalog c hc) ?_
  rintro r _ ⟨cat, c1, h1, h2, h3, hc1, rfl, rfl⟩
  conv => whnf
  refine takeK_full rfl ?_
  conv => whnf
  refine DCallK_intro (c_spec_l9Bills c1 hc1 cat h1 (by omega)) ?_
  rintro r _ ⟨lines, c2, h4, h5, hc2, rfl, rfl⟩
  conv => whnf
  refine L_Once hc2 (fun b c3 hc3 => ?_)
  conv => whnf
  have fin : ∀ (s : ByteArray) (c : CurV), okS s → c.ok → caseR (.tup (.d (lD ItemV.dat cat)) [lD LineV.dat lines, sD s]) [c.dat] := fun s c hs hc => ⟨cat, lines, s, c, ⟨by omega, h1⟩, h3, ⟨by omega, h4⟩, h5, hs, hc, rfl, rfl⟩
  refine brB (fun _ => ?_) (fun _ => ?_) <;> conv => whnf
  · refine DCallK_intro (c_spec_l1Code c3 hc3) ?_
    rintro r _ ⟨s, c4, hs, hc4, rfl, rfl⟩
    conv => whnf
    refine ⟨rfl, rfl, rfl, _, fin s c4 hs hc4, ?_⟩
    conv => whnf
    refine takeK_full rfl ?_
    conv => whnf
    refine ⟨rfl, rfl, ?_⟩
    conv => whnf
    refine takeK_full rfl ?_
    conv => whnf
    exact ⟨rfl, rfl, rfl, rfl, trivial⟩
  · obtain ⟨x0, hx0⟩ : ∃ x, cat[0]? = some x := ⟨cat[0], by simp⟩
    have hx0o := h1 x0 (get_mem hx0)
    refine IxA_intro 0 rfl (by rw [List.length_map]; omega) ?_
    conv => whnf
    refine getK_intro (y := x0.dat) (by simp [hx0]) ?_
    conv => whnf
    refine KeysK_intro (by kernel_rfl) ?_
    conv => whnf
    refine ⟨rfl, rfl, rfl, _, fin x0.code c3 hx0o.1 hc3, ?_⟩
    conv => whnf
    refine takeK_full rfl ?_
    conv => whnf
    refine ⟨rfl, rfl, ?_⟩
    conv => whnf
    refine takeK_full rfl ?_
    conv => whnf
    exact ⟨rfl, rfl, rfl, rfl, trivial⟩

theorem okL_le {α : Type} {ok : α → Prop} {l : List α} {n : Nat} (h : ∀ x ∈ l, ok x) (hn : l.length ≤ n) (h2 : n ≤ 1000) : okL ok l := ⟨by omega, h⟩

def parentsR (r : Res) (_ : List D) : Prop := ∃ (cat : List ItemV) (lines : List LineV) (s : ByteArray) (day : Int) (ch : List PickV), okL ItemV.ok cat ∧ cat.length ≤ 6 ∧ okL LineV.ok lines ∧ lines.length ≤ 20 ∧ okS s ∧ okI day ∧ okL PickV.ok ch ∧ r = .tup (.d (lD ItemV.dat cat)) [lD LineV.dat lines, sD s, iD day, lD PickV.dat ch]
theorem c_spec_DrawParentsOf (b : List Int) (hb : b.length ≤ 1048576) (hb2 : ∀ x ∈ b, 0 ≤ x ∧ x ≤ 255) : LContract Try.prog 45 [.d (lD yD b)] none parentsR := by
  refine contract_byL [200000 + 79, 200000 + 103, 200000 + 104, 200000 + 106, 200000 + 107, 200000 + 108] hma hTa Try.func45 (by kernel_rfl) (by kernel_rfl) ?_
  conv => whnf
  refine DCallK_intro (c_spec_l1New b hb hb2) ?_
  rintro r _ ⟨c, hc, rfl⟩
  conv => whnf
  refine DCallK_intro (c_spec_l8Catalog c hc) ?_
  rintro r _ ⟨cat, c1, h1, h2, h3, hc1, rfl, rfl⟩
  conv => whnf
  refine takeK_full rfl ?_
  conv => whnf
  refine DCallK_intro (c_spec_l9Bills c1 hc1 cat h1 (by omega)) ?_
  rintro r _ ⟨lines, c2, h4, h5, hc2, rfl, rfl⟩
  conv => whnf
  refine DCallK_intro (c_spec_l1Code c2 hc2) ?_
  rintro r _ ⟨s, c3, hs, hc3, rfl, rfl⟩
  conv => whnf
  refine DCallK_intro (c_spec_l4Day c3 hc3) ?_
  rintro r _ ⟨day, c4, hday, hc4, rfl, rfl⟩
  conv => whnf
  refine DCallK_intro (c_spec_l6Choice c4 hc4) ?_
  rintro r _ ⟨ch, c5, hch, hchl, hc5, rfl, rfl⟩
  conv => whnf
  refine ⟨_, ⟨cat, lines, s, day, ch, okL_le h1 h3 (by omega), h3, okL_le h4 h5 (by omega), h5, hs, hday, okL_le hch hchl (by omega), rfl⟩, ?_⟩
  conv => whnf
  refine takeK_full rfl ?_
  conv => whnf
  refine ⟨rfl, rfl, ?_⟩
  conv => whnf
  refine takeK_full rfl ?_
  conv => whnf
  refine ⟨rfl, rfl, rfl, rfl, rfl, rfl, ?_⟩
  conv => whnf
  refine takeK_full rfl ?_
  conv => whnf
  exact ⟨rfl, rfl, trivial⟩

def explR (r : Res) (_ : List D) : Prop := ∃ (cat : List ItemV) (lines : List LineV) (s : ByteArray) (q : Int) (day : Int) (ch : List PickV), okL ItemV.ok cat ∧ cat.length ≤ 6 ∧ okL LineV.ok lines ∧ lines.length ≤ 20 ∧ okS s ∧ okI q ∧ q ≤ 100001 ∧ okI day ∧ okL PickV.ok ch ∧ r = .tup (.d (lD ItemV.dat cat)) [lD LineV.dat lines, sD s, iD q, iD day, lD PickV.dat ch]
theorem c_spec_DrawExplosion (b : List Int) (hb : b.length ≤ 1048576) (hb2 : ∀ x ∈ b, 0 ≤ x ∧ x ≤ 255) : LContract Try.prog 55 [.d (lD yD b)] none explR := by
  refine contract_byL [200000 + 79, 200000 + 117, 200000 + 118, 200000 + 107, 200000 + 108] hma hTa Try.func55 (by kernel_rfl) (by kernel_rfl) ?_
  conv => whnf
  refine DCallK_intro (c_spec_l1New b hb hb2) ?_
  rintro r _ ⟨c, hc, rfl⟩
  conv => whnf
  refine DCallK_intro (c_spec_l10Case c hc) ?_
  rintro r _ ⟨cat, lines, s, c1, h1, h2, h3, h4, hs, hc1, rfl, rfl⟩
  conv => whnf
  refine DCallK_intro (c_spec_l10Quantity c1 hc1) ?_
  rintro r _ ⟨q, c3, hq, hq2, hc3, rfl, rfl⟩
  conv => whnf
  refine DCallK_intro (c_spec_l4Day c3 hc3) ?_
  rintro r _ ⟨day, c4, hday, hc4, rfl, rfl⟩
  conv => whnf
  refine DCallK_intro (c_spec_l6Choice c4 hc4) ?_
  rintro r _ ⟨ch, c5, hch, hchl, hc5, rfl, rfl⟩
  conv => whnf
  refine ⟨_, ⟨cat, lines, s, q, day, ch, h1, h2, h3, h4, hs, hq, hq2, hday, okL_le hch hchl (by omega), rfl⟩, ?_⟩
  conv => whnf
  refine ⟨rfl, rfl, rfl, rfl, rfl, rfl, rfl, rfl, rfl, rfl, ?_⟩
  conv => whnf
  refine takeK_full rfl ?_
  conv => whnf
  exact ⟨rfl, rfl, trivial⟩

def partsR (r : Res) (_ : List D) : Prop := ∃ (cat : List ItemV) (lines : List LineV) (s : ByteArray) (q : Int) (day : Int) (ch : List PickV), okL ItemV.ok cat ∧ cat.length ≤ 6 ∧ okL LineV.ok lines ∧ lines.length ≤ 20 ∧ okS s ∧ okI q ∧ q ≤ 100001 ∧ okI day ∧ okL PickV.ok ch ∧ r = .tup (.d (lD ItemV.dat cat)) [lD LineV.dat lines, sD s, iD q, iD day, lD PickV.dat ch]
theorem c_spec_DrawPartsOf (b : List Int) (hb : b.length ≤ 1048576) (hb2 : ∀ x ∈ b, 0 ≤ x ∧ x ≤ 255) : LContract Try.prog 59 [.d (lD yD b)] none partsR := by
  refine contract_byL [200000 + 79, 200000 + 117, 200000 + 118, 200000 + 107, 200000 + 108] hma hTa Try.func59 (by kernel_rfl) (by kernel_rfl) ?_
  conv => whnf
  refine DCallK_intro (c_spec_l1New b hb hb2) ?_
  rintro r _ ⟨c, hc, rfl⟩
  conv => whnf
  refine DCallK_intro (c_spec_l10Case c hc) ?_
  rintro r _ ⟨cat, lines, s, c1, h1, h2, h3, h4, hs, hc1, rfl, rfl⟩
  conv => whnf
  refine DCallK_intro (c_spec_l10Quantity c1 hc1) ?_
  rintro r _ ⟨q, c3, hq, hq2, hc3, rfl, rfl⟩
  conv => whnf
  refine DCallK_intro (c_spec_l4Day c3 hc3) ?_
  rintro r _ ⟨day, c4, hday, hc4, rfl, rfl⟩
  conv => whnf
  refine DCallK_intro (c_spec_l6Choice c4 hc4) ?_
  rintro r _ ⟨ch, c5, hch, hchl, hc5, rfl, rfl⟩
  conv => whnf
  refine ⟨_, ⟨cat, lines, s, q, day, ch, h1, h2, h3, h4, hs, hq, hq2, hday, okL_le hch hchl (by omega), rfl⟩, ?_⟩
  conv => whnf
  refine ⟨rfl, rfl, rfl, rfl, rfl, rfl, rfl, rfl, rfl, rfl, ?_⟩
  conv => whnf
  refine takeK_full rfl ?_
  conv => whnf
  exact ⟨rfl, rfl, trivial⟩

def applyR (r : Res) (_ : List D) : Prop := ∃ (cat : List ItemV) (lines : List LineV) (x : ChangeV), okL ItemV.ok cat ∧ cat.length ≤ 6 ∧ okL LineV.ok lines ∧ lines.length ≤ 20 ∧ x.ok ∧ r = .tup (.d (lD ItemV.dat cat)) [lD LineV.dat lines, x.dat]
theorem c_spec_DrawApplyChange (b : List Int) (hb : b.length ≤ 1048576) (hb2 : ∀ x ∈ b, 0 ≤ x ∧ x ≤ 255) : LContract Try.prog 50 [.d (lD yD b)] none applyR := by
  refine contract_byL [200000 + 79, 200000 + 103, 200000 + 104, 200000 + 112, 100000 + 113] hma hTa Try.func50 (by kernel_rfl) (by kernel_rfl) ?_
  conv => whnf
  refine DCallK_intro (c_spec_l1New b hb hb2) ?_
  rintro r _ ⟨c, hc, rfl⟩
  conv => whnf
  refine DCallK_intro (c_spec_l8Catalog c hc) ?_
  rintro r _ ⟨cat, c1, h1, h2, h3, hc1, rfl, rfl⟩
  conv => whnf
  refine takeK_full rfl ?_
  conv => whnf
  refine DCallK_intro (c_spec_l9Bills c1 hc1 cat h1 (by omega)) ?_
  rintro r _ ⟨lines, c2, h4, h5, hc2, rfl, rfl⟩
  conv => whnf
  refine DCallK_intro (c_spec_l11Change c2 hc2) ?_
  rintro r _ ⟨x, c3, hx, hc3, rfl, rfl⟩
  conv => whnf
  have fin : ∀ x : ChangeV, x.ok → applyR (.tup (.d (lD ItemV.dat cat)) [lD LineV.dat lines, x.dat]) [] := fun x hx => ⟨cat, lines, x, okL_le h1 h3 (by omega), h3, okL_le h4 h5 (by omega), h5, hx, rfl⟩
  have fin2 : ∀ x : ChangeV, x.ok → applyR (.tup (.d (lD ItemV.dat cat)) [lD LineV.dat lines, x.dat]) [] := fin
  have e2 : (List.map LineV.dat lines).length = lines.length := List.length_map _
  refine brLt (fun h => ?_) (fun h => ?_) <;> conv => whnf
  · refine L_Once hc3 (fun b c4 hc4 => ?_)
    conv => whnf
    refine brB (fun _ => ?_) (fun _ => ?_) <;> conv => whnf
    · obtain ⟨x0, hx0⟩ : ∃ x, lines[0]? = some x := ⟨lines[0]'(by omega), by simp⟩
      have hx0o := h4 x0 (get_mem hx0)
      refine IxA_intro 0 rfl (by omega) ?_
      conv => whnf
      refine getK_intro (y := x0.dat) (by simp [hx0]) ?_
      conv => whnf
      refine IxA_intro 0 rfl (by omega) ?_
      conv => whnf
      refine getK_intro (y := x0.dat) (by simp [hx0]) ?_
      conv => whnf
      refine ⟨_, fin { x with parent := x0.parent, old := x0.part } ⟨hx.1, hx0o.1, hx0o.2.1, hx.2.2.2⟩, ?_⟩
      conv => whnf
      refine takeK_full rfl ?_
      conv => whnf
      refine ⟨rfl, rfl, ?_⟩
      conv => whnf
      refine takeK_full rfl ?_
      conv => whnf
      exact ⟨rfl, rfl, rfl, rfl, trivial⟩
    · refine ⟨_, fin x hx, ?_⟩
      conv => whnf
      refine takeK_full rfl ?_
      conv => whnf
      refine ⟨rfl, rfl, ?_⟩
      conv => whnf
      refine takeK_full rfl ?_
      conv => whnf
      exact ⟨rfl, rfl, rfl, rfl, trivial⟩
  · refine ⟨_, fin x hx, ?_⟩
    conv => whnf
    refine takeK_full rfl ?_
    conv => whnf
    refine ⟨rfl, rfl, ?_⟩
    conv => whnf
    refine takeK_full rfl ?_
    conv => whnf
    exact ⟨rfl, rfl, rfl, rfl, trivial⟩

def appliesR (r : Res) (_ : List D) : Prop := ∃ (cat : List ItemV) (lines : List LineV) (x : List ChangeV), okL ItemV.ok cat ∧ cat.length ≤ 6 ∧ okL LineV.ok lines ∧ lines.length ≤ 20 ∧ okL ChangeV.ok x ∧ x.length ≤ 3 ∧ r = .tup (.d (lD ItemV.dat cat)) [lD LineV.dat lines, lD ChangeV.dat x]
theorem c_spec_DrawApplyChanges (b : List Int) (hb : b.length ≤ 1048576) (hb2 : ∀ x ∈ b, 0 ≤ x ∧ x ≤ 255) : LContract Try.prog 52 [.d (lD yD b)] none appliesR := by
  refine contract_byL [200000 + 79, 200000 + 103, 200000 + 104, 200000 + 112, 100000 + 115] hma hTa Try.func52 (by kernel_rfl) (by kernel_rfl) ?_
  conv => whnf
  refine DCallK_intro (c_spec_l1New b hb hb2) ?_
  rintro r _ ⟨c, hc, rfl⟩
  conv => whnf
  refine DCallK_intro (c_spec_l8Catalog c hc) ?_
  rintro r _ ⟨cat, c1, h1, h2, h3, hc1, rfl, rfl⟩
  conv => whnf
  refine takeK_full rfl ?_
  conv => whnf
  refine DCallK_intro (c_spec_l9Bills c1 hc1 cat h1 (by omega)) ?_
  rintro r _ ⟨lines, c2, h4, h5, hc2, rfl, rfl⟩
  conv => whnf
  refine L_Below hc2 (fun v c3 hc3 hv _ => ?_)
  have hv := hv (by omega)
  obtain ⟨n0, rfl⟩ : ∃ n : Nat, v = (n : Int) := ⟨v.toNat, by omega⟩
  conv => whnf
  refine LoopK_introR [200000 + 112] hma hTa [(5, .key 5), (6, .fz), (7, .fz), (8, .key 8), (9, .pl)] (fun p : Nat × List ChangeV × CurV => ⟨[(5, .ae 5 0), (6, .d (lD ItemV.dat cat)), (7, .d (lD LineV.dat lines)), (8, .av 8 p.2.1.length), (9, .d (iD p.1))], [(5, some (curA p.2.2)), (8, some ⟨69, 5, p.2.1.map ChangeV.dat⟩)], []⟩) (fun p => p.2.1.length + p.1 ≤ 3 ∧ (∀ x ∈ p.2.1, ChangeV.ok x) ∧ CurV.ok p.2.2) (fun p => p.1) (by kernel_rfl) ?_ ?_
  · conv => whnf
    refine takeK_full rfl ?_
    conv => whnf
    refine takeK_full rfl ?_
    conv => whnf
    exact ⟨(n0, [], c3), ⟨by show 0 + n0 ≤ 3; omega, by simp, hc3⟩, rfl⟩
  · rintro ⟨n, l, c4⟩ ⟨hl, hok, hc4⟩
    dsimp only at hl hok hc4
    dsimp only
    conv => whnf
    refine brLt (fun h1 => ?_) (fun h1 => ?_) <;> conv => whnf
    · obtain ⟨n, rfl⟩ : ∃ m, n = m + 1 := ⟨n - 1, by omega⟩
      have en : ((n + 1 : Nat) : Int) - 1 = (n : Int) := by omega
      refine DCallK_intro (c_spec_l11Change c4 hc4) ?_
      rintro r _ ⟨x, c5, hx, hc5, rfl, rfl⟩
      conv => whnf
      refine AppK_intro (n := (l ++ [x]).length) (xs' := (l ++ [x]).map ChangeV.dat) (by simp) (app1 rfl) (by simp; omega) (by simp [ChangeV.dat, D.width, Ty.width]) ?_
      conv => whnf
      refine WrK_i64 (by omega) (by omega) ?_
      conv => whnf
      exact ⟨(n, l ++ [x], c5), ⟨by show (l ++ [_]).length + n ≤ 3; simp; omega, fun y hy => (by rcases List.mem_append.1 hy with h1 | h1; exact hok y h1; simp at h1; subst h1; exact hx), hc5⟩, Nat.lt_succ_self n, by dsimp only; rw [← en]; rfl⟩
    · refine ⟨_, ⟨cat, lines, l, okL_le (by assumption) h3 (by omega), h3, okL_le h4 h5 (by omega), h5, okL_le hok (n := 3) (by omega) (by omega), by omega, rfl⟩, ?_⟩
      conv => whnf
      refine ⟨rfl, rfl, rfl, rfl, ?_⟩
      conv => whnf
      refine takeK_full (List.length_map _).symm ?_
      conv => whnf
      exact ⟨rfl, rfl, trivial⟩

end Go.DL
