/- Contracts of functions of the program, at this seat: what each call returns, by its arguments as data; each states its own conditions. -/
import Derived.Test.YthfagmoaoihhpaaP2
namespace Go.DL
set_option maxRecDepth 100000
set_option maxHeartbeats 2000000
set_option linter.unusedSimpArgs false
set_option linter.unusedVariables false
open Go.RowKit Go.Proofs Go.Proofs.Ythfagmoaoihhpaa

theorem app1 {α : Type} {f : α → D} {l : List α} {x : α} {m : Nat} (h : m = l.length) : (l ++ [x]).map f = (l.map f).take m ++ [f x] := by
  subst h; rw [List.take_of_length_le (by simp)]; simp
theorem okZ : okI 0 := by unfold okI; omega
theorem okO : okI 1 := by unfold okI; omega
theorem okE : okS ⟨#[]⟩ := by unfold okS; decide

@[irreducible] def leafN (c : CurV) : NodeV := if eqB (c.below 9) 0 = true then ⟨0, ⟨#[]⟩, ⟨#[]⟩⟩ else ⟨1, (c.aft 9).pick [⟨#[67, 79, 76, 79, 82]⟩, ⟨#[83, 73, 90, 69]⟩, ⟨#[76, 73, 68]⟩], ((c.aft 9).aft 3).pick [⟨#[88]⟩, ⟨#[89]⟩, ⟨#[90]⟩]⟩
@[irreducible] def leafC (c : CurV) : CurV := if eqB (c.below 9) 0 = true then c.aft 9 else ((c.aft 9).aft 3).aft 3
theorem leafC_ok {c : CurV} (h : c.ok) : (leafC c).ok := by
  unfold leafC
  split
  · exact CurV.aft_ok h _
  · exact CurV.aft_ok (CurV.aft_ok (CurV.aft_ok h _) _) _
theorem pick_size (c : CurV) {l : List ByteArray} (h : 0 < l.length) (hs : ∀ s ∈ l, s.size ≤ 1000) : okS (c.pick l) := by
  have := hs _ (c.pick_mem h)
  unfold okS; omega
theorem leafN_ok (c : CurV) : (leafN c).ok := by
  unfold leafN
  split
  · exact ⟨okZ, okE, okE⟩
  · exact ⟨okO, pick_size _ (by decide) (by decide), pick_size _ (by decide) (by decide)⟩
theorem c_spec_l6Leaf (c : CurV) (hc : c.ok) : LContract Try.prog 46 [.lp] (some (curA c)) (fun r xs => r = .one (.d (leafN c).dat) ∧ xs = [(leafC c).dat]) := by
  refine contract_byL [100000 + 40, 100000 + 28] hma hTa Try.func46 (by kernel_rfl) (by kernel_rfl) ?_
  conv => whnf
  refine LCallK_intro (c_spec_l1Once c hc 9) ?_
  conv => whnf
  refine brB (fun h => ?_) (fun h => ?_) <;> conv => whnf
  · exact ⟨rfl, rfl, rfl, .one (.d (leafN c).dat), ⟨rfl, by unfold leafC; rw [if_pos h]⟩, rfl, by unfold leafN; rw [if_pos h]; rfl, trivial⟩
  · have hn : ¬ (eqB (c.below 9) 0 = true) := by rw [h]; decide
    refine LCallK_intro (c_spec_l1Pick _ (CurV.aft_ok hc 9) [⟨#[67, 79, 76, 79, 82]⟩, ⟨#[83, 73, 90, 69]⟩, ⟨#[76, 73, 68]⟩] (by decide) (by decide)) ?_
    conv => whnf
    refine LCallK_intro (c_spec_l1Pick _ (CurV.aft_ok (CurV.aft_ok hc 9) 3) [⟨#[88]⟩, ⟨#[89]⟩, ⟨#[90]⟩] (by decide) (by decide)) ?_
    conv => whnf
    exact ⟨rfl, rfl, rfl, .one (.d (leafN c).dat), ⟨rfl, by unfold leafC; rw [if_neg hn]; rfl⟩, rfl, by unfold leafN; rw [if_neg hn]; rfl, trivial⟩

def drawN : Nat → CurV → List NodeV × CurV
  | 0, c => ([leafN c], leafC c)
  | d + 1, c => if eqB (c.below 3) 0 = true then ([leafN (c.aft 3)], leafC (c.aft 3)) else
    let a := drawN d (c.aft 3)
    if eqB (a.2.below 3) 0 = true then (a.1 ++ [⟨2, ⟨#[]⟩, ⟨#[]⟩⟩], a.2.aft 3) else
    let b := drawN d (a.2.aft 3)
    if eqB (a.2.below 3) 1 = true then (a.1 ++ b.1 ++ [⟨3, ⟨#[]⟩, ⟨#[]⟩⟩], b.2) else (a.1 ++ b.1 ++ [⟨4, ⟨#[]⟩, ⟨#[]⟩⟩], b.2)
theorem drawN_succ (d : Nat) (c : CurV) : drawN (d + 1) c = if eqB (c.below 3) 0 = true then ([leafN (c.aft 3)], leafC (c.aft 3)) else
    if eqB ((drawN d (c.aft 3)).2.below 3) 0 = true then ((drawN d (c.aft 3)).1 ++ [⟨2, ⟨#[]⟩, ⟨#[]⟩⟩], (drawN d (c.aft 3)).2.aft 3) else
    if eqB ((drawN d (c.aft 3)).2.below 3) 1 = true then ((drawN d (c.aft 3)).1 ++ (drawN d ((drawN d (c.aft 3)).2.aft 3)).1 ++ [⟨3, ⟨#[]⟩, ⟨#[]⟩⟩], (drawN d ((drawN d (c.aft 3)).2.aft 3)).2) else ((drawN d (c.aft 3)).1 ++ (drawN d ((drawN d (c.aft 3)).2.aft 3)).1 ++ [⟨4, ⟨#[]⟩, ⟨#[]⟩⟩], (drawN d ((drawN d (c.aft 3)).2.aft 3)).2) := rfl
theorem drawN_ok : ∀ (d : Nat) {c : CurV}, c.ok → (drawN d c).2.ok ∧ (drawN d c).1.length ≤ 4 ^ (d + 1) ∧ 1 ≤ (drawN d c).1.length ∧ ∀ x ∈ (drawN d c).1, NodeV.ok x
  | 0, c, h => ⟨leafC_ok h, by simp [drawN], by simp [drawN], fun x hx => by simp [drawN] at hx; subst hx; exact leafN_ok c⟩
  | d + 1, c, h => by
    have h1 := CurV.aft_ok h 3
    have ia := drawN_ok d h1
    have h2 := CurV.aft_ok ia.1 3
    have ib := drawN_ok d h2
    have nk : ∀ n : Int, okI n → NodeV.ok ⟨n, ⟨#[]⟩, ⟨#[]⟩⟩ := fun n hn => ⟨hn, okE, okE⟩
    have h4 : 4 ^ (d + 1 + 1) = 4 ^ (d + 1) * 4 := Nat.pow_succ ..
    have h5 : 1 ≤ 4 ^ (d + 1) := by have := Nat.pow_le_pow_right (show 0 < 4 by omega) (Nat.zero_le (d + 1)); simpa using this
    unfold drawN
    split
    · refine ⟨leafC_ok h1, by simp; omega, by simp, fun x hx => by simp at hx; subst hx; exact leafN_ok _⟩
    · dsimp only
      split
      · refine ⟨h2, by simp; omega, by simp <;> omega, fun x hx => ?_⟩
        rcases List.mem_append.1 hx with h6 | h6
        · exact ia.2.2.2 x h6
        · simp at h6; subst h6; exact nk 2 (by unfold okI; omega)
      · split
        · refine ⟨ib.1, by simp; omega, by simp <;> omega, fun x hx => ?_⟩
          rcases List.mem_append.1 hx with h6 | h6
          · rcases List.mem_append.1 h6 with h7 | h7
            · exact ia.2.2.2 x h7
            · exact ib.2.2.2 x h7
          · simp at h6; subst h6; exact nk 3 (by unfold okI; omega)
        · refine ⟨ib.1, by simp; omega, by simp <;> omega, fun x hx => ?_⟩
          rcases List.mem_append.1 hx with h6 | h6
          · rcases List.mem_append.1 h6 with h7 | h7
            · exact ia.2.2.2 x h7
            · exact ib.2.2.2 x h7
          · simp at h6; subst h6; exact nk 4 (by unfold okI; omega)
set_option maxHeartbeats 4000000 in
theorem c_spec_l6Draw0 : ∀ (d : Nat) (di : Int) (c : CurV), di = (d : Int) → c.ok → d ≤ 3 → LContract Try.prog 38 [.lp, .d (iD di)] (some (curA c)) (fun r xs => r = .one (.own ⟨70, 3, (drawN d c).1.map NodeV.dat⟩) ∧ xs = [(drawN d c).2.dat]) := by
  intro d
  induction d with
  | zero =>
    intro di c hdi hc _
    refine contract_byL [100000 + 40, 100000 + 46, 100000 + 38, 100000 + 37] hma hTa Try.func38 (by kernel_rfl) (by kernel_rfl) ?_
    conv => whnf
    refine brLe (fun _ => ?_) (fun h => absurd h (by omega))
    conv => whnf
    refine LCallK_intro (c_spec_l6Leaf c hc) ?_
    conv => whnf
    exact ⟨rfl, rfl, rfl, _, ⟨rfl, rfl⟩, rfl, rfl, rfl, rfl⟩
  | succ d ih =>
    intro di c hdi hc hd
    have h1 := CurV.aft_ok hc 3
    have ia := drawN_ok d h1
    have h2 := CurV.aft_ok ia.1 3
    have ib := drawN_ok d h2
    have hp : 4 ^ (d + 1) ≤ 64 := Nat.pow_le_pow_right (by omega) (show d + 1 ≤ 3 by omega)
    have edef : ∀ r, drawN (d + 1) c = r → (eqB (c.below 3) 0 = true → r = ([leafN (c.aft 3)], leafC (c.aft 3))) ∧ (¬ eqB (c.below 3) 0 = true → (eqB ((drawN d (c.aft 3)).2.below 3) 0 = true → r = ((drawN d (c.aft 3)).1 ++ [⟨2, ⟨#[]⟩, ⟨#[]⟩⟩], (drawN d (c.aft 3)).2.aft 3)) ∧
        (¬ eqB ((drawN d (c.aft 3)).2.below 3) 0 = true → (eqB ((drawN d (c.aft 3)).2.below 3) 1 = true → r = ((drawN d (c.aft 3)).1 ++ (drawN d ((drawN d (c.aft 3)).2.aft 3)).1 ++ [⟨3, ⟨#[]⟩, ⟨#[]⟩⟩], (drawN d ((drawN d (c.aft 3)).2.aft 3)).2)) ∧
          (¬ eqB ((drawN d (c.aft 3)).2.below 3) 1 = true → r = ((drawN d (c.aft 3)).1 ++ (drawN d ((drawN d (c.aft 3)).2.aft 3)).1 ++ [⟨4, ⟨#[]⟩, ⟨#[]⟩⟩], (drawN d ((drawN d (c.aft 3)).2.aft 3)).2)))) := by
      intro r hr
      subst hr
      refine ⟨fun h => ?_, fun h => ⟨fun h' => ?_, fun h' => ⟨fun h'' => ?_, fun h'' => ?_⟩⟩⟩
      · rw [drawN_succ, if_pos h]
      · rw [drawN_succ, if_neg h, if_pos h']
      · rw [drawN_succ, if_neg h, if_neg h', if_pos h'']
      · rw [drawN_succ, if_neg h, if_neg h', if_neg h'']
    generalize hr : drawN (d + 1) c = R
    obtain ⟨e1, e2⟩ := edef R hr
    have iha := ih (di - 1) (c.aft 3) (by omega) h1 (by omega)
    have ihb := ih (di - 1) ((drawN d (c.aft 3)).2.aft 3) (by omega) h2 (by omega)
    generalize hra : drawN d (c.aft 3) = a at ia iha ihb e2 h2 ib
    generalize hrb : drawN d (a.2.aft 3) = b at ib ihb e2
    have fz : ∀ x : Bool, x = false → ¬ x = true := fun x h => by rw [h]; decide
    refine contract_byL [100000 + 40, 100000 + 46, 100000 + 38, 100000 + 37] hma hTa Try.func38 (by kernel_rfl) (by kernel_rfl) ?_
    conv => whnf
    refine brLe (fun h => absurd h (by omega)) (fun _ => ?_)
    conv => whnf
    refine LCallK_intro (c_spec_l1Once c hc 3) ?_
    conv => whnf
    refine brB (fun h => ?_) (fun h => ?_) <;> conv => whnf
    · refine LCallK_intro (c_spec_l6Leaf _ h1) ?_
      conv => whnf
      rw [e1 h]
      exact ⟨rfl, rfl, rfl, _, ⟨rfl, rfl⟩, rfl, rfl, rfl, rfl⟩
    · have e3 := e2 (fz _ h)
      refine WrK_i64 (by omega) (by omega) ?_
      conv => whnf
      refine LCallK_intro iha ?_
      conv => whnf
      refine LCallK_intro (c_spec_l1Below _ ia.1 3) ?_
      conv => whnf
      refine brB (fun h3 => ?_) (fun h3 => ?_) <;> conv => whnf
      · refine AppK_intro (n := (a.1.map NodeV.dat).length + 1) (xs' := (a.1 ++ [(⟨2, ⟨#[]⟩, ⟨#[]⟩⟩ : NodeV)]).map NodeV.dat) rfl (app1 (List.length_map _)) (by rw [List.length_map]; omega) (by simp [D.width, Ty.width]) ?_
        conv => whnf
        rw [e3.1 h3]
        exact ⟨rfl, rfl, rfl, _, ⟨rfl, rfl⟩, rfl, rfl, by simp, rfl⟩
      · have e4 := e3.2 (fz _ h3)
        have two : ∀ (y : NodeV) (K : Nat → List D → Prop), (K (((a.1 ++ b.1).map NodeV.dat).length + 1) ((a.1 ++ b.1 ++ [y]).map NodeV.dat)) → AppK ((a.1 ++ b.1).map NodeV.dat) ((a.1 ++ b.1).map NodeV.dat).length [y.dat] 3 K := fun y K hK =>
          AppK_intro (n := ((a.1 ++ b.1).map NodeV.dat).length + 1) (xs' := (a.1 ++ b.1 ++ [y]).map NodeV.dat) rfl (app1 (List.length_map _)) (by rw [List.length_map, List.length_append]; omega) (by simp [NodeV.dat, D.width]) hK
        have one : ∀ (K : Nat → List D → Prop), (K ((a.1 ++ b.1).map NodeV.dat).length ((a.1 ++ b.1).map NodeV.dat)) → AppK (a.1.map NodeV.dat) (a.1.map NodeV.dat).length (b.1.map NodeV.dat) 3 K := fun K hK =>
          AppK_intro (n := ((a.1 ++ b.1).map NodeV.dat).length) (xs' := (a.1 ++ b.1).map NodeV.dat) (by simp) (by rw [List.take_of_length_le (by simp), List.map_append]) (by rw [List.length_map, List.length_append]; omega) (wd fun _ => rfl) hK
        refine brB (fun h4 => ?_) (fun h4 => ?_) <;> conv => whnf
        · refine WrK_i64 (by omega) (by omega) ?_
          conv => whnf
          refine LCallK_intro ihb ?_
          conv => whnf
          refine takeK_full rfl ?_
          conv => whnf
          refine one _ ?_
          conv => whnf
          refine two ⟨3, ⟨#[]⟩, ⟨#[]⟩⟩ _ ?_
          conv => whnf
          rw [e4.1 h4]
          exact ⟨rfl, rfl, rfl, _, ⟨rfl, rfl⟩, rfl, rfl, by simp <;> omega, rfl⟩
        · refine WrK_i64 (by omega) (by omega) ?_
          conv => whnf
          refine LCallK_intro ihb ?_
          conv => whnf
          refine takeK_full rfl ?_
          conv => whnf
          refine one _ ?_
          conv => whnf
          refine two ⟨4, ⟨#[]⟩, ⟨#[]⟩⟩ _ ?_
          conv => whnf
          rw [e4.2 (fz _ h4)]
          exact ⟨rfl, rfl, rfl, _, ⟨rfl, rfl⟩, rfl, rfl, by simp <;> omega, rfl⟩

theorem c_spec_l6Draw (d : Nat) (di : Int) (h : di = (d : Int)) (c : CurV) (hc : c.ok) (hd : d ≤ 3) : LContract Try.prog 38 [.lp, .d (iD di)] (some (curA c)) (fun r xs => r = .one (.own ⟨70, 3, (drawN d c).1.map NodeV.dat⟩) ∧ xs = [(drawN d c).2.dat]) := c_spec_l6Draw0 d di c h hc hd

end Go.DL
