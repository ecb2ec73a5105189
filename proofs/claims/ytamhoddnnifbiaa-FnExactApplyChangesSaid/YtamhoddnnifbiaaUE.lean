/- Contracts of functions of the program, at this seat: what each call returns, by its arguments as data; each states its own conditions. -/
import Derived.Test.YtamhoddnnifbiaaUD
namespace Go.DL
set_option maxRecDepth 100000
set_option maxHeartbeats 2000000
set_option linter.unusedSimpArgs false
set_option linter.unusedVariables false
open Go.RowKit Go.Proofs Go.Proofs.Ytamhoddnnifbiaa

theorem mkLs_get {l : List LineV} {i : Nat} {x : LineV} (h : l[i]? = some x) (k : Int) : (mkLs l k)[i]? = some (mkLine x (mkLk (l.take i) k)) := by
  induction l generalizing i k with
  | nil => simp at h
  | cons y r ih =>
    cases i with
    | zero => simp at h; subst h; simp [mkLs, mkLk]
    | succ i => simpa [mkLs, mkLk] using ih (by simpa using h) (k + mkLw y)
set_option maxHeartbeats 4000000 in
theorem c_laws_heldBillLineS (l : List LineV) (hw : wtL LineV.wt l ≤ 1048576) (k : Int) (h1 : 1 ≤ k) (h2 : k ≤ 30000000) : Contract Try.prog 32 [.d (lD LineV.dat (mkLs l k)), .d (iD k)] (.one (.d (iD (mkLk l k)))) := by
  have hlen : l.length ≤ 1048576 := Nat.le_trans wtL_len hw
  refine contract_by hma hTa Try.func32 (by kernel_rfl) (by kernel_rfl) ?_
  conv => whnf
  have e1 : (List.map LineV.dat (mkLs l k)).length = l.length := by rw [List.length_map, mkLs_len]
  refine LoopK_intro hma hTa [(0, .pl), (1, .pl), (5, .pl)] (fun i : Nat => ⟨[(0, .d (lD LineV.dat (mkLs l k))), (1, .d (iD (mkLk (l.take i) k))), (5, .d (iD i))], [], []⟩) (fun i => i ≤ l.length) (fun i => l.length - i) (by kernel_rfl) ?_ ?_
  · conv => whnf
    exact ⟨0, by omega, rfl⟩
  · intro i hi
    conv => whnf
    refine brLt (fun h => ?_) (fun h => ?_) <;> conv => whnf
    · have hlt : i < l.length := by omega
      have hx0 : l[i]? = some l[i] := List.getElem?_eq_getElem hlt
      have htk : l.take (i + 1) = l.take i ++ [l[i]] := take_snoc hx0
      have hx := mkLs_get hx0 k
      have hκ2 : mkLk (l.take (i + 1)) k = mkLk (l.take i) k + mkLw l[i] := by rw [htk, mkLk_snoc]
      have hb := mkLk_bnd (l.take i) k
      have hb2 := wtL_take LineV.wt l i
      have hb3 : l[i].when.length ≤ 1048576 := by
        have := wtL_mem (wt := LineV.wt) (List.getElem_mem hlt)
        have h4 : l[i].when.length ≤ LineV.wt l[i] := by unfold LineV.wt wtL; omega
        omega
      generalize l[i] = x at hx hκ2 hb3
      generalize mkLk (l.take i) k = κ at hb hx hκ2 ⊢
      have hκ3 : mkLw x = 5 + 3 * (x.when.length : Int) := rfl
      refine IxK_map i rfl hx ?_
      conv => whnf
      refine CallK_intro (c_laws_markText κ (by omega) (by omega)) ?_
      conv => whnf
      refine brNStr (fun _ => ?_) (fun h => absurd rfl h)
      conv => whnf
      refine WrK_i64 (by omega) (by omega) ?_
      conv => whnf
      refine IxK_map i rfl hx ?_
      conv => whnf
      refine CallK_intro (c_laws_markText (κ + 1) (by omega) (by omega)) ?_
      conv => whnf
      refine brNStr (fun _ => ?_) (fun h => absurd rfl h)
      conv => whnf
      refine WrK_i64 (by omega) (by omega) ?_
      conv => whnf
      refine IxK_map i rfl hx ?_
      conv => whnf
      refine brNEq (fun _ => ?_) (fun h => absurd rfl h)
      conv => whnf
      refine WrK_i64 (by omega) (by omega) ?_
      conv => whnf
      refine IxK_map i rfl hx ?_
      conv => whnf
      refine brNEq (fun _ => ?_) (fun h => absurd rfl h)
      conv => whnf
      refine WrK_i64 (by omega) (by omega) ?_
      conv => whnf
      refine IxK_map i rfl hx ?_
      conv => whnf
      refine brNEq (fun _ => ?_) (fun h => absurd rfl h)
      conv => whnf
      refine WrK_i64 (by omega) (by omega) ?_
      conv => whnf
      refine IxK_map i rfl hx ?_
      conv => whnf
      refine CallK_intro (c_laws_heldCondNodeS x.when.length hb3 (κ + 1 + 1 + 1 + 1 + 1) (by omega) (by omega)) ?_
      conv => whnf
      refine brLt (fun h => by exfalso; omega) (fun _ => ?_)
      conv => whnf
      refine WrK_i64 (by omega) (by omega) ?_
      conv => whnf
      refine ⟨i + 1, hlt, Nat.sub_lt_sub_left hlt (Nat.lt_succ_self i), ?_⟩
      have e5 : κ + 1 + 1 + 1 + 1 + 1 + 3 * (x.when.length : Int) = mkLk (l.take (i + 1)) k := by omega
      dsimp only
      rw [← e5]
      rfl
    · rw [List.take_of_length_le (by omega)]

theorem keep_wt {p : LineV → Prop} : ∀ lines : List LineV, wtL LineV.wt (keepN p lines) ≤ wtL LineV.wt lines
  | [] => by simp [keepN]
  | x :: r => by
    have h := keep_wt (p := p) r
    have h3 : ∀ (l : List LineV), wtL LineV.wt (x :: l) = wtL LineV.wt l + 1 + LineV.wt x := fun l => by unfold wtL; rw [sumW_cons]; simp; omega
    unfold keepN at h ⊢
    rw [List.filter_cons]
    split
    · rw [h3, h3]; omega
    · rw [h3]; omega
theorem linesV_ok (cat : List ItemV) (_ : okL ItemV.ok cat) (lines : List LineV) (hl : okL LineV.ok lines) (p : ByteArray) (day : Int) (c : List PickV) : okL LineV.ok (linesV cat lines p day c) ∧ wtL LineV.wt (linesV cat lines p day c) ≤ wtL LineV.wt lines := by
  by_cases hB : isBillsP cat lines
  · rw [show linesV cat lines p day c = linesN day c p lines from ifP_t hB]
    exact ⟨keep_ok hl, keep_wt lines⟩
  · rw [show linesV cat lines p day c = [] from ifP_f hB]
    exact ⟨⟨by simp, by simp⟩, by simp [wtL, sumW]⟩

theorem day_wt {day : Int} : ∀ l : List LineV, wtL LineV.wt (l.map (dayL day)) = wtL LineV.wt l
  | [] => rfl
  | x :: r => by
    have h3 : ∀ (x : LineV) (l : List LineV), wtL LineV.wt (x :: l) = wtL LineV.wt l + 1 + LineV.wt x := fun x l => by unfold wtL; rw [sumW_cons]; simp; omega
    rw [List.map_cons, h3, h3, day_wt r]; rfl
theorem billsV_ok (cat : List ItemV) (_ : okL ItemV.ok cat) (lines : List LineV) (hl : okL LineV.ok lines) (day : Int) (hd : okI day) : okL LineV.ok (billsV cat lines day) ∧ wtL LineV.wt (billsV cat lines day) ≤ wtL LineV.wt lines := by
  by_cases hB : isBillsP cat lines
  · rw [show billsV cat lines day = billsN day lines from ifP_t hB]
    exact ⟨bills_ok hl hd, by unfold billsN; rw [day_wt]; exact keep_wt lines⟩
  · rw [show billsV cat lines day = [] from ifP_f hB]
    exact ⟨⟨by simp, by simp⟩, by simp [wtL, sumW]⟩

theorem line_wt (x : LineV) (l : List LineV) : wtL LineV.wt (x :: l) = wtL LineV.wt l + 1 + LineV.wt x := by unfold wtL; rw [sumW_cons]; simp; omega
theorem wtL_app (a b : List LineV) : wtL LineV.wt (a ++ b) = wtL LineV.wt a + wtL LineV.wt b := by
  induction a with
  | nil => simp [wtL, sumW]
  | cons x r ih => rw [List.cons_append, line_wt, line_wt, ih]; omega
theorem stepT_wt (out : List LineV) (l : LineV) : wtL LineV.wt (stepT out l) ≤ wtL LineV.wt out + 1 + LineV.wt l := by
  have h1 : ∀ x : LineV, wtL LineV.wt [x] = 1 + LineV.wt x := fun x => by rw [line_wt]; simp [wtL, sumW]
  rcases stepT_cases out l with ⟨rfl, h⟩ | ⟨o, p, rfl, ⟨_, h⟩ | ⟨_, h⟩⟩ <;> rw [h]
  · rw [h1]; omega
  · rw [wtL_app, wtL_app, h1, h1]
    show _ + (1 + LineV.wt p) ≤ _
    omega
  · rw [wtL_app _ [l], h1]; omega
theorem foldT_wt : ∀ (lines out : List LineV), wtL LineV.wt (lines.foldl stepT out) ≤ wtL LineV.wt out + wtL LineV.wt lines
  | [], out => by simp
  | l :: r, out => by
    have h1 := foldT_wt r (stepT out l)
    have h2 := stepT_wt out l
    rw [List.foldl_cons, line_wt]; omega
theorem tidyV_ok (cat : List ItemV) (_ : okL ItemV.ok cat) (lines : List LineV) (hl : okL LineV.ok lines) : okL LineV.ok (tidyV cat lines) ∧ wtL LineV.wt (tidyV cat lines) ≤ wtL LineV.wt lines := by
  by_cases hB : isBillsP cat lines
  · rw [show tidyV cat lines = tidyN lines from ifP_t hB]
    refine ⟨⟨Nat.le_trans (tidy_len lines) hl.1, fun y hy => (tidyQ (cat := cat) hl (fun x hx => hB.2.2.1 x hx) y hy).1⟩, ?_⟩
    have := foldT_wt lines []
    unfold tidyN
    have h0 : wtL LineV.wt [] = 0 := rfl
    omega
  · rw [show tidyV cat lines = [] from ifP_f hB]
    exact ⟨⟨by simp, by simp⟩, by simp [wtL, sumW]⟩

end Go.DL
