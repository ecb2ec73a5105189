/- Contracts of functions of the program, at this seat: what each call returns, by its arguments as data; each states its own conditions. -/
import Derived.Test.YtpobkpenfdibkaaP1
import Derived.Test.YtpobkpenfdibkaaG
namespace Go.DL
set_option maxRecDepth 100000
set_option maxHeartbeats 2000000
set_option linter.unusedSimpArgs false
set_option linter.unusedVariables false
open Go.RowKit Go.Proofs Go.Proofs.Ytpobkpenfdibkaa

theorem okI_of {v n : Int} (h0 : 0 < n) (h : 0 < n → 0 ≤ v ∧ v < n) (hn : n ≤ 1000000) : okI v ∧ okI (1 + v) := by
  have := h h0; unfold okI; omega
def intsB : List D → Bool
  | [] => true
  | .sc (.int .i64 n) :: r => decide (-9223372036854775808 ≤ n) && decide (n ≤ 9223372036854775807) && intsB r
  | _ :: _ => false
theorem intsB_spec : ∀ {ds : List D}, intsB ds = true → ∃ l : List Int, ds = l.map iD ∧ ∀ n ∈ l, okI n
  | [], _ => ⟨[], rfl, fun n h => by simp at h⟩
  | d :: r, h => by
    unfold intsB at h
    split at h
    · rename_i e; cases e
    · rename_i n s e
      cases e
      simp only [Bool.and_eq_true, decide_eq_true_eq] at h
      obtain ⟨l, rfl, hl⟩ := intsB_spec h.2
      refine ⟨n :: l, rfl, fun m hm => ?_⟩
      rcases List.mem_cons.1 hm with rfl | hm
      · exact h.1
      · exact hl m hm
    · cases h
def strsB : List D → Bool
  | [] => true
  | .sc (.string s) :: r => Nat.ble s.size 1000 && strsB r
  | _ :: _ => false
theorem strsB_spec : ∀ {ds : List D}, strsB ds = true → ∃ l : List ByteArray, ds = l.map sD ∧ ∀ s ∈ l, s.size ≤ 1000
  | [], _ => ⟨[], rfl, fun n h => by simp at h⟩
  | d :: r, h => by
    unfold strsB at h
    split at h
    · rename_i e; cases e
    · rename_i n s e
      cases e
      simp only [Bool.and_eq_true] at h
      obtain ⟨l, rfl, hl⟩ := strsB_spec h.2
      refine ⟨n :: l, rfl, fun m hm => ?_⟩
      rcases List.mem_cons.1 hm with rfl | hm
      · exact Nat.le_of_ble_eq_true h.1
      · exact hl m hm
    · cases h
def lenB (ds : List D) : Bool := Nat.ble 1 ds.length && Nat.ble ds.length 1000
theorem lenB_spec {ds : List D} (h : lenB ds = true) : 0 < ds.length ∧ ds.length ≤ 1000 := by
  unfold lenB at h
  rw [Bool.and_eq_true] at h
  exact ⟨Nat.le_of_ble_eq_true h.1, Nat.le_of_ble_eq_true h.2⟩

theorem L_Below {c : CurV} (hc : c.ok) {n : Int} {K : Res → List D → Prop} (hK : ∀ v c', CurV.ok c' → (0 < n → 0 ≤ v ∧ v < n) → (n ≤ 0 → v = 0) → K (.one (.d (iD v))) [c'.dat]) : LCallK Try.prog 121 [.lp, .d (iD n)] (curA c) K :=
  LCallK_intro (c_spec_l1Below c hc n) (hK _ _ (CurV.aft_ok hc n) (fun h => c.below_bound h) (fun h => c.below_le h))

theorem L_Once {c : CurV} (hc : c.ok) {n : Int} {K : Res → List D → Prop} (hK : ∀ b c', CurV.ok c' → K (.one (.d (bD b))) [c'.dat]) : LCallK Try.prog 72 [.lp, .d (iD n)] (curA c) K :=
  LCallK_intro (c_spec_l1Once c hc n) (hK _ _ (CurV.aft_ok hc n))

theorem L_PickInt {c : CurV} (hc : c.ok) {ds : List D} {K : Res → List D → Prop} (hi : intsB ds = true) (hl : lenB ds = true) (hK : ∀ v c', CurV.ok c' → okI v → K (.one (.d (iD v))) [c'.dat]) : LCallK Try.prog 120 [.lp, .d (.sl ds)] (curA c) K := by
  obtain ⟨l, rfl, hok⟩ := intsB_spec hi
  obtain ⟨h1, h2⟩ := lenB_spec hl
  rw [List.length_map] at h1 h2
  exact LCallK_intro (c_spec_l1PickInt c hc l h1 h2) (hK _ _ (CurV.aft_ok hc _) (hok _ (c.pickI_mem h1)))

theorem L_Pick {c : CurV} (hc : c.ok) {ds : List D} {K : Res → List D → Prop} (hi : strsB ds = true) (hl : lenB ds = true) (hK : ∀ v c', CurV.ok c' → ByteArray.size v ≤ 1000 → K (.one (.d (sD v))) [c'.dat]) : LCallK Try.prog 145 [.lp, .d (.sl ds)] (curA c) K := by
  obtain ⟨l, rfl, hok⟩ := strsB_spec hi
  obtain ⟨h1, h2⟩ := lenB_spec hl
  rw [List.length_map] at h1 h2
  exact LCallK_intro (c_spec_l1Pick c hc l h1 h2) (hK _ _ (CurV.aft_ok hc _) (hok _ (c.pick_mem h1)))

def newR (r : Res) (_ : List D) : Prop := ∃ c : CurV, c.ok ∧ r = .one (.ptr (curA c))
theorem c_spec_l1New (b : List Int) (hb : b.length ≤ 1048576) (hb2 : ∀ x ∈ b, 0 ≤ x ∧ x ≤ 255) : LContract Try.prog 70 [.d (lD yD b)] none newR := by
  refine contract_byL [] hma hTa Try.func70 (by kernel_rfl) (by kernel_rfl) ?_
  conv => whnf
  have e1 : (List.map yD b).length = b.length := List.length_map _
  refine WrK_any ?_
  conv => whnf
  generalize IntKind.i64.wrap (10101 + ((List.map yD b).length : Int)) = h0
  refine LoopK2 hma hTa [(0, .pl), (3, .pl), (4, .pl)] (fun (i : Nat) (h : Int) => ⟨[(0, .d (lD yD b)), (3, .d (iD h)), (4, .d (iD i))], [], []⟩) (fun i _ => i ≤ b.length) (fun i _ => b.length - i) (by kernel_rfl) ?_ ?_
  · conv => whnf
    exact ⟨0, h0, by omega, rfl⟩
  · intro i h hi
    have fin : newR (.one (.ptr (curA ⟨b, 0, h⟩))) [] := ⟨⟨b, 0, h⟩, ⟨by simp, by show b.length ≤ 9000000; omega, hb2⟩, rfl⟩
    conv => whnf
    refine brLt (fun h1 => ?_) (fun h1 => ?_) <;> conv => whnf
    · refine brLt (fun h2 => ?_) (fun h2 => ?_) <;> conv => whnf
      · refine WrK_any ?_
        conv => whnf
        refine IxK_mapLt _ rfl (by omega) (fun y hy => ?_)
        conv => whnf
        have hyb := hb2 y (get_mem hy)
        have hil := get_lt hy
        refine WrK_i64 (by omega) (by omega) ?_
        conv => whnf
        refine WrK_any ?_
        conv => whnf
        refine WrK_any ?_
        conv => whnf
        refine WrK_i64 (by omega) (by omega) ?_
        conv => whnf
        exact ⟨(i + 1, _), hil, Nat.sub_lt_sub_left hil (Nat.lt_succ_self i), rfl⟩
      · exact ⟨_, fin, rfl, rfl, by simp, rfl⟩
    · exact ⟨_, fin, rfl, rfl, by simp, rfl⟩

theorem c_laws_big (b : List Int) (hb : b.length ≤ 9223372036854775807) : Contract Try.prog 15 [.d (lD yD b)] (.one (.d (bD (tr (1048576 < b.length))))) := by
  refine contract_by hma hTa Try.func15 (by kernel_rfl) (by kernel_rfl) ?_
  conv => whnf
  exact bB (by rw [ltB_iff, List.length_map]; omega)

def oddL : List Int := [0, 1, -1, 2, 1000000, 1000001, -1000001, 1000000000, 1000000001, 9223372036854775807, -9223372036854775808]
theorem c_spec_l1Odd (c : CurV) (hc : c.ok) : LContract Try.prog 122 [.lp] (some (curA c)) (fun r xs => r = .one (.d (iD (c.pickI oddL))) ∧ xs = [(c.aft 11).dat]) := by
  refine contract_byL [100000 + 120] hma hTa Try.func122 (by kernel_rfl) (by kernel_rfl) ?_
  conv => whnf
  refine LCallK_intro (c_spec_l1PickInt c hc oddL (by decide) (by decide)) ?_
  conv => whnf
  exact ⟨rfl, rfl, rfl, .one (.d (iD (c.pickI oddL))), ⟨rfl, rfl⟩, rfl, rfl, trivial⟩
theorem odd_ok (c : CurV) : okI (c.pickI oddL) := by
  have := c.pickI_mem (l := oddL) (by decide)
  generalize c.pickI oddL = v at this
  simp only [oddL, List.mem_cons, List.not_mem_nil, or_false] at this
  unfold okI
  omega
theorem L_Odd {c : CurV} (hc : c.ok) {K : Res → List D → Prop} (hK : ∀ v c', CurV.ok c' → okI v → K (.one (.d (iD v))) [c'.dat]) : LCallK Try.prog 122 [.lp] (curA c) K :=
  LCallK_intro (c_spec_l1Odd c hc) (hK _ _ (CurV.aft_ok hc 11) (odd_ok c))

@[irreducible] def CurV.q5 (c : CurV) : Int := if eqB (c.below 12) 0 = true then (c.aft 12).pickI oddL else (c.aft 12).below 500
@[irreducible] def CurV.n5 (c : CurV) : CurV := if eqB (c.below 12) 0 = true then (c.aft 12).aft 11 else (c.aft 12).aft 500
theorem c_spec_l5Quantity (c : CurV) (hc : c.ok) : LContract Try.prog 74 [.lp] (some (curA c)) (fun r xs => r = .one (.d (iD c.q5)) ∧ xs = [c.n5.dat]) := by
  refine contract_byL [100000 + 72, 100000 + 122, 100000 + 121] hma hTa Try.func74 (by kernel_rfl) (by kernel_rfl) ?_
  conv => whnf
  refine LCallK_intro (c_spec_l1Once c hc 12) ?_
  conv => whnf
  refine brB (fun h => ?_) (fun h => ?_) <;> conv => whnf
  · refine LCallK_intro (c_spec_l1Odd _ (CurV.aft_ok hc 12)) ?_
    conv => whnf
    exact ⟨rfl, rfl, rfl, .one (.d (iD c.q5)), ⟨rfl, by unfold CurV.n5; rw [if_pos h]⟩, rfl, by unfold CurV.q5; rw [if_pos h], trivial⟩
  · refine LCallK_intro (c_spec_l1Below _ (CurV.aft_ok hc 12) 500) ?_
    conv => whnf
    exact ⟨rfl, rfl, rfl, .one (.d (iD c.q5)), ⟨rfl, by unfold CurV.n5; rw [if_neg (by rw [h]; decide)]⟩, rfl, by unfold CurV.q5; rw [if_neg (by rw [h]; decide)], trivial⟩
theorem q5_ok (c : CurV) : okI c.q5 := by
  unfold CurV.q5
  split
  · exact odd_ok _
  · have := (c.aft 12).below_bound (n := 500) (by omega)
    unfold okI; omega
theorem n5_ok {c : CurV} (h : c.ok) : c.n5.ok := by
  unfold CurV.n5
  split <;> exact CurV.aft_ok (CurV.aft_ok h _) _
theorem L_Q5 {c : CurV} (hc : c.ok) {K : Res → List D → Prop} (hK : ∀ v c', CurV.ok c' → okI v → K (.one (.d (iD v))) [c'.dat]) : LCallK Try.prog 74 [.lp] (curA c) K :=
  LCallK_intro (c_spec_l5Quantity c hc) (hK _ _ (n5_ok hc) (q5_ok c))

def itemR (r : Res) (xs : List D) : Prop := ∃ (x : ItemV) (c : CurV), x.ok ∧ c.ok ∧ r = .one (.d x.dat) ∧ xs = [c.dat]
theorem c_spec_l8Item (c : CurV) (hc : c.ok) (s : ByteArray) (hs : okS s) : LContract Try.prog 71 [.lp, .d (sD s)] (some (curA c)) itemR := by
  refine contract_byL [100000 + 72, 100000 + 120, 100000 + 121] hma hTa Try.func71 (by kernel_rfl) (by kernel_rfl) ?_
  have okpc : okS ⟨#[80, 67]⟩ := by unfold okS; decide
  have ok0 : okI 0 := by unfold okI; omega
  have ok2 : okI 2 := by unfold okI; omega
  conv => whnf
  refine L_PickInt hc rfl rfl (fun kind c1 hc1 h1 => ?_)
  conv => whnf
  refine L_Below hc1 (fun lead c2 hc2 h2 _ => ?_)
  conv => whnf
  refine L_PickInt hc2 rfl rfl (fun safety c3 hc3 h3 => ?_)
  conv => whnf
  refine L_PickInt hc3 rfl rfl (fun scrap c4 hc4 h4 => ?_)
  conv => whnf
  refine L_Once hc4 (fun b c5 hc5 => ?_)
  conv => whnf
  have h2' := (okI_of (by omega) h2 (by omega)).1
  refine brB (fun _ => ?_) (fun _ => ?_) <;> conv => whnf
  · refine L_Below hc5 (fun v6 c6 hc6 h6 _ => ?_)
    conv => whnf
    have h6' := h6 (by omega)
    refine WrK_i64 (by omega) (by omega) ?_
    conv => whnf
    refine L_Below hc6 (fun v7 c7 hc7 h7 _ => ?_)
    conv => whnf
    have h7' := h7 (by omega)
    refine WrK_i64 (by omega) (by omega) ?_
    conv => whnf
    refine brEq (fun _ => ?_) (fun _ => ?_) <;> conv => whnf
    · exact ⟨rfl, rfl, rfl, _, ⟨⟨s, ⟨#[80, 67]⟩, 2, 0, 0, 0, 0, 0⟩, c7, ⟨hs, okpc, ok2, ok0, ok0, ok0, ok0, ok0⟩, hc7, rfl, rfl⟩, rfl, rfl, trivial⟩
    · exact ⟨rfl, rfl, rfl, _, ⟨⟨s, ⟨#[80, 67]⟩, kind, lead, 1 + v6, 1 + v7, safety, scrap⟩, c7, ⟨hs, okpc, h1, h2', (okI_of (by omega) h6 (by omega)).2, (okI_of (by omega) h7 (by omega)).2, h3, h4⟩, hc7, rfl, rfl⟩, rfl, rfl, trivial⟩
  · refine brEq (fun _ => ?_) (fun _ => ?_) <;> conv => whnf
    · exact ⟨rfl, rfl, rfl, _, ⟨⟨s, ⟨#[80, 67]⟩, 2, 0, 0, 0, 0, 0⟩, c5, ⟨hs, okpc, ok2, ok0, ok0, ok0, ok0, ok0⟩, hc5, rfl, rfl⟩, rfl, rfl, trivial⟩
    · exact ⟨rfl, rfl, rfl, _, ⟨⟨s, ⟨#[80, 67]⟩, kind, lead, 0, 0, safety, scrap⟩, c5, ⟨hs, okpc, h1, h2', ok0, ok0, h3, h4⟩, hc5, rfl, rfl⟩, rfl, rfl, trivial⟩

theorem c_spec_l8Bad (c : CurV) (hc : c.ok) (x : ItemV) (hx : x.ok) : LContract Try.prog 73 [.lp, .d x.dat] (some (curA c)) itemR := by
  refine contract_byL [100000 + 120, 100000 + 121, 100000 + 122] hma hTa Try.func73 (by kernel_rfl) (by kernel_rfl) ?_
  obtain ⟨k0, k1, k2, k3, k4, k5, k6, k7⟩ := hx
  have oka : okS ⟨#[97]⟩ := by unfold okS; decide
  have ok3 : okI 3 := by unfold okI; omega
  have okk : okI 1001 := by unfold okI; omega
  conv => whnf
  refine L_Below hc (fun v c1 hc1 h1 _ => ?_)
  conv => whnf
  refine brEq (fun _ => ?_) (fun _ => ?_) <;> conv => whnf
  · refine L_PickInt hc1 rfl rfl (fun w c2 hc2 h2 => ?_)
    conv => whnf
    exact ⟨rfl, rfl, rfl, _, ⟨{ x with scrap := w }, c2, ⟨k0, k1, k2, k3, k4, k5, k6, h2⟩, hc2, rfl, rfl⟩, rfl, rfl, trivial⟩
  refine brEq (fun _ => ?_) (fun _ => ?_) <;> conv => whnf
  · exact ⟨rfl, rfl, rfl, _, ⟨{ x with kind := 3 }, c1, ⟨k0, k1, ok3, k3, k4, k5, k6, k7⟩, hc1, rfl, rfl⟩, rfl, rfl, trivial⟩
  refine brEq (fun _ => ?_) (fun _ => ?_) <;> conv => whnf
  · refine L_PickInt hc1 rfl rfl (fun w c2 hc2 h2 => ?_)
    conv => whnf
    exact ⟨rfl, rfl, rfl, _, ⟨{ x with lead := w }, c2, ⟨k0, k1, k2, h2, k4, k5, k6, k7⟩, hc2, rfl, rfl⟩, rfl, rfl, trivial⟩
  refine brEq (fun _ => ?_) (fun _ => ?_) <;> conv => whnf
  · exact ⟨rfl, rfl, rfl, _, ⟨{ x with size := 1001 }, c1, ⟨k0, k1, k2, k3, k4, okk, k6, k7⟩, hc1, rfl, rfl⟩, rfl, rfl, trivial⟩
  refine brEq (fun _ => ?_) (fun _ => ?_) <;> conv => whnf
  · exact ⟨rfl, rfl, rfl, _, ⟨{ x with code := ⟨#[97]⟩ }, c1, ⟨oka, k1, k2, k3, k4, k5, k6, k7⟩, hc1, rfl, rfl⟩, rfl, rfl, trivial⟩
  refine brEq (fun _ => ?_) (fun _ => ?_) <;> conv => whnf
  · refine L_Odd hc1 (fun w c2 hc2 h2 => ?_)
    conv => whnf
    exact ⟨rfl, rfl, rfl, _, ⟨{ x with safety := w }, c2, ⟨k0, k1, k2, k3, k4, k5, h2, k7⟩, hc2, rfl, rfl⟩, rfl, rfl, trivial⟩
  · exact ⟨rfl, rfl, rfl, _, ⟨x, c1, ⟨k0, k1, k2, k3, k4, k5, k6, k7⟩, hc1, rfl, rfl⟩, rfl, rfl, trivial⟩

theorem c_spec_DrawGrossOf (b : List Int) (hb : b.length ≤ 1048576) (hb2 : ∀ x ∈ b, 0 ≤ x ∧ x ≤ 255) : LContract Try.prog 23 [.d (lD yD b)] none (fun r _ => ∃ (x : ItemV) (q : Int), x.ok ∧ okI q ∧ r = .tup (.d x.dat) [iD q]) := by
  refine contract_byL [5, 200000 + 70, 200000 + 71, 200000 + 73, 100000 + 72, 100000 + 74] hma hTa Try.func23 (by kernel_rfl) (by kernel_rfl) ?_
  have okA : okS ⟨#[65]⟩ := by unfold okS; decide
  conv => whnf
  refine DCallK_intro (c_spec_l1New b hb hb2) ?_
  rintro r _ ⟨c, hc, rfl⟩
  conv => whnf
  refine DCallK_intro (c_spec_l8Item c hc _ okA) ?_
  rintro r _ ⟨x, c1, hx, hc1, rfl, rfl⟩
  conv => whnf
  refine L_Once hc1 (fun b c2 hc2 => ?_)
  conv => whnf
  refine brB (fun _ => ?_) (fun _ => ?_) <;> conv => whnf
  · refine DCallK_intro (c_spec_l8Bad c2 hc2 x hx) ?_
    rintro r _ ⟨x, c1, hx, hc1, rfl, rfl⟩
    conv => whnf
    refine L_Q5 hc1 (fun q c3 hc3 hq => ?_)
    conv => whnf
    refine KeysK_intro (by kernel_rfl) ?_
    conv => whnf
    exact ⟨_, ⟨x, q, hx, hq, rfl⟩, rfl, rfl, rfl, rfl, trivial⟩
  · refine L_Q5 hc2 (fun q c3 hc3 hq => ?_)
    conv => whnf
    refine KeysK_intro (by kernel_rfl) ?_
    conv => whnf
    exact ⟨_, ⟨x, q, hx, hq, rfl⟩, rfl, rfl, rfl, rfl, trivial⟩

end Go.DL
