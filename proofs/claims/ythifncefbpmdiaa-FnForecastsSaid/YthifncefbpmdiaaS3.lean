/- Contracts of functions of the program, at this seat: what each call returns, by its arguments as data; each states its own conditions. -/
import Derived.Test.YthifncefbpmdiaaS2
namespace Go.DL
set_option maxRecDepth 100000
set_option maxHeartbeats 2000000
set_option linter.unusedSimpArgs false
set_option linter.unusedVariables false
open Go.RowKit Go.Proofs Go.Proofs.Ythifncefbpmdiaa

/-! Forecasts consumed. -/
open Classical in
noncomputable def tkE (item : ByteArray) (day q : Int) (d : DemandV) : DemandV := if d.item = item ∧ d.day = day then { d with quantity := d.quantity - Min.min q d.quantity } else d
open Classical in
noncomputable def tkQ (item : ByteArray) (day q : Int) (d : DemandV) : Int := if d.item = item ∧ d.day = day then q - Min.min q d.quantity else q
noncomputable def takeL (item : ByteArray) (day : Int) (l : List DemandV) (q : Int) : List DemandV × Int := l.foldl (fun p d => (p.1 ++ [tkE item day p.2 d], tkQ item day p.2 d)) ([], q)
theorem takeL_snoc {item : ByteArray} {day q : Int} {l : List DemandV} {i : Nat} {d : DemandV} (h : l[i]? = some d) : takeL item day (l.take (i + 1)) q = ((takeL item day (l.take i) q).1 ++ [tkE item day (takeL item day (l.take i) q).2 d], tkQ item day (takeL item day (l.take i) q).2 d) := by
  unfold takeL; rw [take_snoc h, List.foldl_append]; rfl
def qtyB (d : DemandV) : Prop := 0 ≤ d.quantity ∧ d.quantity ≤ 100000
theorem tk_ok {item : ByteArray} {day q : Int} {d : DemandV} (hq : 0 ≤ q) (hd : qtyB d) : qtyB (tkE item day q d) ∧ 0 ≤ tkQ item day q d ∧ tkQ item day q d ≤ q := by
  unfold tkE tkQ qtyB at *
  split
  · refine ⟨⟨?_, ?_⟩, ?_, ?_⟩ <;> first | omega | (dsimp only; omega)
  · exact ⟨hd, hq, Int.le_refl _⟩
theorem takeL_ok {item : ByteArray} {day : Int} : ∀ (l : List DemandV) (q : Int), 0 ≤ q → (∀ d ∈ l, qtyB d) → (takeL item day l q).1.length = l.length ∧ (∀ d ∈ (takeL item day l q).1, qtyB d) ∧ 0 ≤ (takeL item day l q).2 ∧ (takeL item day l q).2 ≤ q := by
  intro l q hq hl
  have key : ∀ i, i ≤ l.length → (takeL item day (l.take i) q).1.length = i ∧ (∀ d ∈ (takeL item day (l.take i) q).1, qtyB d) ∧ 0 ≤ (takeL item day (l.take i) q).2 ∧ (takeL item day (l.take i) q).2 ≤ q := by
    intro i
    induction i with
    | zero => exact fun _ => ⟨rfl, fun d h => by simp [takeL] at h, hq, Int.le_refl _⟩
    | succ i ih =>
      intro hi
      have hx : l[i]? = some (l[i]'hi) := List.getElem?_eq_getElem hi
      obtain ⟨h1, h2, h3, h4⟩ := ih (by omega)
      have ht := tk_ok (item := item) (day := day) h3 (hl _ (get_mem hx))
      rw [takeL_snoc hx]
      refine ⟨by simp [h1], fun d hd => ?_, ht.2.1, by have := ht.2.2; omega⟩
      rcases List.mem_append.1 hd with hd | hd
      · exact h2 d hd
      · simp at hd; subst hd; exact ht.1
  have := key l.length (Nat.le_refl _)
  rwa [List.take_length] at this

set_option maxHeartbeats 4000000 in
theorem c_impl_takeForecast (l : List DemandV) (hl : l.length ≤ 16) (hb : ∀ d ∈ l, qtyB d) (item : ByteArray) (day q : Int) (h0 : 0 ≤ q) (h1 : q ≤ 100000) : LContract Try.prog 88 [.lv, .d (sD item), .d (iD day), .d (iD q)] (some ⟨28, 5, l.map DemandV.dat⟩) (fun r xs => r = .one (.d (iD (takeL item day l q).2)) ∧ xs = (takeL item day l q).1.map DemandV.dat) := by
  refine contract_byL [] hma hTa Try.func88 (by kernel_rfl) (by kernel_rfl) ?_
  conv => whnf
  have e1 : (List.map DemandV.dat l).length = l.length := List.length_map _
  refine LoopK_intro hma hTa [(0, .key 100000), (1, .pl), (2, .pl), (3, .pl), (12, .pl), (13, .pl)] (fun i : Nat => ⟨[(0, .av 100000 (l.map DemandV.dat).length), (1, .d (sD item)), (2, .d (iD day)), (3, .d (iD (takeL item day (l.take i) q).2)), (12, .d (iD (l.map DemandV.dat).length)), (13, .d (iD i))], [(100000, some ⟨28, 5, (takeL item day (l.take i) q).1.map DemandV.dat ++ (l.drop i).map DemandV.dat⟩)], []⟩) (fun i => i ≤ l.length) (fun i => l.length - i) (by kernel_rfl) ?_ ?_
  · conv => whnf
    exact ⟨0, by omega, rfl⟩
  · intro i hi
    conv => whnf
    refine brLt (fun h => ?_) (fun h => ?_) <;> conv => whnf
    · have hil : i < l.length := by omega
      obtain ⟨x, hx⟩ : ∃ x, l[i]? = some x := ⟨l[i], by simp⟩
      have hxb := hb x (get_mem hx)
      have hk := takeL_ok (item := item) (day := day) (l.take i) q h0 fun d hd => hb d (List.mem_of_mem_take hd)
      have hsn := takeL_snoc (item := item) (day := day) (q := q) hx
      have hd : (l.drop i).map DemandV.dat = x.dat :: (l.drop (i + 1)).map DemandV.dat := by rw [List.getElem?_eq_getElem hil] at hx; cases hx; rw [List.drop_eq_getElem_cons hil]; rfl
      rw [hd]
      have hpl : ((takeL item day (l.take i) q).1.map DemandV.dat).length = i := by rw [List.length_map, hk.1, List.length_take]; omega
      have hpo : ((l.drop (i + 1)).map DemandV.dat).length = l.length - (i + 1) := by simp
      obtain ⟨_, _, hr0, hr1⟩ := hk
      generalize takeL item day (l.take i) q = p at hpl hr0 hr1 hsn ⊢
      obtain ⟨L, r⟩ := p
      dsimp only at hpl hr0 hr1 hsn ⊢
      have e1' : ∀ z : DemandV, tkE item day r x = z → (takeL item day (l.take (i + 1)) q).1.map DemandV.dat ++ (l.drop (i + 1)).map DemandV.dat = L.map DemandV.dat ++ z.dat :: (l.drop (i + 1)).map DemandV.dat := fun z hz => by rw [hsn]; dsimp only; rw [hz]; simp
      have e2' : (takeL item day (l.take (i + 1)) q).2 = tkQ item day r x := by rw [hsn]
      have hit : x.item = item ∧ x.day = day → tkE item day r x = { x with quantity := x.quantity - Min.min r x.quantity } ∧ tkQ item day r x = r - Min.min r x.quantity := fun h => by unfold tkE tkQ; rw [if_pos h, if_pos h]; exact ⟨rfl, rfl⟩
      have mis : ¬ (x.item = item ∧ x.day = day) → tkE item day r x = x ∧ tkQ item day r x = r := fun h => by unfold tkE tkQ; rw [if_neg h, if_neg h]; exact ⟨rfl, rfl⟩
      unfold qtyB at hxb
      refine IxA_intro i rfl (by omega) ?_
      conv => whnf
      refine getK_intro (get_mid hpl) ?_
      conv => whnf
      refine brStr (fun h2 => ?_) (fun h2 => ?_) <;> conv => whnf
      · refine IxA_intro i rfl (by omega) ?_
        conv => whnf
        refine getK_intro (get_mid hpl) ?_
        conv => whnf
        refine brEq (fun h3 => ?_) (fun h3 => ?_) <;> conv => whnf
        · obtain ⟨f1, f2⟩ := hit ⟨h2, h3⟩
          refine IxA_intro i rfl (by omega) ?_
          conv => whnf
          refine getK_intro (get_mid hpl) ?_
          conv => whnf
          refine IxA_intro i rfl (by omega) ?_
          conv => whnf
          refine getK_intro (get_mid hpl) ?_
          conv => whnf
          refine WrK_i64 (by omega) (by omega) ?_
          conv => whnf
          refine IxA_intro i rfl (by omega) ?_
          conv => whnf
          refine getK_intro (get_mid hpl) ?_
          conv => whnf
          refine setK_intro (by rw [List.length_append, List.length_cons]; omega) (set_mid hpl).symm ?_
          conv => whnf
          refine WrK_i64 (by omega) (by omega) ?_
          conv => whnf
          refine WrK_i64 (by omega) (by omega) ?_
          conv => whnf
          exact ⟨i + 1, hil, Nat.sub_lt_sub_left hil (Nat.lt_succ_self i), by dsimp only; rw [e1' _ f1, e2', f2]; rfl⟩
        · obtain ⟨f1, f2⟩ := mis fun h => h3 h.2
          refine WrK_i64 (by omega) (by omega) ?_
          conv => whnf
          exact ⟨i + 1, hil, Nat.sub_lt_sub_left hil (Nat.lt_succ_self i), by dsimp only; rw [e1' _ f1, e2', f2]; rfl⟩
      · obtain ⟨f1, f2⟩ := mis fun h => h2 h.1
        refine WrK_i64 (by omega) (by omega) ?_
        conv => whnf
        exact ⟨i + 1, hil, Nat.sub_lt_sub_left hil (Nat.lt_succ_self i), by dsimp only; rw [e1' _ f1, e2', f2]; rfl⟩
    · have e2 : l.take i = l := List.take_of_length_le (by omega)
      have e3 : l.drop i = [] := List.drop_of_length_le (by omega)
      have hk := takeL_ok (item := item) (day := day) l q h0 hb
      rw [e2, e3, List.map_nil, List.append_nil]
      exact ⟨rfl, rfl, by simp [hk.1], .one (.d (iD (takeL item day l q).2)), ⟨rfl, rfl⟩, rfl, rfl, trivial⟩

set_option maxHeartbeats 4000000 in
theorem c_spec_l13Take (l : List DemandV) (hl : l.length ≤ 16) (hb : ∀ d ∈ l, qtyB d) (item : ByteArray) (day q : Int) (h0 : 0 ≤ q) (h1 : q ≤ 100000) : LContract Try.prog 89 [.lv, .d (sD item), .d (iD day), .d (iD q)] (some ⟨28, 5, l.map DemandV.dat⟩) (fun r xs => r = .one (.d (iD (takeL item day l q).2)) ∧ xs = (takeL item day l q).1.map DemandV.dat) := by
  refine contract_byL [] hma hTa Try.func89 (by kernel_rfl) (by kernel_rfl) ?_
  conv => whnf
  have e1 : (List.map DemandV.dat l).length = l.length := List.length_map _
  refine LoopK_intro hma hTa [(0, .key 100000), (1, .pl), (2, .pl), (9, .pl), (10, .pl)] (fun i : Nat => ⟨[(0, .av 100000 (l.map DemandV.dat).length), (1, .d (sD item)), (2, .d (iD day)), (9, .d (iD (takeL item day (l.take i) q).2)), (10, .d (iD i))], [(100000, some ⟨28, 5, (takeL item day (l.take i) q).1.map DemandV.dat ++ (l.drop i).map DemandV.dat⟩)], []⟩) (fun i => i ≤ l.length) (fun i => l.length - i) (by kernel_rfl) ?_ ?_
  · conv => whnf
    exact ⟨0, by omega, rfl⟩
  · intro i hi
    conv => whnf
    refine brLt (fun h => ?_) (fun h => ?_) <;> conv => whnf
    · have hil : i < l.length := by omega
      obtain ⟨x, hx⟩ : ∃ x, l[i]? = some x := ⟨l[i], by simp⟩
      have hxb := hb x (get_mem hx)
      have hk := takeL_ok (item := item) (day := day) (l.take i) q h0 fun d hd => hb d (List.mem_of_mem_take hd)
      have hsn := takeL_snoc (item := item) (day := day) (q := q) hx
      have hd : (l.drop i).map DemandV.dat = x.dat :: (l.drop (i + 1)).map DemandV.dat := by rw [List.getElem?_eq_getElem hil] at hx; cases hx; rw [List.drop_eq_getElem_cons hil]; rfl
      rw [hd]
      have hpl : ((takeL item day (l.take i) q).1.map DemandV.dat).length = i := by rw [List.length_map, hk.1, List.length_take]; omega
      have hpo : ((l.drop (i + 1)).map DemandV.dat).length = l.length - (i + 1) := by simp
      obtain ⟨_, _, hr0, hr1⟩ := hk
      generalize takeL item day (l.take i) q = p at hpl hr0 hr1 hsn ⊢
      obtain ⟨L, r⟩ := p
      dsimp only at hpl hr0 hr1 hsn ⊢
      have e1' : ∀ z : DemandV, tkE item day r x = z → (takeL item day (l.take (i + 1)) q).1.map DemandV.dat ++ (l.drop (i + 1)).map DemandV.dat = L.map DemandV.dat ++ z.dat :: (l.drop (i + 1)).map DemandV.dat := fun z hz => by rw [hsn]; dsimp only; rw [hz]; simp
      have e2' : (takeL item day (l.take (i + 1)) q).2 = tkQ item day r x := by rw [hsn]
      have hit : x.item = item ∧ x.day = day → tkE item day r x = { x with quantity := x.quantity - Min.min r x.quantity } ∧ tkQ item day r x = r - Min.min r x.quantity := fun h => by unfold tkE tkQ; rw [if_pos h, if_pos h]; exact ⟨rfl, rfl⟩
      have mis : ¬ (x.item = item ∧ x.day = day) → tkE item day r x = x ∧ tkQ item day r x = r := fun h => by unfold tkE tkQ; rw [if_neg h, if_neg h]; exact ⟨rfl, rfl⟩
      unfold qtyB at hxb
      refine IxA_intro i rfl (by omega) ?_
      conv => whnf
      refine getK_intro (get_mid hpl) ?_
      conv => whnf
      refine brStr (fun h2 => ?_) (fun h2 => ?_) <;> conv => whnf
      · refine IxA_intro i rfl (by omega) ?_
        conv => whnf
        refine getK_intro (get_mid hpl) ?_
        conv => whnf
        refine brEq (fun h3 => ?_) (fun h3 => ?_) <;> conv => whnf
        · obtain ⟨f1, f2⟩ := hit ⟨h2, h3⟩
          refine IxA_intro i rfl (by omega) ?_
          conv => whnf
          refine getK_intro (get_mid hpl) ?_
          conv => whnf
          refine IxA_intro i rfl (by omega) ?_
          conv => whnf
          refine getK_intro (get_mid hpl) ?_
          conv => whnf
          refine WrK_i64 (by omega) (by omega) ?_
          conv => whnf
          refine IxA_intro i rfl (by omega) ?_
          conv => whnf
          refine getK_intro (get_mid hpl) ?_
          conv => whnf
          refine setK_intro (by rw [List.length_append, List.length_cons]; omega) (set_mid hpl).symm ?_
          conv => whnf
          refine WrK_i64 (by omega) (by omega) ?_
          conv => whnf
          refine WrK_i64 (by omega) (by omega) ?_
          conv => whnf
          exact ⟨i + 1, hil, Nat.sub_lt_sub_left hil (Nat.lt_succ_self i), by dsimp only; rw [e1' _ f1, e2', f2]; rfl⟩
        · obtain ⟨f1, f2⟩ := mis fun h => h3 h.2
          refine WrK_i64 (by omega) (by omega) ?_
          conv => whnf
          exact ⟨i + 1, hil, Nat.sub_lt_sub_left hil (Nat.lt_succ_self i), by dsimp only; rw [e1' _ f1, e2', f2]; rfl⟩
      · obtain ⟨f1, f2⟩ := mis fun h => h2 h.1
        refine WrK_i64 (by omega) (by omega) ?_
        conv => whnf
        exact ⟨i + 1, hil, Nat.sub_lt_sub_left hil (Nat.lt_succ_self i), by dsimp only; rw [e1' _ f1, e2', f2]; rfl⟩
    · have e2 : l.take i = l := List.take_of_length_le (by omega)
      have e3 : l.drop i = [] := List.drop_of_length_le (by omega)
      have hk := takeL_ok (item := item) (day := day) l q h0 hb
      rw [e2, e3, List.map_nil, List.append_nil]
      exact ⟨rfl, rfl, by simp [hk.1], .one (.d (iD (takeL item day l q).2)), ⟨rfl, rfl⟩, rfl, rfl, trivial⟩

noncomputable def backF (item : ByteArray) (day : Int) (n : Nat) (p : List DemandV × Int) : List DemandV × Int := (List.range n).foldl (fun p (k : Nat) => takeL item (day - ((k : Int) + 1)) p.1 p.2) p
noncomputable def aheadF (item : ByteArray) (day : Int) (n : Nat) (p : List DemandV × Int) : List DemandV × Int := (List.range n).foldl (fun p (k : Nat) => takeL item (day + ((k : Int) + 1)) p.1 p.2) p
theorem backF_succ (item : ByteArray) (day : Int) (n : Nat) (p : List DemandV × Int) : backF item day (n + 1) p = takeL item (day - ((n : Int) + 1)) (backF item day n p).1 (backF item day n p).2 := by unfold backF; rw [List.range_succ, List.foldl_append]; rfl
theorem aheadF_succ (item : ByteArray) (day : Int) (n : Nat) (p : List DemandV × Int) : aheadF item day (n + 1) p = takeL item (day + ((n : Int) + 1)) (aheadF item day n p).1 (aheadF item day n p).2 := by unfold aheadF; rw [List.range_succ, List.foldl_append]; rfl
def okP (m : Nat) (q : Int) (p : List DemandV × Int) : Prop := p.1.length = m ∧ (∀ d ∈ p.1, qtyB d) ∧ 0 ≤ p.2 ∧ p.2 ≤ q
theorem okP_take {m : Nat} {q : Int} {p : List DemandV × Int} (h : okP m q p) (item : ByteArray) (day : Int) : okP m q (takeL item day p.1 p.2) := by
  obtain ⟨h1, h2, h3, h4⟩ := h
  obtain ⟨k1, k2, k3, k4⟩ := takeL_ok (item := item) (day := day) p.1 p.2 h3 h2
  exact ⟨by rw [k1, h1], k2, k3, by omega⟩
theorem okP_back {m : Nat} {q : Int} {p : List DemandV × Int} (h : okP m q p) (item : ByteArray) (day : Int) : ∀ n, okP m q (backF item day n p)
  | 0 => h
  | n + 1 => by rw [backF_succ]; exact okP_take (okP_back h item day n) _ _
theorem okP_ahead {m : Nat} {q : Int} {p : List DemandV × Int} (h : okP m q p) (item : ByteArray) (day : Int) : ∀ n, okP m q (aheadF item day n p)
  | 0 => h
  | n + 1 => by rw [aheadF_succ]; exact okP_take (okP_ahead h item day n) _ _
noncomputable def consO (back ahead : Nat) (L : List DemandV) (o : DemandV) : List DemandV := (aheadF o.item o.day ahead (backF o.item o.day back (takeL o.item o.day L o.quantity))).1
noncomputable def consL (back ahead : Nat) (orders L : List DemandV) : List DemandV := orders.foldl (consO back ahead) L
theorem consL_snoc {back ahead : Nat} {orders L : List DemandV} {i : Nat} {o : DemandV} (h : orders[i]? = some o) : consL back ahead (orders.take (i + 1)) L = consO back ahead (consL back ahead (orders.take i) L) o := by unfold consL; rw [take_snoc h, List.foldl_append]; rfl
theorem consO_ok {back ahead m : Nat} {L : List DemandV} {o : DemandV} (h1 : L.length = m) (h2 : ∀ d ∈ L, qtyB d) (ho : qtyB o) : (consO back ahead L o).length = m ∧ ∀ d ∈ consO back ahead L o, qtyB d := by
  have h0 : okP m o.quantity (L, o.quantity) := ⟨h1, h2, ho.1, Int.le_refl _⟩
  have := okP_ahead (okP_back (okP_take h0 o.item o.day) o.item o.day back) o.item o.day ahead
  exact ⟨this.1, this.2.1⟩
theorem consL_ok {back ahead m : Nat} : ∀ (orders L : List DemandV), L.length = m → (∀ d ∈ L, qtyB d) → (∀ o ∈ orders, qtyB o) → (consL back ahead orders L).length = m ∧ ∀ d ∈ consL back ahead orders L, qtyB d
  | [], _, h1, h2, _ => ⟨h1, h2⟩
  | o :: r, L, h1, h2, ho => by
    obtain ⟨k1, k2⟩ := consO_ok (back := back) (ahead := ahead) h1 h2 (ho o (by simp))
    exact consL_ok r _ k1 k2 fun x hx => ho x (by simp [hx])
def posN (l : List DemandV) : List DemandV := l.filter fun d => decide (0 < d.quantity)
theorem posN_y {l : List DemandV} {i : Nat} {d : DemandV} (h : l[i]? = some d) (hq : 0 < d.quantity) : posN (l.take (i + 1)) = posN (l.take i) ++ [d] := by unfold posN; rw [take_snoc h, List.filter_append]; simp [hq]
theorem posN_n {l : List DemandV} {i : Nat} {d : DemandV} (h : l[i]? = some d) (hq : ¬ 0 < d.quantity) : posN (l.take (i + 1)) = posN (l.take i) := by unfold posN; rw [take_snoc h, List.filter_append]; simp [hq]
theorem posN_len (l : List DemandV) : (posN l).length ≤ l.length := List.length_filter_le _ _
def consP (f o : List DemandV) (back ahead : Int) : Prop := areDemandsP f ∧ areDemandsP o ∧ inP back 0 60 ∧ inP ahead 0 60
noncomputable def consN (f o : List DemandV) (back ahead : Int) : List DemandV := ifP (consP f o back ahead) (posN (consL back.toNat ahead.toNat (sortN o) (sortN f))) []
theorem dem_qty {l : List DemandV} (h : areDemandsP l) : ∀ d ∈ sortN l, qtyB d ∧ inP d.day 0 999 := fun d hd => by
  obtain ⟨i, hi⟩ := List.getElem?_of_mem ((sort_perm l).mem_iff.1 hd)
  obtain ⟨h1, h2, h3, h4, h5, h6⟩ := h.1 i d hi
  unfold qtyB inP at *
  omega

theorem c_impl_in4 (n a b : Int) : Contract Try.prog 87 [.d (iD n), .d (iD a), .d (iD b)] (.one (.d (bD (tr (inP n a b))))) := c_impl_in n a b

set_option maxHeartbeats 8000000 in
theorem c_impl_ConsumeForecast (f : List DemandV) (hf : okL DemandV.ok f) (o : List DemandV) (ho : okL DemandV.ok o) (back ahead : Int) : Contract Try.prog 27 [.d (lD DemandV.dat f), .d (lD DemandV.dat o), .d (iD back), .d (iD ahead)] (.tup (.fr ⟨28, 5, (consN f o back ahead).map DemandV.dat⟩) [bD (tr (consP f o back ahead))]) := by
  refine contract_byR [100000 + 88] hma hTa Try.func27 (by kernel_rfl) (by kernel_rfl) ?_
  conv => whnf
  have no : ¬ consP f o back ahead → consN f o back ahead = [] ∧ tr (consP f o back ahead) = false := fun h => ⟨by unfold consN; rw [ifP_f h], tr_f h⟩
  refine CallK_tr (c_impl_AreDemands _ hf) (fun h1 => ?_) (fun h1 => ?_) <;> conv => whnf
  rotate_left
  · obtain ⟨n1, n2⟩ := no fun h => h1 h.1
    rw [n1, n2]
    exact ⟨⟨rfl, by omega⟩, rfl, trivial⟩
  refine CallK_tr (c_impl_AreDemands _ ho) (fun h2 => ?_) (fun h2 => ?_) <;> conv => whnf
  rotate_left
  · obtain ⟨n1, n2⟩ := no fun h => h2 h.2.1
    rw [n1, n2]
    exact ⟨⟨rfl, by omega⟩, rfl, trivial⟩
  refine CallK_tr (c_impl_in4 _ _ _) (fun h3 => ?_) (fun h3 => ?_) <;> conv => whnf
  rotate_left
  · obtain ⟨n1, n2⟩ := no fun h => h3 h.2.2.1
    rw [n1, n2]
    exact ⟨⟨rfl, by omega⟩, rfl, trivial⟩
  refine CallK_tr (c_impl_in4 _ _ _) (fun h4 => ?_) (fun h4 => ?_) <;> conv => whnf
  rotate_left
  · obtain ⟨n1, n2⟩ := no fun h => h4 h.2.2.2
    rw [n1, n2]
    exact ⟨⟨rfl, by omega⟩, rfl, trivial⟩
  have hP : consP f o back ahead := ⟨h1, h2, h3, h4⟩
  have e0 : consN f o back ahead = posN (consL back.toNat ahead.toNat (sortN o) (sortN f)) := by unfold consN; rw [ifP_t hP]
  rw [e0, tr_t hP]
  clear no e0
  have eF : sortsN f = sortN f := by unfold sortsN; rw [ifP_t h1]
  have eO : sortsN o = sortN o := by unfold sortsN; rw [ifP_t h2]
  have hFl : (sortN f).length ≤ 16 := by rw [sort_len]; exact h1.2
  have hOl : (sortN o).length ≤ 16 := by rw [sort_len]; exact h2.2
  have hFq := fun d hd => (dem_qty h1 d hd).1
  have hOq := dem_qty h2
  unfold inP at h3 h4
  obtain ⟨nb, rfl⟩ : ∃ n : Nat, back = (n : Int) := ⟨back.toNat, by omega⟩
  obtain ⟨na, rfl⟩ : ∃ n : Nat, ahead = (n : Int) := ⟨ahead.toNat, by omega⟩
  rw [Int.toNat_natCast, Int.toNat_natCast]
  refine CallK_intro (c_impl_SortDemands f hf) ?_
  conv => whnf
  refine CallK_intro (c_impl_SortDemands o ho) ?_
  conv => whnf
  rw [eF, eO]
  generalize sortN f = F at hFl hFq ⊢
  generalize sortN o = O at hOl hOq ⊢
  have eOl : (List.map DemandV.dat O).length = O.length := List.length_map _
  have hcl := fun i => consL_ok (back := nb) (ahead := na) (O.take i) F rfl hFq fun x hx => (hOq x (List.mem_of_mem_take hx)).1
  have eFl : (List.map DemandV.dat F).length = F.length := List.length_map _
  refine LoopK_introR [100000 + 88] hma hTa [(2, .pl), (3, .pl), (10, .key 10), (40, .fz), (41, .pl), (42, .pl)] (fun i : Nat => ⟨[(2, .d (iD nb)), (3, .d (iD na)), (10, .av 10 (F.map DemandV.dat).length), (40, .d (lD DemandV.dat O)), (41, .d (iD (O.map DemandV.dat).length)), (42, .d (iD i))], [(10, some ⟨28, 5, (consL nb na (O.take i) F).map DemandV.dat⟩)], []⟩) (fun i => i ≤ O.length) (fun i => O.length - i) (by kernel_rfl) ?_ ?_
  · conv => whnf
    refine takeK_full rfl ?_
    conv => whnf
    exact ⟨0, by omega, rfl⟩
  · intro i hi
    conv => whnf
    refine brLt (fun h => ?_) (fun h => ?_) <;> conv => whnf
    · refine IxK_mapLt i rfl (by omega) (fun x hx => ?_)
      conv => whnf
      have hil := get_lt hx
      obtain ⟨hxq, hxd⟩ := hOq x (get_mem hx)
      have hxq2 := hxq
      unfold qtyB at hxq2
      unfold inP at hxd
      have hsn := consL_snoc (back := nb) (ahead := na) (L := F) hx
      obtain ⟨hLl, hLq⟩ := hcl i
      have hLl2 : (List.map DemandV.dat (consL nb na (O.take i) F)).length = F.length := by rw [List.length_map, hLl]
      generalize consL nb na (O.take i) F = L at hLl hLq hLl2 hsn ⊢
      have hp0 : okP F.length x.quantity (takeL x.item x.day L x.quantity) := okP_take (p := (L, x.quantity)) ⟨hLl, hLq, hxq2.1, Int.le_refl _⟩ _ _
      refine NeedK_intro (eFl.trans hLl2.symm) ?_
      conv => whnf
      refine LCallK_intro (c_impl_takeForecast L (by omega) hLq x.item x.day x.quantity (by omega) (by omega)) ?_
      conv => whnf
      have hp1 := fun k => okP_back hp0 x.item x.day k
      have hp2 := fun k => okP_ahead (hp1 nb) x.item x.day k
      have hfin : consO nb na L x = (aheadF x.item x.day na (backF x.item x.day nb (takeL x.item x.day L x.quantity))).1 := rfl
      have hz : takeL x.item x.day L x.quantity = backF x.item x.day 0 (takeL x.item x.day L x.quantity) := rfl
      generalize takeL x.item x.day L x.quantity = p0 at hp0 hp1 hp2 hfin hz ⊢
      refine LoopK_introR [100000 + 88] hma hTa [(2, .pl), (3, .pl), (10, .key 10), (12, .key 12), (13, .pl), (14, .pl), (40, .pl), (41, .pl), (42, .pl)] (fun k : Nat => ⟨[(2, .d (iD nb)), (3, .d (iD na)), (10, .av 10 (F.map DemandV.dat).length), (12, .ae 12 0), (13, .d (iD (backF x.item x.day k p0).2)), (14, .d (iD ((k : Int) + 1))), (40, .d (lD DemandV.dat O)), (41, .d (iD (O.map DemandV.dat).length)), (42, .d (iD i))], [(10, some ⟨28, 5, (backF x.item x.day k p0).1.map DemandV.dat⟩), (12, some ⟨28, 5, [x.dat]⟩)], []⟩) (fun k => k ≤ nb) (fun k => nb - k) (by kernel_rfl) ?_ ?_
      · conv => whnf
        exact ⟨0, by omega, rfl⟩
      · intro k hk
        obtain ⟨q1, q2, q3, q4⟩ := hp1 k
        have q5 : (List.map DemandV.dat (backF x.item x.day k p0).1).length = F.length := by rw [List.length_map, q1]
        have q6 := backF_succ x.item x.day k p0
        conv => whnf
        refine brLe (fun h5 => ?_) (fun h5 => ?_) <;> conv => whnf
        · refine WrK_i64 (by omega) (by omega) ?_
          conv => whnf
          refine NeedK_intro (eFl.trans q5.symm) ?_
          conv => whnf
          refine LCallK_intro (c_impl_takeForecast (backF x.item x.day k p0).1 (by omega) q2 x.item (x.day - ((k : Int) + 1)) (backF x.item x.day k p0).2 (by omega) (by omega)) ?_
          rw [← q6]
          conv => whnf
          refine WrK_i64 (by omega) (by omega) ?_
          conv => whnf
          exact ⟨k + 1, by omega, Nat.sub_lt_sub_left (by omega) (Nat.lt_succ_self k), rfl⟩
        · have ek : k = nb := by omega
          subst ek
          clear hp1 hz
          generalize backF x.item x.day k p0 = p1 at hp2 hfin q1 q2 q3 q4 q5 ⊢
          refine LoopK_introR [100000 + 88] hma hTa [(2, .pl), (3, .pl), (10, .key 10), (12, .key 12), (13, .pl), (15, .pl), (40, .pl), (41, .pl), (42, .pl)] (fun j : Nat => ⟨[(2, .d (iD k)), (3, .d (iD na)), (10, .av 10 (F.map DemandV.dat).length), (12, .ae 12 0), (13, .d (iD (aheadF x.item x.day j p1).2)), (15, .d (iD ((j : Int) + 1))), (40, .d (lD DemandV.dat O)), (41, .d (iD (O.map DemandV.dat).length)), (42, .d (iD i))], [(10, some ⟨28, 5, (aheadF x.item x.day j p1).1.map DemandV.dat⟩), (12, some ⟨28, 5, [x.dat]⟩)], []⟩) (fun j => j ≤ na) (fun j => na - j) (by kernel_rfl) ?_ ?_
          · conv => whnf
            exact ⟨0, by omega, rfl⟩
          · intro j hj
            obtain ⟨r1, r2, r3, r4⟩ := hp2 j
            have r5 : (List.map DemandV.dat (aheadF x.item x.day j p1).1).length = F.length := by rw [List.length_map, r1]
            have r6 := aheadF_succ x.item x.day j p1
            conv => whnf
            refine brLe (fun h6 => ?_) (fun h6 => ?_) <;> conv => whnf
            · refine WrK_i64 (by omega) (by omega) ?_
              conv => whnf
              refine NeedK_intro (eFl.trans r5.symm) ?_
              conv => whnf
              refine LCallK_intro (c_impl_takeForecast (aheadF x.item x.day j p1).1 (by omega) r2 x.item (x.day + ((j : Int) + 1)) (aheadF x.item x.day j p1).2 (by omega) (by omega)) ?_
              rw [← r6]
              conv => whnf
              refine WrK_i64 (by omega) (by omega) ?_
              conv => whnf
              exact ⟨j + 1, by omega, Nat.sub_lt_sub_left (by omega) (Nat.lt_succ_self j), rfl⟩
            · have ej : j = na := by omega
              subst ej
              refine WrK_i64 (by omega) (by omega) ?_
              conv => whnf
              exact ⟨i + 1, hil, Nat.sub_lt_sub_left hil (Nat.lt_succ_self i), by dsimp only; rw [hsn, hfin]; rfl⟩
    · have e2 : O.take i = O := List.take_of_length_le (by omega)
      obtain ⟨hLl, hLq⟩ := hcl i
      rw [e2] at hLl ⊢
      have hLl2 : (List.map DemandV.dat (consL nb na O F)).length = F.length := by rw [List.length_map, hLl]
      generalize consL nb na O F = C at hLl hLl2 ⊢
      refine LoopK_introR [100000 + 88] hma hTa [(16, .key 16), (84, .fz), (85, .pl), (86, .pl)] (fun i : Nat => ⟨[(16, .av 16 (posN (C.take i)).length), (84, .d (lD DemandV.dat C)), (85, .d (iD (F.map DemandV.dat).length)), (86, .d (iD i))], [(16, some ⟨28, 5, (posN (C.take i)).map DemandV.dat⟩)], []⟩) (fun i => i ≤ C.length) (fun i => C.length - i) (by kernel_rfl) ?_ ?_
      · conv => whnf
        refine takeK_full (eFl.trans hLl2.symm) ?_
        conv => whnf
        exact ⟨0, by omega, rfl⟩
      · intro i hi
        have hpl := Nat.le_trans (posN_len (C.take i)) (List.length_take_le i C)
        have hpl2 : (C.take i).length ≤ C.length := by simp; omega
        conv => whnf
        refine brLt (fun h5 => ?_) (fun h5 => ?_) <;> conv => whnf
        · refine IxK_mapLt i rfl (by omega) (fun x hx => ?_)
          conv => whnf
          have hil := get_lt hx
          refine brLt (fun h6 => ?_) (fun h6 => ?_) <;> conv => whnf
          · have hy := posN_y hx h6
            refine AppK_intro (n := (posN (C.take i)).length + 1) (xs' := (posN (C.take (i + 1))).map DemandV.dat) rfl (by rw [hy]; exact app_l (B := [x]) rfl) (by have := posN_len (C.take i); omega) (by simp [DemandV.dat, D.width, Ty.width]) ?_
            conv => whnf
            refine WrK_i64 (by omega) (by omega) ?_
            conv => whnf
            exact ⟨i + 1, hil, Nat.sub_lt_sub_left hil (Nat.lt_succ_self i), by dsimp only; rw [hy, List.length_append]; rfl⟩
          · refine WrK_i64 (by omega) (by omega) ?_
            conv => whnf
            exact ⟨i + 1, hil, Nat.sub_lt_sub_left hil (Nat.lt_succ_self i), by dsimp only; rw [posN_n hx (by omega)]; rfl⟩
        · rw [List.take_of_length_le (l := C) (by omega)]
          exact ⟨⟨rfl, rfl, by simp, rfl, demL_flat _⟩, rfl, trivial⟩

set_option maxHeartbeats 8000000 in
theorem c_spec_ConsumeForecast (f : List DemandV) (hf : okL DemandV.ok f) (o : List DemandV) (ho : okL DemandV.ok o) (back ahead : Int) : Contract Try.prog 28 [.d (lD DemandV.dat f), .d (lD DemandV.dat o), .d (iD back), .d (iD ahead)] (.tup (.fr ⟨28, 5, (consN f o back ahead).map DemandV.dat⟩) [bD (tr (consP f o back ahead))]) := by
  refine contract_byR [100000 + 89] hma hTa Try.func28 (by kernel_rfl) (by kernel_rfl) ?_
  conv => whnf
  have no : ¬ consP f o back ahead → consN f o back ahead = [] ∧ tr (consP f o back ahead) = false := fun h => ⟨by unfold consN; rw [ifP_f h], tr_f h⟩
  refine CallK_tr (c_spec_AreDemands _ hf) (fun h1 => ?_) (fun h1 => ?_) <;> conv => whnf
  rotate_left
  · obtain ⟨n1, n2⟩ := no fun h => h1 h.1
    rw [n1, n2]
    exact ⟨⟨rfl, rfl, rfl, rfl, fun _ h => by simp at h⟩, rfl, trivial⟩
  refine CallK_tr (c_spec_AreDemands _ ho) (fun h2 => ?_) (fun h2 => ?_) <;> conv => whnf
  rotate_left
  · obtain ⟨n1, n2⟩ := no fun h => h2 h.2.1
    rw [n1, n2]
    exact ⟨⟨rfl, rfl, rfl, rfl, fun _ h => by simp at h⟩, rfl, trivial⟩
  refine CallK_tr (c_spec_l1In _ _ _) (fun h3 => ?_) (fun h3 => ?_) <;> conv => whnf
  rotate_left
  · obtain ⟨n1, n2⟩ := no fun h => h3 h.2.2.1
    rw [n1, n2]
    exact ⟨⟨rfl, rfl, rfl, rfl, fun _ h => by simp at h⟩, rfl, trivial⟩
  refine CallK_tr (c_spec_l1In _ _ _) (fun h4 => ?_) (fun h4 => ?_) <;> conv => whnf
  rotate_left
  · obtain ⟨n1, n2⟩ := no fun h => h4 h.2.2.2
    rw [n1, n2]
    exact ⟨⟨rfl, rfl, rfl, rfl, fun _ h => by simp at h⟩, rfl, trivial⟩
  have hP : consP f o back ahead := ⟨h1, h2, h3, h4⟩
  have e0 : consN f o back ahead = posN (consL back.toNat ahead.toNat (sortN o) (sortN f)) := by unfold consN; rw [ifP_t hP]
  rw [e0, tr_t hP]
  clear no e0
  have eF : sortsN f = sortN f := by unfold sortsN; rw [ifP_t h1]
  have eO : sortsN o = sortN o := by unfold sortsN; rw [ifP_t h2]
  have hFl : (sortN f).length ≤ 16 := by rw [sort_len]; exact h1.2
  have hOl : (sortN o).length ≤ 16 := by rw [sort_len]; exact h2.2
  have hFq := fun d hd => (dem_qty h1 d hd).1
  have hOq := dem_qty h2
  unfold inP at h3 h4
  obtain ⟨nb, rfl⟩ : ∃ n : Nat, back = (n : Int) := ⟨back.toNat, by omega⟩
  obtain ⟨na, rfl⟩ : ∃ n : Nat, ahead = (n : Int) := ⟨ahead.toNat, by omega⟩
  rw [Int.toNat_natCast, Int.toNat_natCast]
  refine CallK_intro (c_spec_SortDemands f hf) ?_
  conv => whnf
  refine CallK_intro (c_spec_SortDemands o ho) ?_
  conv => whnf
  rw [eF, eO]
  generalize sortN f = F at hFl hFq ⊢
  generalize sortN o = O at hOl hOq ⊢
  have eOl : (List.map DemandV.dat O).length = O.length := List.length_map _
  have hcl := fun i => consL_ok (back := nb) (ahead := na) (O.take i) F rfl hFq fun x hx => (hOq x (List.mem_of_mem_take hx)).1
  have eFl : (List.map DemandV.dat F).length = F.length := List.length_map _
  refine LoopK_introR [100000 + 89] hma hTa [(2, .pl), (3, .pl), (10, .key 10), (11, .fz), (12, .pl)] (fun i : Nat => ⟨[(2, .d (iD nb)), (3, .d (iD na)), (10, .av 10 (F.map DemandV.dat).length), (11, .d (lD DemandV.dat O)), (12, .d (iD i))], [(10, some ⟨28, 5, (consL nb na (O.take i) F).map DemandV.dat⟩)], []⟩) (fun i => i ≤ O.length) (fun i => O.length - i) (by kernel_rfl) ?_ ?_
  · conv => whnf
    refine takeK_full rfl ?_
    conv => whnf
    exact ⟨0, by omega, rfl⟩
  · intro i hi
    conv => whnf
    refine brLt (fun h => ?_) (fun h => ?_) <;> conv => whnf
    · refine IxK_mapLt i rfl (by omega) (fun x hx => ?_)
      conv => whnf
      have hil := get_lt hx
      obtain ⟨hxq, hxd⟩ := hOq x (get_mem hx)
      have hxq2 := hxq
      unfold qtyB at hxq2
      unfold inP at hxd
      have hsn := consL_snoc (back := nb) (ahead := na) (L := F) hx
      obtain ⟨hLl, hLq⟩ := hcl i
      have hLl2 : (List.map DemandV.dat (consL nb na (O.take i) F)).length = F.length := by rw [List.length_map, hLl]
      generalize consL nb na (O.take i) F = L at hLl hLq hLl2 hsn ⊢
      have hp0 : okP F.length x.quantity (takeL x.item x.day L x.quantity) := okP_take (p := (L, x.quantity)) ⟨hLl, hLq, hxq2.1, Int.le_refl _⟩ _ _
      refine NeedK_intro (eFl.trans hLl2.symm) ?_
      conv => whnf
      refine LCallK_intro (c_spec_l13Take L (by omega) hLq x.item x.day x.quantity (by omega) (by omega)) ?_
      conv => whnf
      have hp1 := fun k => okP_back hp0 x.item x.day k
      have hp2 := fun k => okP_ahead (hp1 nb) x.item x.day k
      have hfin : consO nb na L x = (aheadF x.item x.day na (backF x.item x.day nb (takeL x.item x.day L x.quantity))).1 := rfl
      have hz : takeL x.item x.day L x.quantity = backF x.item x.day 0 (takeL x.item x.day L x.quantity) := rfl
      generalize takeL x.item x.day L x.quantity = p0 at hp0 hp1 hp2 hfin hz ⊢
      refine LoopK_introR [100000 + 89] hma hTa [(2, .pl), (3, .pl), (10, .key 10), (11, .pl), (12, .pl), (13, .key 13), (14, .pl), (15, .pl)] (fun k : Nat => ⟨[(2, .d (iD nb)), (3, .d (iD na)), (10, .av 10 (F.map DemandV.dat).length), (11, .d (lD DemandV.dat O)), (12, .d (iD i)), (13, .ae 13 0), (14, .d (iD (backF x.item x.day k p0).2)), (15, .d (iD ((k : Int) + 1)))], [(10, some ⟨28, 5, (backF x.item x.day k p0).1.map DemandV.dat⟩), (13, some ⟨28, 5, [x.dat]⟩)], []⟩) (fun k => k ≤ nb) (fun k => nb - k) (by kernel_rfl) ?_ ?_
      · conv => whnf
        exact ⟨0, by omega, rfl⟩
      · intro k hk
        obtain ⟨q1, q2, q3, q4⟩ := hp1 k
        have q5 : (List.map DemandV.dat (backF x.item x.day k p0).1).length = F.length := by rw [List.length_map, q1]
        have q6 := backF_succ x.item x.day k p0
        conv => whnf
        refine brLe (fun h5 => ?_) (fun h5 => ?_) <;> conv => whnf
        · refine WrK_i64 (by omega) (by omega) ?_
          conv => whnf
          refine NeedK_intro (eFl.trans q5.symm) ?_
          conv => whnf
          refine LCallK_intro (c_spec_l13Take (backF x.item x.day k p0).1 (by omega) q2 x.item (x.day - ((k : Int) + 1)) (backF x.item x.day k p0).2 (by omega) (by omega)) ?_
          rw [← q6]
          conv => whnf
          refine WrK_i64 (by omega) (by omega) ?_
          conv => whnf
          exact ⟨k + 1, by omega, Nat.sub_lt_sub_left (by omega) (Nat.lt_succ_self k), rfl⟩
        · have ek : k = nb := by omega
          subst ek
          clear hp1 hz
          generalize backF x.item x.day k p0 = p1 at hp2 hfin q1 q2 q3 q4 q5 ⊢
          refine LoopK_introR [100000 + 89] hma hTa [(2, .pl), (3, .pl), (10, .key 10), (11, .pl), (12, .pl), (13, .key 13), (14, .pl), (16, .pl)] (fun j : Nat => ⟨[(2, .d (iD k)), (3, .d (iD na)), (10, .av 10 (F.map DemandV.dat).length), (11, .d (lD DemandV.dat O)), (12, .d (iD i)), (13, .ae 13 0), (14, .d (iD (aheadF x.item x.day j p1).2)), (16, .d (iD ((j : Int) + 1)))], [(10, some ⟨28, 5, (aheadF x.item x.day j p1).1.map DemandV.dat⟩), (13, some ⟨28, 5, [x.dat]⟩)], []⟩) (fun j => j ≤ na) (fun j => na - j) (by kernel_rfl) ?_ ?_
          · conv => whnf
            exact ⟨0, by omega, rfl⟩
          · intro j hj
            obtain ⟨r1, r2, r3, r4⟩ := hp2 j
            have r5 : (List.map DemandV.dat (aheadF x.item x.day j p1).1).length = F.length := by rw [List.length_map, r1]
            have r6 := aheadF_succ x.item x.day j p1
            conv => whnf
            refine brLe (fun h6 => ?_) (fun h6 => ?_) <;> conv => whnf
            · refine WrK_i64 (by omega) (by omega) ?_
              conv => whnf
              refine NeedK_intro (eFl.trans r5.symm) ?_
              conv => whnf
              refine LCallK_intro (c_spec_l13Take (aheadF x.item x.day j p1).1 (by omega) r2 x.item (x.day + ((j : Int) + 1)) (aheadF x.item x.day j p1).2 (by omega) (by omega)) ?_
              rw [← r6]
              conv => whnf
              refine WrK_i64 (by omega) (by omega) ?_
              conv => whnf
              exact ⟨j + 1, by omega, Nat.sub_lt_sub_left (by omega) (Nat.lt_succ_self j), rfl⟩
            · have ej : j = na := by omega
              subst ej
              refine WrK_i64 (by omega) (by omega) ?_
              conv => whnf
              exact ⟨i + 1, hil, Nat.sub_lt_sub_left hil (Nat.lt_succ_self i), by dsimp only; rw [hsn, hfin]; rfl⟩
    · have e2 : O.take i = O := List.take_of_length_le (by omega)
      obtain ⟨hLl, hLq⟩ := hcl i
      rw [e2] at hLl ⊢
      have hLl2 : (List.map DemandV.dat (consL nb na O F)).length = F.length := by rw [List.length_map, hLl]
      generalize consL nb na O F = C at hLl hLl2 ⊢
      refine LoopK_introR [100000 + 89] hma hTa [(10, .fz), (17, .key 17), (18, .pl)] (fun i : Nat => ⟨[(10, .d (lD DemandV.dat C)), (17, .av 17 (posN (C.take i)).length), (18, .d (iD i))], [(17, some ⟨28, 5, (posN (C.take i)).map DemandV.dat⟩)], []⟩) (fun i => i ≤ C.length) (fun i => C.length - i) (by kernel_rfl) ?_ ?_
      · conv => whnf
        refine takeK_full (eFl.trans hLl2.symm) ?_
        conv => whnf
        exact ⟨0, by omega, rfl⟩
      · intro i hi
        have hpl := Nat.le_trans (posN_len (C.take i)) (List.length_take_le i C)
        have hpl2 : (C.take i).length ≤ C.length := by simp; omega
        conv => whnf
        have eC : (List.map DemandV.dat C).length = C.length := List.length_map _
        refine brLt (fun h5 => ?_) (fun h5 => ?_) <;> conv => whnf
        · refine IxK_mapLt i rfl (by omega) (fun x hx => ?_)
          conv => whnf
          have hil := get_lt hx
          refine brLt (fun h6 => ?_) (fun h6 => ?_) <;> conv => whnf
          · have hy := posN_y hx h6
            refine IxK_map i rfl hx ?_
            conv => whnf
            refine AppK_intro (n := (posN (C.take i)).length + 1) (xs' := (posN (C.take (i + 1))).map DemandV.dat) rfl (by rw [hy]; exact app_l (B := [x]) rfl) (by have := posN_len (C.take i); omega) (by simp [DemandV.dat, D.width, Ty.width]) ?_
            conv => whnf
            refine WrK_i64 (by omega) (by omega) ?_
            conv => whnf
            exact ⟨i + 1, hil, Nat.sub_lt_sub_left hil (Nat.lt_succ_self i), by dsimp only; rw [hy, List.length_append]; rfl⟩
          · refine WrK_i64 (by omega) (by omega) ?_
            conv => whnf
            exact ⟨i + 1, hil, Nat.sub_lt_sub_left hil (Nat.lt_succ_self i), by dsimp only; rw [posN_n hx (by omega)]; rfl⟩
        · rw [List.take_of_length_le (l := C) (by omega)]
          exact ⟨⟨rfl, rfl, by simp, rfl, demL_flat _⟩, rfl, trivial⟩

end Go.DL
