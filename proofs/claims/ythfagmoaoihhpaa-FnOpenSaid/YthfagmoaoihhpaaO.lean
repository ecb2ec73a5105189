/- Contracts of functions of the program, at this seat: what each call returns, by its arguments as data; each states its own conditions. -/
import Derived.Test.YthfagmoaoihhpaaN
namespace Go.DL
set_option maxRecDepth 100000
set_option maxHeartbeats 2000000
set_option linter.unusedSimpArgs false
set_option linter.unusedVariables false
open Go.RowKit Go.Proofs Go.Proofs.Ythfagmoaoihhpaa

/-- The value of a condition, by a stack. -/
def hasP (c : List PickV) (o v : ByteArray) : Prop := ∃ p ∈ c, p.option = o ∧ p.value = v
noncomputable def stackS (c : List PickV) (x : NodeV) (s : List Bool) : List Bool :=
  if x.kind = 0 then s ++ [true]
  else if x.kind = 1 then s ++ [tr (hasP c x.option x.value)]
  else if x.kind = 2 then s.take (s.length - 1) ++ [!(s.getD (s.length - 1) false)]
  else if x.kind = 3 then s.take (s.length - 2) ++ [s.getD (s.length - 2) false && s.getD (s.length - 1) false]
  else s.take (s.length - 2) ++ [s.getD (s.length - 2) false || s.getD (s.length - 1) false]
noncomputable def stackN (c : List PickV) (l : List NodeV) : List Bool := l.foldl (fun s x => stackS c x s) []
theorem stackN_snoc {c : List PickV} {l : List NodeV} {i : Nat} {x : NodeV} (h : l[i]? = some x) : stackN c (l.take (i + 1)) = stackS c x (stackN c (l.take i)) := by
  unfold stackN; rw [take_snoc h, List.foldl_append]; rfl
noncomputable def evalN (l : List NodeV) (c : List PickV) : Bool := (stackN c l).getD 0 false
theorem stackS_len {c : List PickV} {x : NodeV} {s : List Bool} (h0 : 0 ≤ opN x.kind) (h1 : opN x.kind ≤ s.length) : ((stackS c x s).length : Int) = s.length + (1 - opN x.kind) := by
  unfold stackS
  rcases opN_facts x.kind with h | h | h | h | h | h
  · rw [if_pos h.1]; simp; omega
  · rw [if_neg (by omega), if_pos h.1]; simp; omega
  · rw [if_neg (by omega), if_neg (by omega), if_pos h.1]; simp; omega
  · rw [if_neg (by omega), if_neg (by omega), if_neg (by omega), if_pos h.1]; simp; omega
  · rw [if_neg (by omega), if_neg (by omega), if_neg (by omega), if_neg (by omega)]; simp; omega
  · omega
theorem stackN_len {c : List PickV} {l : List NodeV} {i : Nat} (h : AllB l (isNodeAt l) i) (hi : i ≤ l.length) : ((stackN c (l.take i)).length : Int) = have_ (l.take i) := by
  induction i with
  | zero => simp [stackN, have_, sumI]
  | succ i ih =>
    have h1 := ih (fun j hj => h j (by omega)) (by omega)
    obtain ⟨x, hx⟩ : ∃ x, l[i]? = some x := ⟨l[i], by simp⟩
    have h2 := h i (by omega) x hx
    rw [stackN_snoc hx, have_take hx, stackS_len h2.1 (by have := h2.2.1; omega), h1]
theorem stackS_0 {c : List PickV} {x : NodeV} {s : List Bool} (h : x.kind = 0) : stackS c x s = s ++ [true] := by unfold stackS; rw [if_pos h]
theorem stackS_1 {c : List PickV} {x : NodeV} {s : List Bool} (h : x.kind = 1) : stackS c x s = s ++ [tr (hasP c x.option x.value)] := by unfold stackS; rw [if_neg (by omega), if_pos h]
theorem stackS_2 {c : List PickV} {x : NodeV} {s : List Bool} (h : x.kind = 2) : stackS c x s = s.take (s.length - 1) ++ [!(s.getD (s.length - 1) false)] := by unfold stackS; rw [if_neg (by omega), if_neg (by omega), if_pos h]
theorem stackS_3 {c : List PickV} {x : NodeV} {s : List Bool} (h : x.kind = 3) : stackS c x s = s.take (s.length - 2) ++ [s.getD (s.length - 2) false && s.getD (s.length - 1) false] := by unfold stackS; rw [if_neg (by omega), if_neg (by omega), if_neg (by omega), if_pos h]
theorem stackS_4 {c : List PickV} {x : NodeV} {s : List Bool} (h : x.kind = 4) : stackS c x s = s.take (s.length - 2) ++ [s.getD (s.length - 2) false || s.getD (s.length - 1) false] := by unfold stackS; rw [if_neg (by omega), if_neg (by omega), if_neg (by omega), if_neg (by omega)]
theorem bool_get {s : List Bool} {j : Nat} (h : j < s.length) : (s.map bD)[j]? = some (bD (s.getD j false)) := by
  simp [List.getElem?_eq_getElem h]
theorem bool_put {s t : List Bool} {v : Bool} {m : Nat} (ht : t = s.take m ++ [v]) : t.map bD = (s.map bD).take m ++ [D.sc (.bool v)] := by
  subst ht; simp [List.map_take]
theorem bool_all {s t : List Bool} {v : Bool} (ht : t = s ++ [v]) : t.map bD = (s.map bD).take s.length ++ [D.sc (.bool v)] := by
  rw [ht, List.take_of_length_le (by simp)]; simp
theorem bool_set {s t : List Bool} {v : Bool} {m : Nat} (hm : m + 1 = s.length) (ht : t = s.take m ++ [v]) : t.map bD = (s.map bD).set m (D.sc (.bool v)) := by
  subst ht
  rw [List.set_eq_take_append_cons_drop, if_pos (by simp; omega)]
  simp [List.map_take, List.drop_eq_nil_of_le (show (s.map bD).length ≤ m + 1 by simp; omega)]
theorem hasP_snoc {c : List PickV} {j : Nat} {p : PickV} {o v : ByteArray} (h : c[j]? = some p) : hasP (c.take (j + 1)) o v ↔ hasP (c.take j) o v ∨ (p.option = o ∧ p.value = v) := by
  rw [take_snoc h]
  unfold hasP
  constructor
  · rintro ⟨q, hq, h1⟩
    rcases List.mem_append.1 hq with h2 | h2
    · exact .inl ⟨q, h2, h1⟩
    · simp at h2; subst h2; exact .inr h1
  · rintro (⟨q, hq, h1⟩ | h1)
    · exact ⟨q, List.mem_append.2 (.inl hq), h1⟩
    · exact ⟨p, by simp, h1⟩

set_option maxHeartbeats 4000000 in
theorem c_impl_Holds (l : List NodeV) (hl : okL NodeV.ok l) (c : List PickV) (hc : okL PickV.ok c) : Contract Try.prog 32 [.d (lD NodeV.dat l), .d (lD PickV.dat c)] (.one (.d (bD (tr (isCondP l ∧ evalN l c = true))))) := by
  refine contract_by hma hTa Try.func32 (by kernel_rfl) (by kernel_rfl) ?_
  have hl2 := hl
  obtain ⟨hlen, hok⟩ := hl2
  obtain ⟨hlenc, _⟩ := hc
  conv => whnf
  have e1 : (List.map NodeV.dat l).length = l.length := List.length_map _
  have e2 : (List.map PickV.dat c).length = c.length := List.length_map _
  refine CallK_tr (c_impl_IsCond _ hl) (fun hcond => ?_) (fun hcond => ?_) <;> conv => whnf
  rotate_left
  · exact bF (fun hp => hcond hp.1)
  have h30 := hcond.1
  refine LoopK_intro hma hTa [(1, .pl), (4, .pl), (5, .key 5), (16, .pl), (17, .pl), (18, .pl)] (fun i : Nat => ⟨[(1, .d (lD PickV.dat c)), (4, .d (bD false)), (5, .av 5 (stackN c (l.take i)).length), (16, .d (lD NodeV.dat l)), (17, .d (iD (l.map NodeV.dat).length)), (18, .d (iD i))], [(5, some ⟨4, 1, (stackN c (l.take i)).map bD⟩)], []⟩) (fun i => i ≤ l.length) (fun i => l.length - i) (by kernel_rfl) ?_ ?_
  · conv => whnf
    exact ⟨0, by omega, rfl⟩
  · intro i hi
    have hall : AllB l (isNodeAt l) i := fun j _ x hx => hcond.2.1 j x hx
    have hsl := stackN_len (c := c) hall hi
    have hb := have_bound hall hi
    conv => whnf
    refine brLt (fun h => ?_) (fun h => ?_) <;> conv => whnf
    rotate_left
    · have et : l.take i = l := List.take_of_length_le (by omega)
      rw [et] at hsl ⊢
      have h1 := hcond.2.2
      refine IxA_intro 0 rfl (by omega) ?_
      conv => whnf
      refine getK_intro (bool_get (by omega)) ?_
      conv => whnf
      exact bB ⟨fun h2 => ⟨hcond, h2⟩, fun h2 => h2.2⟩
    refine IxK_mapLt _ rfl (by omega) (fun x hx => ?_)
    conv => whnf
    have hil := get_lt hx
    have hnd := hcond.2.1 i x hx
    have hsn := stackN_snoc (c := c) hx
    generalize hS : stackN c (l.take i) = s at hsl hsn ⊢
    refine brEq (fun hk0 => ?_) (fun hk0 => ?_) <;> conv => whnf
    · rw [stackS_0 hk0] at hsn
      refine AppK_intro (n := (stackN c (l.take (i + 1))).length) (by rw [hsn]; simp) (bool_all hsn) (by rw [hsn]; simp; omega) (by simp [D.width, Ty.width]) ?_
      conv => whnf
      refine WrK_i64 (by omega) (by omega) ?_
      conv => whnf
      exact ⟨i + 1, hil, Nat.sub_lt_sub_left hil (Nat.lt_succ_self i), rfl⟩
    refine brEq (fun hk1 => ?_) (fun hk1 => ?_) <;> conv => whnf
    · rw [stackS_1 hk1] at hsn
      refine LoopK2 hma hTa [(1, .pl), (4, .pl), (5, .key 5), (16, .pl), (17, .pl), (18, .pl), (7, .key 7), (9, .pl), (33, .pl), (34, .pl), (35, .pl)] (fun (j : Nat) (b : Bool) => ⟨[(1, .d (lD PickV.dat c)), (4, .d (bD false)), (5, .av 5 s.length), (16, .d (lD NodeV.dat l)), (17, .d (iD (l.map NodeV.dat).length)), (18, .d (iD i)), (7, .ae 7 0), (9, .d (bD b)), (33, .d (lD PickV.dat c)), (34, .d (iD (c.map PickV.dat).length)), (35, .d (iD j))], [(5, some ⟨4, 1, s.map bD⟩), (7, some ⟨70, 3, [x.dat]⟩)], []⟩) (fun j b => j ≤ c.length ∧ (b = true ↔ hasP (c.take j) x.option x.value)) (fun j _ => c.length - j) (by kernel_rfl) ?_ ?_
      · conv => whnf
        exact ⟨0, false, ⟨by omega, by simp [hasP]⟩, rfl⟩
      · intro j b ⟨hj, hjb⟩
        conv => whnf
        refine brLt (fun h2 => ?_) (fun h2 => ?_) <;> conv => whnf
        · refine IxK_mapLt _ rfl (by omega) (fun p hp => ?_)
          conv => whnf
          have hpl := get_lt hp
          have hps := hasP_snoc (o := x.option) (v := x.value) hp
          refine brB (fun h3 => ?_) (fun h3 => ?_) <;> conv => whnf
          · refine WrK_i64 (by omega) (by omega) ?_
            conv => whnf
            exact ⟨(j + 1, true), ⟨hpl, by dsimp only; rw [hps]; exact ⟨fun _ => .inl (hjb.1 h3), fun _ => rfl⟩⟩, Nat.sub_lt_sub_left hpl (Nat.lt_succ_self j), rfl⟩
          · have hnb : ¬ hasP (c.take j) x.option x.value := fun h4 => by rw [hjb.2 h4] at h3; cases h3
            refine brStr (fun h4 => ?_) (fun h4 => ?_) <;> conv => whnf
            · refine WrK_i64 (by omega) (by omega) ?_
              conv => whnf
              exact ⟨(j + 1, _), ⟨hpl, by dsimp only; rw [hps, strEq_iff]; exact ⟨fun h5 => .inr ⟨h4, h5⟩, fun h5 => (h5.resolve_left hnb).2⟩⟩, Nat.sub_lt_sub_left hpl (Nat.lt_succ_self j), rfl⟩
            · refine WrK_i64 (by omega) (by omega) ?_
              conv => whnf
              exact ⟨(j + 1, false), ⟨hpl, by dsimp only; rw [hps]; exact ⟨fun h5 => (by cases h5), fun h5 => absurd (h5.resolve_left hnb).1 h4⟩⟩, Nat.sub_lt_sub_left hpl (Nat.lt_succ_self j), rfl⟩
        · rw [List.take_of_length_le (by omega)] at hjb
          rw [← tr_bool hjb] at hsn
          refine AppK_intro (n := (stackN c (l.take (i + 1))).length) (by rw [hsn]; simp) (bool_all hsn) (by rw [hsn]; simp; omega) (by simp [D.width, Ty.width]) ?_
          conv => whnf
          refine WrK_i64 (by omega) (by omega) ?_
          conv => whnf
          exact ⟨i + 1, hil, Nat.sub_lt_sub_left hil (Nat.lt_succ_self i), rfl⟩
    refine brEq (fun hk2 => ?_) (fun hk2 => ?_) <;> conv => whnf
    · rw [stackS_2 hk2] at hsn
      have hop := hnd.2.1
      rw [opN_2 hk2] at hop
      have hlen2 : (stackN c (l.take (i + 1))).length = s.length := by rw [hsn]; simp; omega
      refine WrK_i64 (by omega) (by omega) ?_
      conv => whnf
      refine WrK_i64 (by omega) (by omega) ?_
      conv => whnf
      refine IxA_intro (s.length - 1) (by omega) (by omega) ?_
      conv => whnf
      refine getK_intro (bool_get (by omega)) ?_
      conv => whnf
      refine IxA_intro (s.length - 1) (by omega) (by omega) ?_
      conv => whnf
      refine setK_intro (by simp; omega) (bool_set (by omega) hsn) ?_
      conv => whnf
      refine WrK_i64 (by omega) (by omega) ?_
      conv => whnf
      exact ⟨i + 1, hil, Nat.sub_lt_sub_left hil (Nat.lt_succ_self i), by dsimp only; rw [hlen2]; rfl⟩
    refine brEq (fun hk3 => ?_) (fun hk3 => ?_) <;> conv => whnf
    · rw [stackS_3 hk3] at hsn
      have hop := hnd.2.1
      rw [opN_3 hk3] at hop
      refine WrK_i64 (by omega) (by omega) ?_
      conv => whnf
      refine SlA_intro (s.length - 2) (by omega) (by omega) ?_
      conv => whnf
      refine WrK_i64 (by omega) (by omega) ?_
      conv => whnf
      refine IxA_intro (s.length - 2) (by omega) (by omega) ?_
      conv => whnf
      refine getK_intro (bool_get (by omega)) ?_
      conv => whnf
      refine brB (fun h3 => ?_) (fun h3 => ?_) <;> conv => whnf
      · refine WrK_i64 (by omega) (by omega) ?_
        conv => whnf
        refine IxA_intro (s.length - 1) (by omega) (by omega) ?_
        conv => whnf
        refine getK_intro (bool_get (by omega)) ?_
        conv => whnf
        rw [h3, Bool.true_and] at hsn
        refine AppK_intro (n := (stackN c (l.take (i + 1))).length) (by rw [hsn]; simp) (bool_put hsn) (by rw [hsn]; simp; omega) (by simp [D.width, Ty.width]) ?_
        conv => whnf
        refine WrK_i64 (by omega) (by omega) ?_
        conv => whnf
        exact ⟨i + 1, hil, Nat.sub_lt_sub_left hil (Nat.lt_succ_self i), rfl⟩
      · rw [h3, Bool.false_and] at hsn
        refine AppK_intro (n := (stackN c (l.take (i + 1))).length) (by rw [hsn]; simp) (bool_put hsn) (by rw [hsn]; simp; omega) (by simp [D.width, Ty.width]) ?_
        conv => whnf
        refine WrK_i64 (by omega) (by omega) ?_
        conv => whnf
        exact ⟨i + 1, hil, Nat.sub_lt_sub_left hil (Nat.lt_succ_self i), rfl⟩
    refine brEq (fun hk4 => ?_) (fun hk4 => ?_) <;> conv => whnf
    · rw [stackS_4 hk4] at hsn
      have hop := hnd.2.1
      rw [opN_4 hk4] at hop
      refine WrK_i64 (by omega) (by omega) ?_
      conv => whnf
      refine SlA_intro (s.length - 2) (by omega) (by omega) ?_
      conv => whnf
      refine WrK_i64 (by omega) (by omega) ?_
      conv => whnf
      refine IxA_intro (s.length - 2) (by omega) (by omega) ?_
      conv => whnf
      refine getK_intro (bool_get (by omega)) ?_
      conv => whnf
      refine brB (fun h3 => ?_) (fun h3 => ?_) <;> conv => whnf
      · rw [h3, Bool.true_or] at hsn
        refine AppK_intro (n := (stackN c (l.take (i + 1))).length) (by rw [hsn]; simp) (bool_put hsn) (by rw [hsn]; simp; omega) (by simp [D.width, Ty.width]) ?_
        conv => whnf
        refine WrK_i64 (by omega) (by omega) ?_
        conv => whnf
        exact ⟨i + 1, hil, Nat.sub_lt_sub_left hil (Nat.lt_succ_self i), rfl⟩
      · refine WrK_i64 (by omega) (by omega) ?_
        conv => whnf
        refine IxA_intro (s.length - 1) (by omega) (by omega) ?_
        conv => whnf
        refine getK_intro (bool_get (by omega)) ?_
        conv => whnf
        rw [h3, Bool.false_or] at hsn
        refine AppK_intro (n := (stackN c (l.take (i + 1))).length) (by rw [hsn]; simp) (bool_put hsn) (by rw [hsn]; simp; omega) (by simp [D.width, Ty.width]) ?_
        conv => whnf
        refine WrK_i64 (by omega) (by omega) ?_
        conv => whnf
        exact ⟨i + 1, hil, Nat.sub_lt_sub_left hil (Nat.lt_succ_self i), rfl⟩
    · exfalso
      have hop := hnd.1
      rcases opN_facts x.kind with h9 | h9 | h9 | h9 | h9 | h9
      · exact hk0 h9.1
      · exact hk1 h9.1
      · exact hk2 h9.1
      · exact hk3 h9.1
      · exact hk4 h9.1
      · omega

end Go.DL
