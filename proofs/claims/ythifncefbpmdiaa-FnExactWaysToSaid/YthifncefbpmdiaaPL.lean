/- Contracts of functions of the program, at this seat: what each call returns, by its arguments as data; each states its own conditions. -/
import Derived.Test.YthifncefbpmdiaaT
namespace Go.DL
set_option maxRecDepth 100000
set_option maxHeartbeats 2000000
set_option linter.unusedSimpArgs false
set_option linter.unusedVariables false
open Go.RowKit Go.Proofs Go.Proofs.Ythifncefbpmdiaa

/-! All ways from an item to another. -/
open Classical in
noncomputable def wayL (act : List LineV) (to : ByteArray) : Nat → ByteArray → Int → List Int
  | 0, _, _ => []
  | k + 1, s, m => if s = to then [m] else act.flatMap fun x => if x.parent = s then wayL act to k x.part (min (m * x.quantity) 1000000001) else []
def okW (n : Nat) (W : List Int) : Prop := (∀ v ∈ W, v ≤ 1000000000) ∧ (W = [] ∨ n + W.length ≤ 200)
open Classical in
noncomputable def wayI (act : List LineV) (to : ByteArray) (k : Nat) (s : ByteArray) (m : Int) (i : Nat) : List Int := (act.take i).flatMap fun x => if x.parent = s then wayL act to k x.part (min (m * x.quantity) 1000000001) else []
theorem wayI_y {act : List LineV} {to : ByteArray} {k : Nat} {s : ByteArray} {m : Int} {i : Nat} {x : LineV} (h : act[i]? = some x) (hp : x.parent = s) : wayI act to k s m (i + 1) = wayI act to k s m i ++ wayL act to k x.part (min (m * x.quantity) 1000000001) := by
  unfold wayI
  rw [List.take_add_one, h, List.flatMap_append]
  simp [hp]
theorem wayI_n {act : List LineV} {to : ByteArray} {k : Nat} {s : ByteArray} {m : Int} {i : Nat} {x : LineV} (h : act[i]? = some x) (hp : ¬ x.parent = s) : wayI act to k s m (i + 1) = wayI act to k s m i := by
  unfold wayI
  rw [List.take_add_one, h, List.flatMap_append]
  simp [hp]
theorem wayL_y {act : List LineV} {to : ByteArray} {k : Nat} {s : ByteArray} {m : Int} (h : s = to) : wayL act to (k + 1) s m = [m] := by rw [wayL, if_pos h]
theorem wayL_n {act : List LineV} {to : ByteArray} {k : Nat} {s : ByteArray} {m : Int} (h : ¬ s = to) : wayL act to (k + 1) s m = wayI act to k s m act.length := by rw [wayL, if_neg h, wayI, List.take_length]
theorem okW_app {n : Nat} {V W : List Int} (h : okW n V) : okW n (V ++ W) ↔ okW (n + V.length) W := by
  unfold okW
  constructor
  · rintro ⟨h1, h2⟩
    refine ⟨fun v hv => h1 v (List.mem_append_right _ hv), ?_⟩
    rcases h2 with h2 | h2
    · exact .inl (List.append_eq_nil_iff.1 h2).2
    · rw [List.length_append] at h2; exact .inr (by omega)
  · rintro ⟨h1, h2⟩
    refine ⟨fun v hv => (List.mem_append.1 hv).elim (h.1 v) (h1 v), ?_⟩
    rcases h2 with h2 | h2
    · rw [h2, List.append_nil]; exact h.2
    · rw [List.length_append]; exact .inr (by omega)
open Classical in
theorem okW_take {act : List LineV} {to : ByteArray} {k : Nat} {s : ByteArray} {m : Int} {n i : Nat} (h : okW n (wayI act to k s m act.length)) : okW n (wayI act to k s m i) := by
  have e : wayI act to k s m act.length = wayI act to k s m i ++ (act.drop i).flatMap (fun x => if x.parent = s then wayL act to k x.part (min (m * x.quantity) 1000000001) else []) := by
    unfold wayI
    rw [List.take_length]
    exact (congrArg (List.flatMap _) (List.take_append_drop i act).symm).trans List.flatMap_append
  rw [e] at h
  refine ⟨fun v hv => h.1 v (List.mem_append_left _ hv), ?_⟩
  rcases h.2 with h2 | h2
  · exact .inl (List.append_eq_nil_iff.1 h2).1
  · rw [List.length_append] at h2; exact .inr (by omega)

set_option maxHeartbeats 4000000 in
theorem c_impl_ways (act : List LineV) (hl : okL LineV.ok act) (h24 : act.length ≤ 24) (hq : ∀ x ∈ act, 1 ≤ x.quantity ∧ x.quantity ≤ 1000) (to : ByteArray) (f : ByteArray → Nat) (hf : ∀ x ∈ act, f x.part < f x.parent) :
    ∀ (k : Nat) (s : ByteArray) (m : Int) (acc : List Int) (B : List Int) (r : Bool), f s < k → 0 ≤ m → m ≤ 1000000001 → acc.length ≤ 200 →
      ((okW acc.length (wayL act to k s m) → B = acc ++ wayL act to k s m ∧ r = true) ∧ (¬ okW acc.length (wayL act to k s m) → B = ifP (s = to) (acc ++ [m]) [] ∧ r = false)) →
      MContract Try.prog 117 [.d (lD LineV.dat act), .d (sD s), .d (sD to), .d (iD m), .lv] ⟨3, 1, acc.map iD⟩ ⟨3, 1, B.map iD⟩ [.bool r]
  | 0, s, m, acc, B, r, h, _, _, _, _ => by omega
  | k + 1, s, m, acc, B, r, hk, hm0, hm1, hacc, hB => by
    have ih := c_impl_ways act hl h24 hq to f hf k
    refine contract_byM [300000 + 117] hma hTa Try.func117 (by kernel_rfl) (by kernel_rfl) ?_
    have e2 : (List.map LineV.dat act).length = act.length := List.length_map _
    have e3 : (List.map iD acc).length = acc.length := List.length_map _
    conv => whnf
    refine brStr (fun h1 => ?_) (fun h1 => ?_) <;> conv => whnf
    · rw [wayL_y h1] at hB
      have hap : acc.map iD ++ [iD m] = (acc ++ [m]).map iD := by simp
      refine AppK_intro (n := acc.length + 1) (xs' := (acc ++ [m]).map iD) (by rw [e3]; rfl) (by rw [← hap, e3, List.take_of_length_le (by rw [e3]; exact Nat.le_refl _)]) (by omega) (by simp [D.width, Ty.width]) ?_
      conv => whnf
      have e4 : okW acc.length [m] ↔ acc.length < 200 ∧ m ≤ 1000000000 := by unfold okW; simp; omega
      rw [e4] at hB
      refine brLt (fun h2 => ?_) (fun h2 => ?_) <;> conv => whnf
      · by_cases h3 : m ≤ 1000000000
        · have h4 := hB.1 ⟨by omega, h3⟩
          rw [h4.1, h4.2]
          exact ⟨⟨rfl, rfl, by simp, rfl⟩, congrArg (fun b => D.sc (.bool b)) (leB_iff.2 h3), trivial⟩
        · have h4 := hB.2 (fun h => h3 h.2)
          rw [h4.1, h4.2, ifP_t h1]
          exact ⟨⟨rfl, rfl, by simp, rfl⟩, congrArg (fun b => D.sc (.bool b)) (by rw [leB_eq]; simp; omega), trivial⟩
      · have h4 := hB.2 (fun h => by omega)
        rw [h4.1, h4.2, ifP_t h1]
        exact ⟨⟨rfl, rfl, by simp, rfl⟩, rfl, trivial⟩
    · rw [wayL_n h1, ifP_f h1] at hB
      refine LoopK_introR [300000 + 117] hma hTa [(0, .pl), (1, .pl), (2, .pl), (3, .pl), (4, .key 4), (30, .pl), (31, .pl), (32, .pl)] (fun i : Nat => ⟨[(0, .d (lD LineV.dat act)), (1, .d (sD s)), (2, .d (sD to)), (3, .d (iD m)), (4, .av 4 (acc ++ wayI act to k s m i).length), (30, .d (lD LineV.dat act)), (31, .d (iD (List.map LineV.dat act).length)), (32, .d (iD i))], [(4, some ⟨3, 1, (acc ++ wayI act to k s m i).map iD⟩)], []⟩) (fun i => i ≤ act.length ∧ okW acc.length (wayI act to k s m i)) (fun i => act.length - i) (by kernel_rfl) ?_ ?_
      · conv => whnf
        have e0 : wayI act to k s m 0 = [] := rfl
        exact ⟨0, ⟨by omega, by rw [e0]; exact ⟨by simp, .inl rfl⟩⟩, by dsimp only; rw [e0, List.append_nil]; rw [e3]; rfl⟩
      · intro i ⟨hi, hok⟩
        have hlen : (acc ++ wayI act to k s m i).length ≤ 200 := by
          rw [List.length_append]
          rcases hok.2 with h | h
          · rw [h]; simpa using hacc
          · exact h
        conv => whnf
        refine brLt (fun h => ?_) (fun h => ?_) <;> conv => whnf
        · refine IxK_mapLt _ rfl (by omega) (fun x hx => ?_)
          conv => whnf
          have hil := get_lt hx
          have hxq := hq x (get_mem hx)
          refine brNStr (fun h2 => ?_) (fun h2 => ?_) <;> conv => whnf
          · have e5 := wayI_y (k := k) (m := m) (to := to) hx h2
            have hp := mul_bound hm0 hm1 (by omega : (0 : Int) ≤ x.quantity) hxq.2
            refine WrK_i64 (by omega) (by omega) ?_
            conv => whnf
            refine NeedK_intro (by rw [List.length_map]) ?_
            conv => whnf
            have hfx := hf x (get_mem hx)
            rw [h2] at hfx
            have hm2 : 0 ≤ min (m * x.quantity) 1000000001 ∧ min (m * x.quantity) 1000000001 ≤ 1000000001 := by omega
            have ihx := fun B r => ih x.part (min (m * x.quantity) 1000000001) (acc ++ wayI act to k s m i) B r (by omega) hm2.1 hm2.2 hlen
            have hiff := okW_app (W := wayL act to k x.part (min (m * x.quantity) 1000000001)) hok
            rw [← e5, ← List.length_append] at hiff
            by_cases h5 : okW acc.length (wayI act to k s m (i + 1))
            · refine MCallK_intro (ihx _ true ⟨fun _ => ⟨rfl, rfl⟩, fun h => absurd (hiff.1 h5) h⟩) ?_
              conv => whnf
              refine WrK_i64 (by omega) (by omega) ?_
              conv => whnf
              exact ⟨i + 1, ⟨hil, h5⟩, Nat.sub_lt_sub_left hil (Nat.lt_succ_self i), by dsimp only; rw [e5, List.append_assoc]; simp; rfl⟩
            · refine MCallK_intro (ihx _ false ⟨fun h => absurd (hiff.2 h) h5, fun _ => ⟨rfl, rfl⟩⟩) ?_
              conv => whnf
              have hno : ¬ okW acc.length (wayI act to k s m act.length) := fun h => h5 (okW_take h)
              rw [(hB.2 hno).1, (hB.2 hno).2]
              exact ⟨⟨rfl, by decide⟩, rfl, trivial⟩
          · have e5 := wayI_n (k := k) (m := m) (to := to) hx h2
            refine WrK_i64 (by omega) (by omega) ?_
            conv => whnf
            exact ⟨i + 1, ⟨hil, by rw [e5]; exact hok⟩, Nat.sub_lt_sub_left hil (Nat.lt_succ_self i), by dsimp only; rw [e5]; rfl⟩
        · have ei : i = act.length := by omega
          subst ei
          rw [(hB.1 hok).1, (hB.1 hok).2]
          exact ⟨⟨rfl, rfl, by simp, rfl⟩, rfl, trivial⟩

end Go.DL
