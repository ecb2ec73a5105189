/- Contracts of functions of the program, at this seat: what each call returns, by its arguments as data; each states its own conditions. -/
import Derived.Test.YthifncefbpmdiaaPM
namespace Go.DL
set_option maxRecDepth 100000
set_option maxHeartbeats 2000000
set_option linter.unusedSimpArgs false
set_option linter.unusedVariables false
open Go.RowKit Go.Proofs Go.Proofs.Ythifncefbpmdiaa

noncomputable def waysV (cat : List ItemV) (lines : List LineV) (code part : ByteArray) (day : Int) (c : List PickV) : List Int := ifP (wayP cat lines code part day c) (wayS cat lines code part day c) []
theorem waysV_ok (cat : List ItemV) (_ : okL ItemV.ok cat) (lines : List LineV) (_ : okL LineV.ok lines) (code part : ByteArray) (day : Int) (c : List PickV) (_ : okL PickV.ok c) : okL okI (waysV cat lines code part day c) ∧ (waysV cat lines code part day c).length ≤ 200 := by
  by_cases h : wayP cat lines code part day c
  · rw [show waysV cat lines code part day c = _ from ifP_t h]
    have h1 := h.2.2.2.2
    have hl : (wayS cat lines code part day c).length ≤ 200 := by
      rcases h1.2 with e | e
      · rw [e]; simp
      · omega
    refine ⟨⟨by omega, fun v hv => ?_⟩, hl⟩
    have h2 := h1.1 v hv
    have h3 := wayS_nn h.1 v hv
    constructor <;> omega
  · rw [show waysV cat lines code part day c = _ from ifP_f h]; exact ⟨⟨by simp, by simp⟩, by simp⟩
theorem c_impl_WaysToV (cat : List ItemV) (hc : okL ItemV.ok cat) (lines : List LineV) (hl : okL LineV.ok lines) (code part : ByteArray) (day : Int) (_ : okI day) (c : List PickV) (hp : okL PickV.ok c) :
    Contract Try.prog 60 [.d (lD ItemV.dat cat), .d (lD LineV.dat lines), .d (sD code), .d (sD part), .d (iD day), .d (lD PickV.dat c)] (.tup (.fr ⟨3, 1, (waysV cat lines code part day c).map iD⟩) [bD (tr (wayP cat lines code part day c))]) := by
  refine c_impl_WaysTo0f cat hc lines hl code part day c hp _ ⟨fun h => ?_, fun h => ?_⟩
  · rw [tr_t h, show waysV cat lines code part day c = _ from ifP_t h]
  · rw [tr_f h, show waysV cat lines code part day c = _ from ifP_f h]; rfl

def capL (l : List Int) : List Int := l.take 201
theorem cap_len (l : List Int) : (capL l).length ≤ 201 := by unfold capL; rw [List.length_take]; omega
theorem cap_id {l : List Int} (h : l.length ≤ 201) : capL l = l := List.take_of_length_le h
theorem cap_cap (a b : List Int) : capL (capL a ++ b) = capL (a ++ b) := by
  unfold capL
  rw [List.take_append, List.take_append, List.take_take, Nat.min_self]
  congr 1
  rw [List.length_take]
  by_cases h : a.length ≤ 201
  · rw [Nat.min_eq_right h]
  · rw [Nat.min_eq_left (by omega)]
    rw [show 201 - 201 = 0 by omega, show 201 - a.length = 0 by omega]
theorem cap_full {a : List Int} (b : List Int) (h : a.length = 201) : capL (a ++ b) = a := by unfold capL; rw [← h, List.take_left']; rfl
open Classical in
noncomputable def wayJ (lines : List LineV) (day : Int) (c : List PickV) (to : ByteArray) (k : Nat) (s : ByteArray) (m : Int) (i : Nat) : List Int := (activeN day c (lines.take i)).flatMap fun x => if x.parent = s then wayL (activeN day c lines) to k x.part (min (m * x.quantity) 1000000001) else []
theorem wayJ_y {lines : List LineV} {day : Int} {c : List PickV} {to : ByteArray} {k : Nat} {s : ByteArray} {m : Int} {i : Nat} {x : LineV} (h : lines[i]? = some x) (ho : onP day c x) (hp : x.parent = s) : wayJ lines day c to k s m (i + 1) = wayJ lines day c to k s m i ++ wayL (activeN day c lines) to k x.part (min (m * x.quantity) 1000000001) := by
  unfold wayJ
  rw [show activeN day c (lines.take (i + 1)) = activeN day c (lines.take i) ++ [x] from filter_y (f := onB day c) h (tr_t ho), List.flatMap_append]
  simp [hp]
theorem wayJ_n {lines : List LineV} {day : Int} {c : List PickV} {to : ByteArray} {k : Nat} {s : ByteArray} {m : Int} {i : Nat} {x : LineV} (h : lines[i]? = some x) (hn : ¬ (onP day c x ∧ x.parent = s)) : wayJ lines day c to k s m (i + 1) = wayJ lines day c to k s m i := by
  unfold wayJ
  by_cases ho : onP day c x
  · rw [show activeN day c (lines.take (i + 1)) = activeN day c (lines.take i) ++ [x] from filter_y (f := onB day c) h (tr_t ho), List.flatMap_append]
    have hp : ¬ x.parent = s := fun e => hn ⟨ho, e⟩
    simp [hp]
  · rw [show activeN day c (lines.take (i + 1)) = activeN day c (lines.take i) from filter_n (f := onB day c) h (tr_f ho)]
theorem wayJ_full {lines : List LineV} {day : Int} {c : List PickV} {to : ByteArray} {k : Nat} {s : ByteArray} {m : Int} (h : ¬ s = to) : wayJ lines day c to k s m lines.length = wayL (activeN day c lines) to (k + 1) s m := by
  rw [wayL_n h, wayI, wayJ, List.take_length, List.take_length]
theorem enc_cap {w : Int} : encN (min w 1000000001) = encN w := by
  rcases Int.lt_or_le 1000000000 w with h | h
  · rw [enc_gt h, enc_gt (by omega)]
  · rw [show min w 1000000001 = w by omega]
set_option maxHeartbeats 4000000 in
theorem c_spec_l10Walk (cat : List ItemV) (lines : List LineV) (hl : okL LineV.ok lines) (h24 : lines.length ≤ 24) (day : Int) (c : List PickV) (hp : okL PickV.ok c) (hcd : ∀ x ∈ lines, isCondP x.when) (hq : ∀ x ∈ lines, 1 ≤ x.quantity ∧ x.quantity ≤ 1000) (to : ByteArray) (f : ByteArray → Nat) (hf : ∀ x ∈ activeN day c lines, f x.part < f x.parent) :
    ∀ (k : Nat) (s : ByteArray) (m : Int) (acc : List Int), f s < k → 0 ≤ m → m ≤ 1000000001 → acc.length ≤ 201 →
      MContract Try.prog 116 [.d (lD ItemV.dat cat), .d (lD LineV.dat lines), .d (sD s), .d (sD to), .d (iD day), .d (lD PickV.dat c), .d (iD (encN m)), .lv] ⟨3, 1, acc.map iD⟩ ⟨3, 1, (capL (acc ++ (wayL (activeN day c lines) to k s m).map encN)).map iD⟩ []
  | 0, s, m, acc, h, _, _, _ => by omega
  | k + 1, s, m, acc, hk, hm0, hm1, hacc => by
    have ih := c_spec_l10Walk cat lines hl h24 day c hp hcd hq to f hf k
    refine contract_byM [9, 100000 + 116, 800000 + 116] hma hTa Try.func116 (by kernel_rfl) (by kernel_rfl) ?_
    have e2 : (List.map LineV.dat lines).length = lines.length := List.length_map _
    have e3 : (List.map iD acc).length = acc.length := List.length_map _
    conv => whnf
    refine brLt (fun h0 => ?_) (fun h0 => ?_) <;> conv => whnf
    · rw [cap_full _ (show acc.length = 201 by omega)]
      exact ⟨rfl, rfl, rfl, rfl, rfl⟩
    refine brStr (fun h1 => ?_) (fun h1 => ?_) <;> conv => whnf
    · rw [wayL_y h1]
      have hap : acc.map iD ++ [iD (encN m)] = (acc ++ [encN m]).map iD := by simp
      refine AppK_intro (n := acc.length + 1) (xs' := (acc ++ [encN m]).map iD) (by rw [e3]; rfl) (by rw [← hap, e3, List.take_of_length_le (by rw [e3]; exact Nat.le_refl _)]) (by omega) (by simp [D.width, Ty.width]) ?_
      conv => whnf
      rw [List.map_cons, List.map_nil, cap_id (show (acc ++ [encN m]).length ≤ 201 by simp; omega)]
      exact ⟨rfl, rfl, rfl, by simp, rfl⟩
    · refine LoopK_introR [9, 100000 + 116, 800000 + 116] hma hTa [(0, .pl), (1, .pl), (2, .pl), (3, .pl), (4, .pl), (5, .pl), (6, .pl), (7, .key 7), (17, .pl)] (fun i : Nat => ⟨[(0, .d (lD ItemV.dat cat)), (1, .d (lD LineV.dat lines)), (2, .d (sD s)), (3, .d (sD to)), (4, .d (iD day)), (5, .d (lD PickV.dat c)), (6, .d (iD (encN m))), (7, .av 7 ((capL (acc ++ (wayJ lines day c to k s m i).map encN)).map iD).length), (17, .d (iD i))], [(7, some ⟨3, 1, (capL (acc ++ (wayJ lines day c to k s m i).map encN)).map iD⟩)], []⟩) (fun i => i ≤ lines.length) (fun i => lines.length - i) (by kernel_rfl) ?_ ?_
      · conv => whnf
        have e0 : capL (acc ++ (wayJ lines day c to k s m 0).map encN) = acc := by
          rw [show wayJ lines day c to k s m 0 = [] from rfl, List.map_nil, List.append_nil, cap_id hacc]
        exact ⟨0, by omega, by dsimp only; rw [e0]; rfl⟩
      · intro i hi
        have hcl := cap_len (acc ++ (wayJ lines day c to k s m i).map encN)
        conv => whnf
        refine brLt (fun h => ?_) (fun h => ?_) <;> conv => whnf
        rotate_left
        · have ei : i = lines.length := by omega
          subst ei
          rw [wayJ_full h1]
          exact ⟨rfl, rfl, rfl, rfl, rfl⟩
        refine IxK_mapLt _ rfl (by omega) (fun x hx => ?_)
        conv => whnf
        have hil := get_lt hx
        have hxo := hl.2 x (get_mem hx)
        have hxc := hcd x (get_mem hx)
        have hxq := hq x (get_mem hx)
        refine brStr (fun h2 => ?_) (fun h2 => ?_) <;> conv => whnf
        rotate_left
        · have e5 := wayJ_n (k := k) (m := m) (to := to) (day := day) (c := c) (s := s) hx (fun h => h2 h.2)
          refine WrK_i64 (by omega) (by omega) ?_
          conv => whnf
          exact ⟨i + 1, hil, Nat.sub_lt_sub_left hil (Nat.lt_succ_self i), by dsimp only; rw [e5]; rfl⟩
        refine IxK_map i rfl hx ?_
        conv => whnf
        refine CallK_tr (c_spec_l9On x hxo hxc day c hp) (fun h3 => ?_) (fun h3 => ?_) <;> conv => whnf
        rotate_left
        · have e5 := wayJ_n (k := k) (m := m) (to := to) (day := day) (c := c) (s := s) hx (fun h => h3 h.1)
          refine WrK_i64 (by omega) (by omega) ?_
          conv => whnf
          exact ⟨i + 1, hil, Nat.sub_lt_sub_left hil (Nat.lt_succ_self i), by dsimp only; rw [e5]; rfl⟩
        have e5 := wayJ_y (k := k) (m := m) (to := to) (day := day) (c := c) hx h3 h2
        have hp := mul_bound hm0 hm1 (by omega : (0 : Int) ≤ x.quantity) hxq.2
        have ht : Contract Try.prog 152 [.d (iD (encN m)), .d (iD x.quantity)] (.one (.d (iD (encN (min (m * x.quantity) 1000000001))))) := by
          rw [enc_cap]; exact c_spec_l10Times m hm0 x.quantity hxq.1 hxq.2
        have hfx := hf x (List.mem_filter.2 ⟨get_mem hx, tr_t h3⟩)
        rw [h2] at hfx
        have ihx := ih x.part (min (m * x.quantity) 1000000001) (capL (acc ++ (wayJ lines day c to k s m i).map encN)) (by omega) (by omega) (by omega) hcl
        rw [cap_cap, List.append_assoc, ← List.map_append, ← e5] at ihx
        refine IxK_map i rfl hx ?_
        conv => whnf
        refine IxK_map i rfl hx ?_
        conv => whnf
        refine CallK_intro ht ?_
        conv => whnf
        refine NeedK_intro rfl ?_
        conv => whnf
        refine MCallK_intro ihx ?_
        conv => whnf
        refine KeysK_intro (by kernel_rfl) ?_
        conv => whnf
        refine WrK_i64 (by omega) (by omega) ?_
        conv => whnf
        exact ⟨i + 1, hil, Nat.sub_lt_sub_left hil (Nat.lt_succ_self i), rfl⟩

set_option maxHeartbeats 4000000 in
theorem c_spec_WaysToV (cat : List ItemV) (hc : okL ItemV.ok cat) (lines : List LineV) (hl : okL LineV.ok lines) (code part : ByteArray) (day : Int) (_ : okI day) (c : List PickV) (hp : okL PickV.ok c) :
    Contract Try.prog 59 [.d (lD ItemV.dat cat), .d (lD LineV.dat lines), .d (sD code), .d (sD part), .d (iD day), .d (lD PickV.dat c)] (.tup (.own ⟨3, 1, (waysV cat lines code part day c).map iD⟩) [bD (tr (wayP cat lines code part day c))]) := by
  have no : ¬ wayP cat lines code part day c → waysV cat lines code part day c = [] ∧ tr (wayP cat lines code part day c) = false := fun h => ⟨ifP_f h, tr_f h⟩
  have yes : wayP cat lines code part day c → waysV cat lines code part day c = wayS cat lines code part day c ∧ tr (wayP cat lines code part day c) = true := fun h => ⟨ifP_t h, tr_t h⟩
  refine contract_byR [100000 + 116, 800000 + 116] hma hTa Try.func59 (by kernel_rfl) (by kernel_rfl) ?_
  have hl2 := hl
  obtain ⟨hlen, hok⟩ := hl2
  conv => whnf
  have e1 : (List.map ItemV.dat cat).length = cat.length := List.length_map _
  have e2 : (List.map LineV.dat lines).length = lines.length := List.length_map _
  refine CallK_tr (c_spec_IsBills _ hc _ hl) (fun hb => ?_) (fun hb => ?_) <;> conv => whnf
  rotate_left
  · rw [(no (fun h => hb h.1)).1, (no (fun h => hb h.1)).2]; exact ⟨⟨rfl, rfl, rfl, rfl⟩, rfl, trivial⟩
  refine CallK_intro (c_spec_FindItem _ hc _) ?_
  conv => whnf
  refine brLt (fun h1 => ?_) (fun h1 => ?_) <;> conv => whnf
  · have hn : ¬ wayP cat lines code part day c := fun h => absurd (show 0 ≤ findP (fun y : ItemV => y.code = code) cat from h.2.1) (by omega)
    rw [(no hn).1, (no hn).2]; exact ⟨⟨rfl, rfl, rfl, rfl⟩, rfl, trivial⟩
  refine CallK_intro (c_spec_FindItem _ hc _) ?_
  conv => whnf
  refine brLt (fun h2 => ?_) (fun h2 => ?_) <;> conv => whnf
  · have hn : ¬ wayP cat lines code part day c := fun h => absurd (show 0 ≤ findP (fun y : ItemV => y.code = part) cat from h.2.2.1) (by omega)
    rw [(no hn).1, (no hn).2]; exact ⟨⟨rfl, rfl, rfl, rfl⟩, rfl, trivial⟩
  refine brLt (fun h3 => ?_) (fun h3 => ?_) <;> conv => whnf
  · have hn : ¬ wayP cat lines code part day c := fun h => absurd h.2.2.2.1 (by omega)
    rw [(no hn).1, (no hn).2]; exact ⟨⟨rfl, rfl, rfl, rfl⟩, rfl, trivial⟩
  have h24 := hb.2.1
  have hA := act_ok hb day c
  have hw := wayF_ok hA
  have hwP : wayP cat lines code part day c ↔ okW 0 (wayS cat lines code part day c) := ⟨fun h => h.2.2.2.2, fun h => ⟨hb, h1, h2, by omega, h⟩⟩
  have hnn := wayS_nn (code := code) (part := part) (day := day) (c := c) hb
  have hwc := c_spec_l10Walk cat lines hl h24 day c hp (fun x hx => (hb.2.2.1 x hx).2.2.2.2.2.2) (fun x hx => (hb.2.2.1 x hx).2.2.2.1) part (wayF cat lines) hw.2 (cat.length + 1) code 1 [] (hw.1 code) (by omega) (by omega) (by simp)
  rw [enc_le (by omega : (1 : Int) ≤ 1000000000), List.nil_append] at hwc
  rw [show wayL (activeN day c lines) part (cat.length + 1) code 1 = wayS cat lines code part day c from rfl] at hwc
  generalize wayS cat lines code part day c = W at hwc hwP hnn yes
  have good : W.length ≤ 200 → (∀ v ∈ W, v ≤ 1000000000) → capL (W.map encN) = W := fun hl hv => by
    rw [cap_id (by rw [List.length_map]; omega)]
    conv => rhs; rw [← List.map_id W]
    exact List.map_congr_left fun v hv2 => enc_le (hv v hv2)
  have hcl := cap_len (W.map encN)
  have hmem : ∀ i v, (capL (W.map encN))[i]? = some v → ∃ u ∈ W, v = encN u := fun i v h => by
    have := List.mem_of_mem_take (List.mem_of_getElem? h)
    obtain ⟨u, hu, rfl⟩ := List.mem_map.1 this
    exact ⟨u, hu, rfl⟩
  have hpos : W.length ≤ 200 → ∀ v ∈ W, ∃ i, (capL (W.map encN))[i]? = some (encN v) := fun hl v hv => by
    rw [cap_id (by rw [List.length_map]; omega)]
    exact List.getElem?_of_mem (List.mem_map.2 ⟨v, hv, rfl⟩)
  have hlong : ¬ W.length ≤ 200 → (capL (W.map encN)).length = 201 := fun h => by unfold capL; rw [List.length_take, List.length_map]; omega
  have hshort : W.length ≤ 200 → (capL (W.map encN)).length = W.length := fun h => by rw [cap_id (by rw [List.length_map]; omega), List.length_map]
  refine NeedK_intro rfl ?_
  conv => whnf
  refine MCallK_intro hwc ?_
  conv => whnf
  generalize capL (W.map encN) = out at hcl hmem hpos hlong hshort good ⊢
  have e4 : (List.map iD out).length = out.length := List.length_map _
  refine LoopK_introR [100000 + 116, 800000 + 116] hma hTa [(14, .key 14), (15, .pl)] (fun i : Nat => ⟨[(14, .av 14 (out.map iD).length), (15, .d (iD i))], [(14, some ⟨3, 1, out.map iD⟩)], []⟩) (fun i => i ≤ out.length ∧ ∀ j v, j < i → out[j]? = some v → 0 ≤ v) (fun i => out.length - i) (by kernel_rfl) ?_ ?_
  · conv => whnf
    exact ⟨0, ⟨by omega, fun j v h => by omega⟩, rfl⟩
  · intro i ⟨hi, hall⟩
    conv => whnf
    refine brLt (fun h => ?_) (fun h => ?_) <;> conv => whnf
    · have hil : i < out.length := by omega
      have hv : out[i]? = some out[i] := List.getElem?_eq_getElem hil
      generalize out[i] = v at hv
      refine IxA_intro i rfl (by omega) ?_
      conv => whnf
      refine getK_intro (y := iD v) (by rw [List.getElem?_map, hv]; rfl) ?_
      conv => whnf
      refine brLt (fun h5 => ?_) (fun h5 => ?_) <;> conv => whnf
      · have hn : ¬ wayP cat lines code part day c := fun h => by
          have h6 := hwP.1 h
          obtain ⟨u, hu, e⟩ := hmem i v hv
          rw [enc_le (h6.1 u hu)] at e
          have := hnn u hu
          omega
        rw [(no hn).1, (no hn).2]; exact ⟨⟨rfl, rfl, rfl, rfl⟩, rfl, trivial⟩
      · refine WrK_i64 (by omega) (by omega) ?_
        conv => whnf
        refine ⟨i + 1, ⟨hil, fun j u hj hu => ?_⟩, Nat.sub_lt_sub_left hil (Nat.lt_succ_self i), rfl⟩
        by_cases e : j = i
        · subst e; rw [hv] at hu; cases hu; exact h5
        · exact hall j u (by omega) hu
    · refine brLt (fun h5 => ?_) (fun h5 => ?_) <;> conv => whnf
      · have hn : ¬ wayP cat lines code part day c := fun h => by
          have h6 := (hwP.1 h).2
          have h7 : W.length ≤ 200 := by
            rcases h6 with e | e
            · rw [e]; simp
            · omega
          have := hshort h7
          omega
        rw [(no hn).1, (no hn).2]; exact ⟨⟨rfl, rfl, rfl, rfl⟩, rfl, trivial⟩
      · have h7 : W.length ≤ 200 := by
          rcases Nat.lt_or_ge 200 W.length with h8 | h8
          · have := hlong (by omega); omega
          · exact h8
        have h8 : ∀ v ∈ W, v ≤ 1000000000 := fun v hv => by
          obtain ⟨j, hj⟩ := hpos h7 v hv
          have := hall j _ (by have := get_lt hj; omega) hj
          rcases enc_cases v with ⟨h9, _⟩ | ⟨_, e⟩
          · exact h9
          · omega
        have hy : wayP cat lines code part day c := hwP.2 ⟨h8, by
          rcases Nat.eq_zero_or_pos W.length with e | e
          · exact .inl (List.eq_nil_of_length_eq_zero e)
          · exact .inr (by omega)⟩
        rw [(yes hy).1, (yes hy).2, good h7 h8]
        exact ⟨⟨rfl, rfl, rfl, rfl⟩, rfl, trivial⟩

end Go.DL
