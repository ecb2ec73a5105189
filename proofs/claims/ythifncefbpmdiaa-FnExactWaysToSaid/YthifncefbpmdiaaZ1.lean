/- Contracts of functions of the program, at this seat: what each call returns, by its arguments as data; each states its own conditions. -/
import Derived.Test.YthifncefbpmdiaaY
namespace Go.DL
set_option maxRecDepth 100000
set_option maxHeartbeats 2000000
set_option linter.unusedSimpArgs false
set_option linter.unusedVariables false
open Go.RowKit Go.Proofs Go.Proofs.Ythifncefbpmdiaa

theorem bytes_irrefl : ∀ x : List UInt8, Op.bytesLess x x = false
  | [] => rfl
  | a :: x => by rw [Op.bytesLess, bytes_irrefl x]; simp
theorem bytes_trans : ∀ {x y z : List UInt8}, Op.bytesLess x y = true → Op.bytesLess y z = true → Op.bytesLess x z = true
  | [], [], _, h, _ => by simp [Op.bytesLess] at h
  | [], _ :: _, [], _, h => by simp [Op.bytesLess] at h
  | [], _ :: _, _ :: _, _, _ => by simp [Op.bytesLess]
  | _ :: _, [], _, h, _ => by simp [Op.bytesLess] at h
  | _ :: _, _ :: _, [], _, h => by simp [Op.bytesLess] at h
  | a :: x, b :: y, c :: z, h, k => by
    simp only [Op.bytesLess, Bool.or_eq_true, Bool.and_eq_true, decide_eq_true_eq, beq_iff_eq] at h k ⊢
    rcases h with h | ⟨h, h2⟩
    · rcases k with k | ⟨k, _⟩
      · exact .inl (UInt8.lt_trans h k)
      · subst k; exact .inl h
    · subst h
      rcases k with k | ⟨k, k2⟩
      · exact .inl k
      · exact .inr ⟨k, bytes_trans h2 k2⟩
theorem cat_asc {cat : List ItemV} (hc : isCatalogP cat) : ∀ (d i : Nat) (x y : ItemV), cat[i]? = some x → cat[i + d + 1]? = some y → bLt x.code y.code
  | 0, i, x, y, hx, hy => (hc.1 (i + 1) y hy).2 x (by omega) hx
  | d + 1, i, x, y, hx, hy => by
    have hi := get_lt hy
    have hz : cat[i + d + 1]? = some (cat[i + d + 1]'(by omega)) := List.getElem?_eq_getElem (by omega)
    exact bytes_trans (cat_asc hc d i x _ hx hz) ((hc.1 (i + d + 1 + 1) y hy).2 _ (by omega) hz)
theorem cat_inj {cat : List ItemV} (hc : isCatalogP cat) {i j : Nat} {x y : ItemV} (hx : cat[i]? = some x) (hy : cat[j]? = some y) (e : x.code = y.code) : i = j := by
  rcases Nat.lt_trichotomy i j with h | h | h
  · have := cat_asc hc (j - i - 1) i x y hx (by rw [show i + (j - i - 1) + 1 = j by omega]; exact hy)
    unfold bLt at this
    rw [e, bytes_irrefl] at this; cases this
  · exact h
  · have := cat_asc hc (i - j - 1) j y x hy (by rw [show j + (i - j - 1) + 1 = i by omega]; exact hx)
    unfold bLt at this
    rw [e, bytes_irrefl] at this; cases this
theorem idx_at {cat : List ItemV} {s : ByteArray} (h : 0 ≤ idxOf cat s) : ∃ y, cat[(idxOf cat s).toNat]? = some y ∧ y.code = s := by
  rcases findP_cases (fun y : ItemV => y.code = s) cat with ⟨h1, _⟩ | ⟨i, x, h1, h2, h3, _⟩
  · unfold idxOf at h; omega
  · unfold idxOf
    rw [h1]
    exact ⟨x, by simpa using h2, h3⟩
theorem idx_code {cat : List ItemV} (hc : isCatalogP cat) {i : Nat} {y : ItemV} (hy : cat[i]? = some y) {s : ByteArray} (hs : 0 ≤ idxOf cat s) : s = y.code ↔ (idxOf cat s).toNat = i := by
  obtain ⟨z, hz, hz2⟩ := idx_at hs
  constructor
  · intro e
    exact cat_inj hc hz hy (by rw [hz2, e])
  · intro e
    rw [e, hy] at hz; cases hz
    exact hz2.symm
/-! Strict levels: no item is a part of itself. -/
theorem lev_out {l : List (Nat × Nat)} {n : Nat} (hn : ∀ e ∈ l, e.1 < n ∧ e.2 < n) (k j : Nat) (hj : n ≤ j) : levK l k j = 0 := by
  have h0 := (tight_lev l k).1 j
  rcases Int.lt_or_le 0 (levK l k j) with h | h
  · obtain ⟨e, he, h1, _⟩ := (tight_lev l k).2 j h
    have := (hn e he).2
    omega
  · omega
def sumTo (f : Nat → Int) : Nat → Int
  | 0 => 0
  | n + 1 => sumTo f n + f n
theorem sumTo_le {f g : Nat → Int} (h : ∀ j, f j ≤ g j) : ∀ n, sumTo f n ≤ sumTo g n
  | 0 => Int.le_refl _
  | n + 1 => Int.add_le_add (sumTo_le h n) (h n)
theorem sumTo_lt {f g : Nat → Int} (h : ∀ j, f j ≤ g j) {i : Nat} (hi : f i < g i) : ∀ n, i < n → sumTo f n + 1 ≤ sumTo g n
  | 0, h => by omega
  | n + 1, hin => by
    have h1 := sumTo_le h n
    have h2 := h n
    simp only [sumTo]
    by_cases e : i = n
    · subst e; omega
    · have := sumTo_lt h hi n (by omega); omega
theorem sumTo_bound {f : Nat → Int} {N : Int} (h : ∀ j, f j ≤ N) : ∀ n : Nat, sumTo f n ≤ n * N
  | 0 => by simp [sumTo]
  | n + 1 => by
    have h1 := sumTo_bound h n
    have h2 := h n
    simp only [sumTo]
    rw [show ((n + 1 : Nat) : Int) = (n : Int) + 1 from rfl, Int.add_mul, Int.one_mul]
    omega
theorem acyc_strict {l : List (Nat × Nat)} {n : Nat} {g : Nat → Int} (N : Nat) (hn : ∀ e ∈ l, e.1 < n ∧ e.2 < n) (hg : ∀ e ∈ l, g e.1 < g e.2) (h0 : ∀ j, 0 ≤ g j) (hN : ∀ j, g j ≤ N) : acycL l n := by
  rcases Classical.em (∃ K, levK l (K + 1) = levK l K) with ⟨K, hK⟩ | hne
  · exact (acyc_of hn hK).1
  · exfalso
    have hne : ∀ K, levK l (K + 1) ≠ levK l K := fun K h => hne ⟨K, h⟩
    have hgrow : ∀ K : Nat, (K : Int) ≤ sumTo (levK l K) n := by
      intro K
      induction K with
      | zero => 
        have := sumTo_le (f := fun _ => 0) (g := levK l 0) (fun j => (tight_lev l 0).1 j) n
        have h2 : ∀ m, sumTo (fun _ => 0) m = 0 := fun m => by induction m with | zero => rfl | succ m ih => simp [sumTo, ih]
        rw [h2] at this
        exact this
      | succ K ih =>
        have hex : ∃ i, levK l K i < levK l (K + 1) i := by
          apply Classical.byContradiction
          intro hno
          refine hne K (funext fun j => ?_)
          have h1 := lev_mono l K j
          have h2 : ¬ levK l K j < levK l (K + 1) j := fun h => hno ⟨j, h⟩
          omega
        obtain ⟨i, hi⟩ := hex
        have hin : i < n := by
          rcases Nat.lt_or_ge i n with h | h
          · exact h
          · rw [lev_out hn K i h, lev_out hn (K + 1) i h] at hi; omega
        have := sumTo_lt (lev_mono l K) hi n hin
        omega
    have h1 := hgrow (n * N + 1)
    have h2 := sumTo_bound (f := levK l (n * N + 1)) (N := N) (fun j => Int.le_trans (lev_le hg h0 _ j) (hN j)) n
    have h3 : ((n * N : Nat) : Int) = (n : Int) * (N : Int) := Int.natCast_mul _ _
    omega
theorem lev_lt {l : List (Nat × Nat)} {K n : Nat} (h0 : 0 < n) (hn : ∀ e ∈ l, e.1 < n ∧ e.2 < n) (hs : levK l (K + 1) = levK l K) (v : Nat) : levK l K v < n := by
  rcases Int.lt_or_le (levK l K v) n with h | h
  · exact h
  · exfalso
    have hfix := passL_fix (l := l) (f := levK l K) hs
    have chain : ∀ (m : Nat) (v : Nat), levK l K v = (m : Int) + 1 → ∀ i, i ≤ m + 1 → ∃ u, levK l K u = (i : Int) ∧ u < n := by
      intro m
      induction m with
      | zero =>
        intro v hv i hi
        obtain ⟨e, he, h1, h2⟩ := (tight_lev l K).2 v (by omega)
        have h3 := hfix e he
        have h4 := (tight_lev l K).1 e.1
        rw [h1] at h3
        rcases Nat.lt_or_ge i 1 with h5 | h5
        · exact ⟨e.1, by omega, (hn e he).1⟩
        · exact ⟨v, by omega, by rw [← h1]; exact (hn e he).2⟩
      | succ m ih =>
        intro v hv i hi
        obtain ⟨e, he, h1, h2⟩ := (tight_lev l K).2 v (by omega)
        have h3 := hfix e he
        rw [h1] at h3
        rcases Nat.lt_or_ge i (m + 2) with h5 | h5
        · exact ih e.1 (by omega) i (by omega)
        · exact ⟨v, by omega, by rw [← h1]; exact (hn e he).2⟩
    obtain ⟨m, hm⟩ : ∃ m : Nat, levK l K v = (m : Int) + 1 := ⟨(levK l K v - 1).toNat, by omega⟩
    have hc := chain m v hm
    have hmn : n ≤ m + 1 := by omega
    let g : Nat → Nat := fun i => if h : i ≤ m + 1 then Classical.choose (hc i h) else 0
    have hg : ∀ i, i ≤ n → levK l K (g i) = (i : Int) ∧ g i < n := fun i hi => by
      have h1 : i ≤ m + 1 := by omega
      have := Classical.choose_spec (hc i h1)
      simpa [g, h1] using this
    refine pigeon n g (fun i hi => (hg i hi).2) (fun i j hi hj e => ?_)
    have h1 := (hg i hi).1
    have h2 := (hg j hj).1
    rw [e] at h1
    omega
/-! How many of an item are in another one. -/
abbrev EQ := Nat × Nat × Int
def partW (E : List EQ) (S : Nat → Int) (i : Nat) : Int := sumI (fun e : EQ => if e.1 = i then e.2.2 * S e.2.1 else 0) E
def waysF (E : List EQ) (b : Nat) : Nat → Nat → Int
  | 0 => fun _ => 0
  | k + 1 => fun i => if i = b then 1 else partW E (waysF E b k) i
theorem sumI_congr {α : Type} {f g : α → Int} : ∀ {l : List α}, (∀ x ∈ l, f x = g x) → sumI f l = sumI g l
  | [], _ => rfl
  | x :: l, h => by rw [sumI_cons, sumI_cons, h x (by simp), sumI_congr fun y hy => h y (by simp [hy])]
theorem sumI_nonneg {α : Type} {f : α → Int} : ∀ {l : List α}, (∀ x ∈ l, 0 ≤ f x) → 0 ≤ sumI f l
  | [], _ => Int.le_refl _
  | x :: l, h => by
    have h1 := h x (by simp)
    have h2 := sumI_nonneg (l := l) fun y hy => h y (by simp [hy])
    rw [sumI_cons]; omega
theorem sumI_zero {α : Type} {f : α → Int} : ∀ {l : List α}, (∀ x ∈ l, f x = 0) → sumI f l = 0
  | [], _ => rfl
  | x :: l, h => by rw [sumI_cons, h x (by simp), sumI_zero fun y hy => h y (by simp [hy])]; rfl
theorem sumI_filter {α : Type} {f : α → Int} {p : α → Bool} : ∀ {l : List α}, sumI f (l.filter p) = sumI (fun x => if p x = true then f x else 0) l
  | [] => rfl
  | x :: l => by
    rw [List.filter_cons, sumI_cons]
    split
    · rw [sumI_cons, sumI_filter]
    · rw [sumI_filter]; omega
theorem sumI_map {α β : Type} {f : β → Int} {g : α → β} : ∀ {l : List α}, sumI f (l.map g) = sumI (fun x => f (g x)) l
  | [] => rfl
  | x :: l => by rw [List.map_cons, sumI_cons, sumI_cons, sumI_map]
structure SolW (E : List EQ) (b : Nat) (f : Nat → Int) (S : Nat → Int) : Prop where
  nn : ∀ i, 0 ≤ S i
  at_b : S b = 1
  eq : ∀ i, i ≠ b → S i = partW E S i
  up : ∀ i, f b < f i → S i = 0
theorem ways_nn {E : List EQ} (hq : ∀ e ∈ E, 0 ≤ e.2.2) (b : Nat) : ∀ k i, 0 ≤ waysF E b k i
  | 0, _ => Int.le_refl _
  | k + 1, i => by
    show 0 ≤ if i = b then 1 else partW E (waysF E b k) i
    split
    · omega
    · refine sumI_nonneg fun e he => ?_
      split
      · exact Int.mul_nonneg (hq e he) (ways_nn hq b k _)
      · omega
theorem ways_up {E : List EQ} {f : Nat → Int} (hf : ∀ e ∈ E, f e.1 < f e.2.1) (b : Nat) : ∀ k i, f b < f i → waysF E b k i = 0
  | 0, _, _ => rfl
  | k + 1, i, h => by
    show (if i = b then 1 else partW E (waysF E b k) i) = 0
    rw [if_neg (by rintro rfl; omega)]
    refine sumI_zero fun e he => ?_
    split
    · rename_i e1
      subst e1
      have := hf e he
      rw [ways_up hf b k e.2.1 (by omega), Int.mul_zero]
    · rfl
theorem ways_stab {E : List EQ} {f : Nat → Int} {n : Int} (hf : ∀ e ∈ E, f e.1 < f e.2.1) (b : Nat) : ∀ (m : Nat) (i k k' : Nat), n - f i < m → m ≤ k → m ≤ k' → (∀ j, f j ≤ n) → waysF E b k i = waysF E b k' i
  | 0, i, k, k', h, _, _, hb => by have := hb i; omega
  | m + 1, i, k + 1, k' + 1, h, h1, h2, hb => by
    show (if i = b then 1 else partW E (waysF E b k) i) = (if i = b then 1 else partW E (waysF E b k') i)
    split
    · rfl
    · refine sumI_congr fun e he => ?_
      split
      · rename_i e1
        have := hf e he
        rw [e1] at this
        rw [ways_stab hf b m e.2.1 k k' (by omega) (by omega) (by omega) hb]
      · rfl
noncomputable def solW (E : List EQ) (b n : Nat) : Nat → Int := waysF E b (n + 1)
theorem sol_ok {E : List EQ} {f : Nat → Int} {n : Nat} (hf : ∀ e ∈ E, f e.1 < f e.2.1) (h0 : ∀ j, 0 ≤ f j) (hb : ∀ j, f j ≤ n) (hq : ∀ e ∈ E, 0 ≤ e.2.2) (b : Nat) : SolW E b f (solW E b n) := by
  refine ⟨ways_nn hq b _, ?_, fun i hi => ?_, ways_up hf b _⟩
  · show (if b = b then (1 : Int) else _) = 1
    rw [if_pos rfl]
  · show (if i = b then 1 else partW E (waysF E b n) i) = _
    rw [if_neg hi]
    refine sumI_congr fun e he => ?_
    split
    · rename_i e1
      have h1 := hf e he
      have h2 := h0 e.1
      rw [show waysF E b n e.2.1 = solW E b n e.2.1 from ways_stab (n := n) hf b n e.2.1 n (n + 1) (by omega) (by omega) (by omega) hb]
    · rfl
noncomputable def edQ (cat : List ItemV) (lines : List LineV) : List EQ := lines.map fun x => ((idxOf cat x.parent).toNat, (idxOf cat x.part).toNat, x.quantity)
/-- The lines that are in force are right ones. -/
structure ActOK (cat : List ItemV) (lines act : List LineV) : Prop where
  ct : isCatalogP cat
  sub : ∀ x ∈ act, x ∈ lines
  line : ∀ x ∈ lines, isLineP cat x
  acyc : acycP cat lines
theorem ActOK.strict {cat : List ItemV} {lines act : List LineV} (h : ActOK cat lines act) : ∀ e ∈ edQ cat act, levOf cat lines e.1 < levOf cat lines e.2.1 := fun e he => by
  obtain ⟨x, hx, rfl⟩ := List.mem_map.1 he
  exact passL_fix (l := edgesOf cat lines) (f := levOf cat lines) h.acyc _ (List.mem_map.2 ⟨x, h.sub x hx, rfl⟩)
theorem ActOK.acycA {cat : List ItemV} {lines act : List LineV} (h : ActOK cat lines act) : acycP cat act := by
  have hin := linesIn_of h.line
  refine acyc_strict (g := levOf cat lines) cat.length (edges_lt fun x hx => hin x (h.sub x hx)) (fun e he => ?_) (fun j => (tight_lev _ _).1 j) (fun j => lev_small (edges_lt hin) h.acyc j)
  obtain ⟨x, hx, rfl⟩ := List.mem_map.1 he
  exact passL_fix (l := edgesOf cat lines) (f := levOf cat lines) h.acyc _ (List.mem_map.2 ⟨x, h.sub x hx, rfl⟩)
theorem ActOK.self {cat : List ItemV} {lines act : List LineV} (h : ActOK cat lines act) : ActOK cat act act := ⟨h.ct, fun _ hx => hx, fun x hx => h.line x (h.sub x hx), h.acycA⟩
theorem ActOK.qty {cat : List ItemV} {lines act : List LineV} (h : ActOK cat lines act) : ∀ e ∈ edQ cat act, 0 ≤ e.2.2 := fun e he => by
  obtain ⟨x, hx, rfl⟩ := List.mem_map.1 he
  have := (h.line x (h.sub x hx)).2.2.2.1
  unfold inP at this
  show 0 ≤ x.quantity
  omega
theorem ActOK.sol {cat : List ItemV} {lines act : List LineV} (h : ActOK cat lines act) (b : Nat) : SolW (edQ cat act) b (levOf cat lines) (solW (edQ cat act) b cat.length) :=
  sol_ok h.strict (fun j => (tight_lev _ _).1 j) (fun j => lev_small (edges_lt (linesIn_of h.line)) h.acyc j) h.qty b
theorem act_ok {cat : List ItemV} {lines : List LineV} (h : isBillsP cat lines) (day : Int) (c : List PickV) : ActOK cat lines (activeN day c lines) := ⟨h.1, active_sub, h.2.2.1, h.2.2.2⟩
/-- sums that stop at a limit. -/
@[irreducible] def capN (x : Int) : Int := if 1000000001 < x then 1000000001 else x
theorem cap_step {a c b : Int} (ha : 0 ≤ a) (hb : 0 ≤ b) (hc : 1 ≤ c) : capN (capN a + c * capN b) = capN (a + c * b) := by
  have h1 := mul_ge hc hb
  have h3 : 0 ≤ c * b := by omega
  unfold capN
  by_cases hb1 : 1000000001 < b
  · rw [if_pos hb1]
    have h2 := mul_ge hc (show (0 : Int) ≤ 1000000001 by decide)
    (repeat' split) <;> omega
  · rw [if_neg hb1]
    (repeat' split) <;> omega
theorem cap_bound {a : Int} (ha : 0 ≤ a) : 0 ≤ capN a ∧ capN a ≤ 1000000001 := by unfold capN; split <;> omega
noncomputable def partU (cat : List ItemV) (act : List LineV) (S : Nat → Int) (i k : Nat) : Int := partW ((edQ cat act).take k) S i
theorem partU_step {cat : List ItemV} {act : List LineV} {S : Nat → Int} {i k : Nat} {x : LineV} (hx : act[k]? = some x) : partU cat act S i (k + 1) = partU cat act S i k + (if (idxOf cat x.parent).toNat = i then x.quantity * S (idxOf cat x.part).toNat else 0) := by
  have he : (edQ cat act)[k]? = some ((idxOf cat x.parent).toNat, (idxOf cat x.part).toNat, x.quantity) := by simp [edQ, hx]
  unfold partU partW
  rw [sumI_take he]
theorem partU_full (cat : List ItemV) (act : List LineV) (S : Nat → Int) (i : Nat) : partU cat act S i act.length = partW (edQ cat act) S i := by
  unfold partU
  rw [List.take_of_length_le (by simp [edQ])]
theorem partU_nn {cat : List ItemV} {lines act : List LineV} (h : ActOK cat lines act) {S : Nat → Int} (hS : ∀ i, 0 ≤ S i) (i k : Nat) : 0 ≤ partU cat act S i k := by
  refine sumI_nonneg fun e he => ?_
  split
  · exact Int.mul_nonneg (h.qty e (List.mem_of_mem_take he)) (hS _)
  · omega
theorem partU_zero (cat : List ItemV) (act : List LineV) (S : Nat → Int) (i : Nat) : partU cat act S i 0 = 0 := by simp [partU, partW, sumI]
theorem cap_one : capN 1 = 1 := by unfold capN; rfl
theorem cap_zero : capN 0 = 0 := by unfold capN; rfl
theorem cap_min (x : Int) : min x 1000000001 = capN x := by unfold capN; split <;> omega
noncomputable def qtyS (cat : List ItemV) (lines : List LineV) (part : ByteArray) (day : Int) (c : List PickV) : Nat → Int := solW (edQ cat (activeN day c lines)) (idxOf cat part).toNat cat.length
def qtyP (cat : List ItemV) (lines : List LineV) (code part : ByteArray) (day : Int) (c : List PickV) : Prop := isBillsP cat lines ∧ 0 ≤ idxOf cat code ∧ 0 ≤ idxOf cat part ∧ qtyS cat lines part day c (idxOf cat code).toNat ≤ 1000000000
noncomputable def qtyN (cat : List ItemV) (lines : List LineV) (code part : ByteArray) (day : Int) (c : List PickV) : Int := ifP (qtyP cat lines code part day c) (qtyS cat lines part day c (idxOf cat code).toNat) 0
theorem sumsF_ext {n : Nat} {f g : Nat → Int} (h : ∀ j, j < n → f j = g j) : arrF n f = arrF n g := arrF_congr h

end Go.DL
