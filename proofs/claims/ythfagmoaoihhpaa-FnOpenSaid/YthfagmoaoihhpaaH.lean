/- Contracts of functions of the program, at this seat: what each call returns, by its arguments as data; each states its own conditions. -/
import Derived.Test.YthfagmoaoihhpaaG
namespace Go.DL
set_option maxRecDepth 100000
set_option maxHeartbeats 2000000
set_option linter.unusedSimpArgs false
set_option linter.unusedVariables false
open Go.RowKit Go.Proofs Go.Proofs.Ythfagmoaoihhpaa

/-! The longest ways down, by rounds. -/
def stepL (f : Nat → Int) (e : Nat × Nat) : Nat → Int := if f e.2 ≤ f e.1 then (fun j => if j = e.2 then f e.1 + 1 else f j) else f
def passL (l : List (Nat × Nat)) (f : Nat → Int) : Nat → Int := l.foldl stepL f
def levK (l : List (Nat × Nat)) : Nat → Nat → Int
  | 0 => fun _ => 0
  | k + 1 => passL l (levK l k)
theorem stepL_y {f : Nat → Int} {e : Nat × Nat} (h : f e.2 ≤ f e.1) (j : Nat) : stepL f e j = if j = e.2 then f e.1 + 1 else f j := by unfold stepL; rw [if_pos h]
theorem stepL_n {f : Nat → Int} {e : Nat × Nat} (h : f e.1 < f e.2) : stepL f e = f := by unfold stepL; rw [if_neg (by omega)]
theorem stepL_ge (f : Nat → Int) (e : Nat × Nat) (j : Nat) : f j ≤ stepL f e j := by
  by_cases h : f e.2 ≤ f e.1
  · rw [stepL_y h]; split
    · rename_i e1; subst e1; omega
    · omega
  · rw [stepL_n (by omega)]; omega
theorem passL_ge : ∀ (l : List (Nat × Nat)) (f : Nat → Int) (j : Nat), f j ≤ passL l f j
  | [], f, j => by simp [passL]
  | e :: l, f, j => Int.le_trans (stepL_ge f e j) (passL_ge l (stepL f e) j)
theorem passL_cons (e : Nat × Nat) (l : List (Nat × Nat)) (f : Nat → Int) : passL (e :: l) f = passL l (stepL f e) := rfl
theorem passL_fix : ∀ {l : List (Nat × Nat)} {f : Nat → Int}, passL l f = f → ∀ e ∈ l, f e.1 < f e.2
  | [], _, _, e, he => by simp at he
  | d :: l, f, h, e, he => by
    rw [passL_cons] at h
    have hd : f d.1 < f d.2 := by
      rcases Int.lt_or_le (f d.1) (f d.2) with h1 | h1
      · exact h1
      · exfalso
        have h2 := passL_ge l (stepL f d) d.2
        rw [h, stepL_y h1, if_pos rfl] at h2
        omega
    rw [stepL_n hd] at h
    rcases List.mem_cons.1 he with rfl | he
    · exact hd
    · exact passL_fix h e he
theorem passL_of_fix : ∀ {l : List (Nat × Nat)} {f : Nat → Int}, (∀ e ∈ l, f e.1 < f e.2) → passL l f = f
  | [], _, _ => rfl
  | d :: l, f, h => by
    rw [passL_cons, stepL_n (h d (by simp))]
    exact passL_of_fix (fun e he => h e (by simp [he]))
theorem passL_le {g : Nat → Int} : ∀ {l : List (Nat × Nat)} {f : Nat → Int}, (∀ e ∈ l, g e.1 < g e.2) → (∀ j, f j ≤ g j) → ∀ j, passL l f j ≤ g j
  | [], _, _, hf, j => hf j
  | d :: l, f, h, hf, j => by
    rw [passL_cons]
    refine passL_le (fun e he => h e (by simp [he])) (fun i => ?_) j
    have h1 := h d (by simp)
    by_cases hd : f d.2 ≤ f d.1
    · rw [stepL_y hd]; split
      · rename_i e1; subst e1; have := hf d.1; omega
      · exact hf i
    · rw [stepL_n (by omega)]; exact hf i
theorem passL_edge : ∀ {l : List (Nat × Nat)} {f : Nat → Int} {e : Nat × Nat}, e ∈ l → f e.1 + 1 ≤ passL l f e.2
  | [], _, _, he => by simp at he
  | d :: l, f, e, he => by
    rw [passL_cons]
    rcases List.mem_cons.1 he with rfl | he
    · refine Int.le_trans ?_ (passL_ge l _ _)
      by_cases hd : f e.2 ≤ f e.1
      · rw [stepL_y hd, if_pos rfl]; omega
      · rw [stepL_n (by omega)]; omega
    · have := stepL_ge f d e.1
      have := passL_edge (f := stepL f d) he
      omega
def tightL (l : List (Nat × Nat)) (f : Nat → Int) : Prop := (∀ j, 0 ≤ f j) ∧ ∀ v, 0 < f v → ∃ e ∈ l, e.2 = v ∧ f v ≤ f e.1 + 1
theorem tight_step {l : List (Nat × Nat)} {f : Nat → Int} {e : Nat × Nat} (he : e ∈ l) (h : tightL l f) : tightL l (stepL f e) := by
  refine ⟨fun j => Int.le_trans (h.1 j) (stepL_ge f e j), fun v hv => ?_⟩
  by_cases hd : f e.2 ≤ f e.1
  · by_cases e1 : v = e.2
    · subst e1
      refine ⟨e, he, rfl, ?_⟩
      have := stepL_ge f e e.1
      rw [stepL_y hd, if_pos rfl]; omega
    · rw [stepL_y hd, if_neg e1] at hv ⊢
      obtain ⟨d, h1, h2, h3⟩ := h.2 v hv
      have := stepL_ge f e d.1
      exact ⟨d, h1, h2, by omega⟩
  · rw [stepL_n (by omega)] at hv ⊢
    exact h.2 v hv
theorem tight_pass {l : List (Nat × Nat)} : ∀ {m : List (Nat × Nat)} {f : Nat → Int}, (∀ e ∈ m, e ∈ l) → tightL l f → tightL l (passL m f)
  | [], _, _, h => h
  | e :: m, f, hm, h => by rw [passL_cons]; exact tight_pass (fun d hd => hm d (by simp [hd])) (tight_step (hm e (by simp)) h)
theorem tight_lev (l : List (Nat × Nat)) : ∀ k, tightL l (levK l k)
  | 0 => ⟨fun _ => Int.le_refl _, fun v hv => by simp [levK] at hv⟩
  | k + 1 => tight_pass (fun _ h => h) (tight_lev l k)
theorem lev_mono (l : List (Nat × Nat)) (k j : Nat) : levK l k j ≤ levK l (k + 1) j := passL_ge l _ j
theorem lev_le {l : List (Nat × Nat)} {g : Nat → Int} (hg : ∀ e ∈ l, g e.1 < g e.2) (h0 : ∀ j, 0 ≤ g j) : ∀ k j, levK l k j ≤ g j
  | 0, j => h0 j
  | k + 1, j => passL_le hg (lev_le hg h0 k) j
theorem lev_reach {l : List (Nat × Nat)} {K : Nat} (hs : levK l (K + 1) = levK l K) : ∀ (k : Nat) (v : Nat), levK l K v ≤ k → levK l k v = levK l K v
  | 0, v, hv => by
    have := (tight_lev l K).1 v
    show (0 : Int) = levK l K v
    omega
  | k + 1, v, hv => by
    have hfix := passL_fix (l := l) (f := levK l K) hs
    have hle := lev_le hfix (tight_lev l K).1 (k + 1) v
    rcases Int.lt_or_le (levK l K v) (k + 1) with h | h
    · have h1 := lev_reach hs k v (by omega)
      have h2 := lev_mono l k v
      omega
    · obtain ⟨e, he, h1, h2⟩ := (tight_lev l K).2 v (by omega)
      have h3 := hfix e he
      rw [h1] at h3
      have h4 := lev_reach hs k e.1 (by omega)
      have h5 := passL_edge (f := levK l k) he
      rw [h1] at h5
      have h6 : passL l (levK l k) v = levK l (k + 1) v := rfl
      omega
theorem pigeon : ∀ (n : Nat) (g : Nat → Nat), (∀ i, i ≤ n → g i < n) → (∀ i j, i ≤ n → j ≤ n → g i = g j → i = j) → False
  | 0, g, h, _ => by have := h 0 (Nat.le_refl 0); omega
  | n + 1, g, h, hi => by
    refine pigeon n (fun i => if g i = n then g (n + 1) else g i) (fun i hin => ?_) (fun i j hin hjn he => ?_)
    · have h1 := h i (by omega)
      have h2 := h (n + 1) (by omega)
      split
      · rename_i e
        rcases Nat.lt_or_ge (g (n + 1)) n with h3 | h3
        · exact h3
        · have := hi i (n + 1) (by omega) (by omega) (by omega)
          omega
      · omega
    · split at he <;> split at he
      · exact hi i j (by omega) (by omega) (by omega)
      · have := hi (n + 1) j (by omega) (by omega) he
        omega
      · have := hi i (n + 1) (by omega) (by omega) he
        omega
      · exact hi i j (by omega) (by omega) he
theorem lev_small {l : List (Nat × Nat)} {K n : Nat} (hn : ∀ e ∈ l, e.1 < n ∧ e.2 < n) (hs : levK l (K + 1) = levK l K) (v : Nat) : levK l K v ≤ n := by
  rcases Int.lt_or_le n (levK l K v) with h | h
  · exfalso
    have hfix := passL_fix (l := l) (f := levK l K) hs
    -- a chain of items with all smaller levels
    have chain : ∀ (m : Nat) (v : Nat), levK l K v = (m : Int) + 1 → ∀ i, i ≤ m + 1 → ∃ u, levK l K u = (i : Int) ∧ u < n := by
      intro m
      induction m with
      | zero =>
        intro v hv i hi
        obtain ⟨e, he, h1, h2⟩ := (tight_lev l K).2 v (by omega)
        have h3 := hfix e he
        have h4 := (tight_lev l K).1 e.1
        rw [h1] at h3
        rcases Nat.lt_or_ge i 1 with h5 | h5
        · exact ⟨e.1, by omega, (hn e he).1⟩
        · exact ⟨v, by omega, by rw [← h1]; exact (hn e he).2⟩
      | succ m ih =>
        intro v hv i hi
        obtain ⟨e, he, h1, h2⟩ := (tight_lev l K).2 v (by omega)
        have h3 := hfix e he
        rw [h1] at h3
        rcases Nat.lt_or_ge i (m + 2) with h5 | h5
        · exact ih e.1 (by omega) i (by omega)
        · exact ⟨v, by omega, by rw [← h1]; exact (hn e he).2⟩
    obtain ⟨m, hm⟩ : ∃ m : Nat, levK l K v = (m : Int) + 1 := ⟨(levK l K v - 1).toNat, by omega⟩
    have hc := chain m v hm
    have hmn : n ≤ m := by omega
    let g : Nat → Nat := fun i => if h : i ≤ m + 1 then Classical.choose (hc i h) else 0
    have hg : ∀ i, i ≤ n → levK l K (g i) = (i : Int) ∧ g i < n := fun i hi => by
      have h1 : i ≤ m + 1 := by omega
      have := Classical.choose_spec (hc i h1)
      simpa [g, h1] using this
    refine pigeon n g (fun i hi => (hg i hi).2) (fun i j hi hj e => ?_)
    have h1 := (hg i hi).1
    have h2 := (hg j hj).1
    rw [e] at h1
    omega
  · exact h
/-- No item is a part of itself. -/
def acycL (l : List (Nat × Nat)) (n : Nat) : Prop := levK l (n + 1) = levK l n
theorem acyc_of {l : List (Nat × Nat)} {K n : Nat} (hn : ∀ e ∈ l, e.1 < n ∧ e.2 < n) (hs : levK l (K + 1) = levK l K) : acycL l n ∧ levK l K = levK l n := by
  have h1 : ∀ v, levK l K v ≤ n := lev_small hn hs
  have h2 : levK l n = levK l K := funext fun v => lev_reach hs n v (h1 v)
  have h3 : levK l (n + 1) = levK l K := funext fun v => lev_reach hs (n + 1) v (by have := h1 v; omega)
  exact ⟨h3.trans h2.symm, h2.symm⟩
theorem lev_stays {l : List (Nat × Nat)} {K : Nat} (hs : levK l (K + 1) = levK l K) : ∀ m, levK l (K + m) = levK l K
  | 0 => rfl
  | m + 1 => by
    show passL l (levK l (K + m)) = levK l K
    rw [lev_stays hs m]; exact hs
theorem passL_bound : ∀ {l : List (Nat × Nat)} {f : Nat → Int} {M : Int}, (∀ j, 0 ≤ f j ∧ f j ≤ M) → ∀ j, 0 ≤ passL l f j ∧ passL l f j ≤ M + l.length
  | [], _, _, h, j => by have := h j; simp [passL]; omega
  | d :: l, f, M, h, j => by
    rw [passL_cons]
    have := passL_bound (l := l) (f := stepL f d) (M := M + 1) (fun i => by
      have h1 := h i
      by_cases hd : f d.2 ≤ f d.1
      · rw [stepL_y hd]
        have := h d.1
        split <;> omega
      · rw [stepL_n (by omega)]; omega) j
    simp only [List.length_cons]
    omega
theorem lev_bound {l : List (Nat × Nat)} (hl : l.length ≤ 24) : ∀ (k j : Nat), 0 ≤ levK l k j ∧ levK l k j ≤ 24 * k
  | 0, j => by simp [levK]
  | k + 1, j => by
    have := passL_bound (l := l) (f := levK l k) (lev_bound hl k) j
    show 0 ≤ passL l (levK l k) j ∧ passL l (levK l k) j ≤ 24 * ((k + 1 : Nat) : Int)
    omega
theorem passL_snoc {l : List (Nat × Nat)} {i : Nat} {e : Nat × Nat} (h : l[i]? = some e) (f : Nat → Int) : passL (l.take (i + 1)) f = stepL (passL (l.take i) f) e := by
  rw [take_snoc h]
  simp [passL]

/-- The lines as pairs of places of the catalog. -/
noncomputable def idxOf (cat : List ItemV) (c : ByteArray) : Int := findP (fun y => y.code = c) cat
noncomputable def edgesOf (cat : List ItemV) (lines : List LineV) : List (Nat × Nat) := lines.map fun x => ((idxOf cat x.parent).toNat, (idxOf cat x.part).toNat)
def linesIn (cat : List ItemV) (lines : List LineV) : Prop := ∀ x ∈ lines, 0 ≤ idxOf cat x.parent ∧ 0 ≤ idxOf cat x.part
theorem findP_lt {α : Type} (p : α → Prop) (l : List α) : findP p l < l.length := by
  rcases findP_cases p l with ⟨h, _⟩ | ⟨i, x, h, hx, _⟩
  · rw [h]; omega
  · rw [h]; have := get_lt hx; omega
theorem findP_ge {α : Type} (p : α → Prop) (l : List α) : -1 ≤ findP p l := by
  rcases findP_cases p l with ⟨h, _⟩ | ⟨i, x, h, hx, _⟩ <;> rw [h] <;> omega
theorem idx_nat {cat : List ItemV} {c : ByteArray} (h : 0 ≤ idxOf cat c) : idxOf cat c = ((idxOf cat c).toNat : Int) ∧ (idxOf cat c).toNat < cat.length := by
  have := findP_lt (fun y : ItemV => y.code = c) cat
  unfold idxOf at *
  omega
theorem edges_lt {cat : List ItemV} {lines : List LineV} (h : linesIn cat lines) : ∀ e ∈ edgesOf cat lines, e.1 < cat.length ∧ e.2 < cat.length := fun e he => by
  obtain ⟨x, hx, rfl⟩ := List.mem_map.1 he
  exact ⟨(idx_nat (h x hx).1).2, (idx_nat (h x hx).2).2⟩
theorem edges_at {cat : List ItemV} {lines : List LineV} {i : Nat} {x : LineV} (h : lines[i]? = some x) : (edgesOf cat lines)[i]? = some ((idxOf cat x.parent).toNat, (idxOf cat x.part).toNat) := by
  simp [edgesOf, h]
theorem edges_len (cat : List ItemV) (lines : List LineV) : (edgesOf cat lines).length = lines.length := by simp [edgesOf]
theorem edges_take (cat : List ItemV) (lines : List LineV) : (edgesOf cat lines).take lines.length = edgesOf cat lines := List.take_of_length_le (by rw [edges_len]; omega)
noncomputable def levOf (cat : List ItemV) (lines : List LineV) : Nat → Int := levK (edgesOf cat lines) cat.length
def acycP (cat : List ItemV) (lines : List LineV) : Prop := acycL (edgesOf cat lines) cat.length
/-- The state within a round: what i lines have done, and whether they have changed anything. -/
def rndOK (l : List (Nat × Nat)) (f : Nat → Int) (i : Nat) (b : Bool) : Prop := b = true ↔ passL (l.take i) f ≠ f
theorem rnd_zero (l : List (Nat × Nat)) (f : Nat → Int) : rndOK l f 0 false := by simp [rndOK, passL]
theorem rnd_same {l : List (Nat × Nat)} {f : Nat → Int} {i : Nat} {b : Bool} {e : Nat × Nat} (h : rndOK l f i b) (he : l[i]? = some e) (hlt : passL (l.take i) f e.1 < passL (l.take i) f e.2) : rndOK l f (i + 1) b ∧ passL (l.take (i + 1)) f = passL (l.take i) f := by
  have e1 : passL (l.take (i + 1)) f = passL (l.take i) f := by rw [passL_snoc he, stepL_n hlt]
  exact ⟨by unfold rndOK; rw [e1]; exact h, e1⟩
theorem rnd_new {l : List (Nat × Nat)} {f : Nat → Int} {i : Nat} {e : Nat × Nat} (he : l[i]? = some e) (hle : passL (l.take i) f e.2 ≤ passL (l.take i) f e.1) : rndOK l f (i + 1) true := by
  unfold rndOK
  rw [passL_snoc he]
  refine ⟨fun _ h => ?_, fun _ => rfl⟩
  have h1 := passL_ge (l.take i) f e.2
  have h2 := congrFun h e.2
  rw [stepL_y hle, if_pos rfl] at h2
  omega
theorem arr_step {n : Nat} {l : List (Nat × Nat)} {f : Nat → Int} {i : Nat} {e : Nat × Nat} (he : l[i]? = some e) (hle : passL (l.take i) f e.2 ≤ passL (l.take i) f e.1) :
    arrF n (passL (l.take (i + 1)) f) = (arrF n (passL (l.take i) f)).set e.2 (iD (passL (l.take i) f e.1 + 1)) := by
  rw [arrF_set, passL_snoc he]
  exact arrF_congr fun j _ => stepL_y hle j

end Go.DL
