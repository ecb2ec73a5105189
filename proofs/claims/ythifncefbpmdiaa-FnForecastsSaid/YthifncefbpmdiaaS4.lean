/- Contracts of functions of the program, at this seat: what each call returns, by its arguments as data; each states its own conditions. -/
import Derived.Test.YthifncefbpmdiaaS3
namespace Go.DL
set_option maxRecDepth 100000
set_option maxHeartbeats 2000000
set_option linter.unusedSimpArgs false
set_option linter.unusedVariables false
open Go.RowKit Go.Proofs Go.Proofs.Ythifncefbpmdiaa

/-! What is left of forecasts. -/
theorem takeL_all {Q : DemandV → Prop} (hQ : ∀ item day q d, 0 ≤ q → Q d → Q (tkE item day q d)) (hqt : ∀ d, Q d → qtyB d) {item : ByteArray} {day : Int} : ∀ (l : List DemandV) (q : Int), 0 ≤ q → (∀ d ∈ l, Q d) → ∀ d ∈ (takeL item day l q).1, Q d := by
  intro l q hq hl
  have key : ∀ i, i ≤ l.length → ∀ d ∈ (takeL item day (l.take i) q).1, Q d := by
    intro i
    induction i with
    | zero => exact fun _ d h => by simp [takeL] at h
    | succ i ih =>
      intro hi
      have hx : l[i]? = some (l[i]'hi) := List.getElem?_eq_getElem hi
      have hk := takeL_ok (item := item) (day := day) (l.take i) q hq fun d hd => hqt d (hl d (List.mem_of_mem_take hd))
      rw [takeL_snoc hx]
      intro d hd
      rcases List.mem_append.1 hd with hd | hd
      · exact ih (by omega) d hd
      · simp at hd; subst hd; exact hQ _ _ _ _ hk.2.2.1 (hl _ (get_mem hx))
  have := key l.length (Nat.le_refl _)
  rwa [List.take_length] at this
theorem consO_all {Q : DemandV → Prop} (hQ : ∀ item day q d, 0 ≤ q → Q d → Q (tkE item day q d)) (hqt : ∀ d, Q d → qtyB d) {back ahead : Nat} {L : List DemandV} {o : DemandV} (h : ∀ d ∈ L, Q d) (ho : 0 ≤ o.quantity) : ∀ d ∈ consO back ahead L o, Q d := by
  have st : ∀ (p : List DemandV × Int) (day : Int), (0 ≤ p.2 ∧ ∀ d ∈ p.1, Q d) → 0 ≤ (takeL o.item day p.1 p.2).2 ∧ ∀ d ∈ (takeL o.item day p.1 p.2).1, Q d := fun p day hp =>
    ⟨(takeL_ok p.1 p.2 hp.1 fun d hd => hqt d (hp.2 d hd)).2.2.1, takeL_all hQ hqt p.1 p.2 hp.1 hp.2⟩
  have b : ∀ n (p : List DemandV × Int), (0 ≤ p.2 ∧ ∀ d ∈ p.1, Q d) → 0 ≤ (backF o.item o.day n p).2 ∧ ∀ d ∈ (backF o.item o.day n p).1, Q d := by
    intro n p hp
    induction n with
    | zero => exact hp
    | succ n ih => rw [backF_succ]; exact st _ _ ih
  have a : ∀ n (p : List DemandV × Int), (0 ≤ p.2 ∧ ∀ d ∈ p.1, Q d) → 0 ≤ (aheadF o.item o.day n p).2 ∧ ∀ d ∈ (aheadF o.item o.day n p).1, Q d := by
    intro n p hp
    induction n with
    | zero => exact hp
    | succ n ih => rw [aheadF_succ]; exact st _ _ ih
  exact (a ahead _ (b back _ (st (L, o.quantity) o.day ⟨ho, h⟩))).2
theorem consL_all {Q : DemandV → Prop} (hQ : ∀ item day q d, 0 ≤ q → Q d → Q (tkE item day q d)) (hqt : ∀ d, Q d → qtyB d) {back ahead : Nat} : ∀ (orders L : List DemandV), (∀ d ∈ L, Q d) → (∀ o ∈ orders, 0 ≤ o.quantity) → ∀ d ∈ consL back ahead orders L, Q d
  | [], _, h, _ => h
  | o :: r, L, h, ho => consL_all hQ hqt r _ (consO_all hQ hqt h (ho o (by simp))) fun x hx => ho x (by simp [hx])
theorem cons_len (f o : List DemandV) (back ahead : Int) : (consN f o back ahead).length ≤ 16 := by
  unfold consN
  rcases Classical.em (consP f o back ahead) with hP | hP
  · rw [ifP_t hP]
    have h1 := consL_ok (back := back.toNat) (ahead := ahead.toNat) (sortN o) (sortN f) rfl (fun d hd => (dem_qty hP.1 d hd).1) (fun d hd => (dem_qty hP.2.1 d hd).1)
    have h2 := posN_len (consL back.toNat ahead.toNat (sortN o) (sortN f))
    have h3 := hP.1.2
    rw [h1.1, sort_len] at h2
    omega
  · rw [ifP_f hP]; simp
theorem cons_ok {f o : List DemandV} {back ahead : Int} (h : okL DemandV.ok f) : okL DemandV.ok (consN f o back ahead) := by
  refine ⟨by have := cons_len f o back ahead; omega, fun x hx => ?_⟩
  unfold consN at hx
  rcases Classical.em (consP f o back ahead) with hP | hP
  · rw [ifP_t hP] at hx
    have hm := (List.mem_filter.1 hx).1
    refine (consL_all (Q := fun d => d.ok ∧ qtyB d) (fun item day q d hq hd => ?_) (fun d hd => hd.2) (sortN o) (sortN f) (fun d hd => ⟨h.2 d ((sort_perm f).mem_iff.1 hd), (dem_qty hP.1 d hd).1⟩) (fun d hd => (dem_qty hP.2.1 d hd).1.1) x hm).1
    refine ⟨?_, (tk_ok hq hd.2).1⟩
    have h1 := (tk_ok (item := item) (day := day) hq hd.2).1
    obtain ⟨k0, k1, k2, k3, k4⟩ := hd.1
    unfold qtyB at h1
    unfold tkE at h1 ⊢
    split at h1
    · rw [if_pos (by assumption)]
      refine ⟨k0, k1, ?_, k3, k4⟩
      unfold okI; omega
    · rw [if_neg (by assumption)]
      exact ⟨k0, k1, k2, k3, k4⟩
  · rw [ifP_f hP] at hx; simp at hx

end Go.DL
