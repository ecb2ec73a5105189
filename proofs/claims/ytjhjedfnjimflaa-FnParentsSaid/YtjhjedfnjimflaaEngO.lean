/- Part of an evaluator of Go code on plain data, proved sound for the model: lemmas alone, for every program; each states its own conditions. -/
import Derived.Test.YtjhjedfnjimflaaEngN
namespace Go.DL
open Go.RowKit
section
variable {P : Program} {T : Tys} {R : List Nat}

theorem binI_spec {op : BinOp} {k : IntKind} {a b : Int} {K : Value → Prop} (t : TypeId) (h : binI op k a b K) : ∃ r, BinOK P op t (.int k a) (.int k b) r ∧ K r := by
  cases op <;> simp only [binI] at h
  case add => replace h := h.out; exact ⟨_, ⟨rfl, fun x y w => by simp [eqGuard_at_int, binOp_add, Op.intArith]⟩, h⟩
  case sub => replace h := h.out; exact ⟨_, ⟨rfl, fun x y w => by simp [eqGuard_at_int, binOp_sub, Op.intArith]⟩, h⟩
  case mul => replace h := h.out; exact ⟨_, ⟨rfl, fun x y w => by simp [eqGuard_at_int, binOp_mul, Op.intArith]⟩, h⟩
  case and => exact ⟨_, ⟨rfl, fun x y w => by simp [eqGuard_at_int, binOp_and, Op.intBits, andI]⟩, h⟩
  case xor => exact ⟨_, ⟨rfl, fun x y w => by simp [eqGuard_at_int, binOp_xor, Op.intBits, xorI]⟩, h⟩
  case quo => obtain ⟨h1, h2⟩ := h.out; exact ⟨_, ⟨rfl, fun x y w => by simp [eqGuard_at_int, binOp_quo, Op.intDiv, h1]⟩, h2.out⟩
  case rem => replace h := h.out; exact ⟨_, ⟨rfl, fun x y w => by simp [eqGuard_at_int, binOp_rem, Op.intDiv, h.1]⟩, h.2⟩
  case eql => exact ⟨_, ⟨rfl, fun x y w => by simp [eqGuard_at_int, binOp_eql, eqB]⟩, h⟩
  case neq => exact ⟨_, ⟨rfl, fun x y w => by simp [eqGuard_at_int, binOp_neq, eqB, bne]⟩, h⟩
  case lss => exact ⟨_, ⟨rfl, fun x y w => by simp [eqGuard_at_int, binOp_lss, ltB]⟩, h⟩
  case leq => exact ⟨_, ⟨rfl, fun x y w => by simp [eqGuard_at_int, binOp_leq, leB]⟩, h⟩
  case gtr => exact ⟨_, ⟨rfl, fun x y w => by simp [eqGuard_at_int, binOp_gtr, ltB]⟩, h⟩
  case geq => exact ⟨_, ⟨rfl, fun x y w => by simp [eqGuard_at_int, binOp_geq, leB]⟩, h⟩

theorem binS_spec {op : BinOp} {a b : ByteArray} {K : Value → Prop} (t : TypeId) (h : binS op a b K) : ∃ r, BinOK P op t (.string a) (.string b) r ∧ K r := by
  cases op <;> simp only [binS] at h
  case add =>
    replace h := h.out
    refine ⟨_, ⟨rfl, fun x y w => ?_⟩, h.2⟩
    have : ¬ ((9223372036854775807 : Int) < (a.size : Int) + (b.size : Int)) := by omega
    simp [eqGuard_at_string, binOp, Op.stringOp, this]
  all_goals exact ⟨_, ⟨rfl, fun x y w => by simp [eqGuard_at_string, binOp, Op.stringOp, strEq, strLt]⟩, h⟩

theorem binB_spec {op : BinOp} {a b : Bool} {K : Value → Prop} {t : TypeId} (ht : P.underlying t = some .bool) (h : binB op a b K) : ∃ r, BinOK P op t (.bool a) (.bool b) r ∧ K r := by
  cases op <;> simp only [binB] at h
  case eql => exact ⟨_, ⟨rfl, fun x y w => by simp [eqGuard_at_bool, binOp, Op.equal, Op.maxDepth, run_equalIn_bool' w 9999 t a b ht, bEq]⟩, h⟩
  case neq => exact ⟨_, ⟨rfl, fun x y w => by simp [eqGuard_at_bool, binOp, Op.equal, Op.maxDepth, run_equalIn_bool' w 9999 t a b ht, bEq]⟩, h⟩

/-- What an evaluated operation has done. -/
def Out (P : Program) (T : Tys) (R : List Nat) (o : Oper) (σ : St) (K : St → Prop) : Prop := ∃ e σ', (TEff P T o σ.ab e ∨ WEff P T R o σ.ab e) ∧ σ'.ab = σ.ab.eff o.dst e ∧ K σ'

theorem ab_cons (σ : St) (d : Nat) (s : S) (ks : List Nat) : (⟨(d, s) :: σ.s, σ.c, ks ++ σ.sh⟩ : St).ab = (σ.ab.shares ks).put (some d) s := by
  refine Ab.ext' (funext fun t => ?_) ?_ (funext fun k => ?_) ?_
  · rw [put_s, (shares_c σ.ab ks).2.2]
    simp only [St.ab, lkS_cons]
    by_cases h : t = d
    · subst h; simp
    · simp [h, Ne.symm h]
  · rw [put_c, (shares_c σ.ab ks).1]; rfl
  · rw [put_sh, shares_sh]
    simp only [St.ab, memB_iff]
    rw [Bool.or_comm]
    simp
  · rw [put_us, (shares_c σ.ab ks).2.1]; rfl

theorem putS_out {o : Oper} {σ : St} {s : S} {K : St → Prop} (h : putS σ o.dst s K) (he : TEff P T o σ.ab { s }) : Out P T R o σ K := by
  unfold putS at h
  split at h
  · rename_i d ss c sh hd
    refine ⟨_, _, .inl he, ?_, h⟩
    have := ab_cons ⟨ss, c, sh⟩ d s []
    rw [hd]
    exact this
  · rename_i hd
    refine ⟨_, _, .inl he, ?_, h⟩
    rw [hd]; rfl

theorem ab_share (σ : St) (ks : List Nat) : (⟨σ.s, σ.c, ks ++ σ.sh⟩ : St).ab = σ.ab.shares ks := by
  refine Ab.ext' ?_ ?_ (funext fun k => ?_) ?_
  · rw [(shares_c σ.ab ks).2.2]; rfl
  · rw [(shares_c σ.ab ks).1]; rfl
  · rw [shares_sh]
    simp only [St.ab, memB_iff]
    rw [Bool.or_comm]
    simp
  · rw [(shares_c σ.ab ks).2.1]; rfl

theorem putSh_out {o : Oper} {σ : St} {s : S} {ks : List Nat} {K : St → Prop} (h : putSh σ ks o.dst s K) (he : TEff P T o σ.ab { s, sh := ks }) : Out P T R o σ K := by
  unfold putSh at h
  split at h
  · rename_i d ss c sh hd
    refine ⟨_, _, .inl he, ?_, h⟩
    have := ab_cons ⟨ss, c, sh⟩ d s ks
    rw [hd]
    exact this
  · rename_i ss c sh hd
    refine ⟨_, _, .inl he, ?_, h⟩
    rw [hd]
    exact ab_share ⟨ss, c, sh⟩ ks

theorem ab_new (σ : St) (d : Nat) (s : S) (ks : List Nat) (A : Arr) : (⟨(d, s) :: σ.s, (d, some A) :: σ.c, ks ++ σ.sh⟩ : St).ab = ((σ.ab.shares ks).al d A).put (some d) s := by
  have h := ab_cons σ d s ks
  refine Ab.ext' ?_ (funext fun k => ?_) ?_ (funext fun k => ?_)
  · have := congrArg Ab.s h; exact this
  · rw [put_c]
    have e := congrFun (shares_c σ.ab ks).1 k
    simp only [Ab.al, St.ab, lkC_cons]
    by_cases hk : k = d
    · simp [hk]
    · simp only [hk, if_false]; exact e.symm
  · have := congrArg Ab.sh h
    rw [put_sh] at this ⊢
    exact this
  · rw [put_us]
    have e := congrFun (shares_c σ.ab ks).2.1 k
    simp only [Ab.al, St.ab, lkC_cons]
    by_cases hk : k = d
    · simp [hk]
    · simp only [hk, if_false]; exact e.symm

theorem newK_out {o : Oper} {σ : St} {ks : List Nat} {s : Nat → S} {A : Arr} {K : St → Prop} (h : newK σ o.dst ks s A K) (he : ∀ d, o.dst = some d → σ.ab.us d = false → TEff P T o σ.ab { s := s d, sh := ks, al := some (d, A) }) : Out P T R o σ K := by
  unfold newK at h
  split at h
  · rename_i d ss c sh hd
    split at h
    · rename_i hl
      refine ⟨_, _, .inl (he d hd (by simp [St.ab, hl])), ?_, h⟩
      rw [hd]
      exact ab_new ⟨ss, c, sh⟩ d (s d) ks A
    · exact h.elim
  · exact h.elim

theorem newK_outW {o : Oper} {σ : St} {s : Nat → S} {A : Arr} {K : St → Prop} (h : newK σ o.dst [] s A K) (he : ∀ d, o.dst = some d → σ.ab.us d = false → WEff P T R o σ.ab { s := s d, al := some (d, A) }) : Out P T R o σ K := by
  unfold newK at h
  split at h
  · rename_i d ss c sh hd
    split at h
    · rename_i hl
      refine ⟨_, _, .inr (he d hd (by simp [St.ab, hl])), ?_, h⟩
      rw [hd]
      exact ab_new ⟨ss, c, sh⟩ d (s d) [] A
    · exact h.elim
  · exact h.elim

theorem live {σ : St} {k : Nat} {A : Arr} (h : lkC k σ.c = some (some A)) : σ.ab.c k = some A := by simp [St.ab, h]

theorem toDS_spec {σ : St} {s : S} {K : D → List Nat → Prop} (h : toDS σ s K) : ∃ x ks, ToD σ.ab s x ks ∧ K x ks := by
  unfold toDS at h
  split at h
  · exact ⟨_, _, .d _, h⟩
  · exact ⟨_, _, .nil, h⟩
  · split at h
    · rename_i A hl
      exact ⟨_, _, .av _ _ A (live hl), takeK_iff.1 h⟩
    · exact h.elim
  · exact h.elim

theorem argK_spec {σ : St} {s : S} {K : A1 → List Nat → Prop} (h : argK σ s K) : ∃ x ks, ToA σ.ab s x ks ∧ K x ks := by
  unfold argK at h
  split at h
  · exact ⟨_, _, .fn _, h⟩
  · exact ⟨_, _, .d (.d _), h⟩
  · obtain ⟨x, ks, h1, h2⟩ := toDS_spec h; exact ⟨_, _, .d h1, h2⟩

theorem argsK_spec {σ : St} : ∀ {l : List Operand} {K : List A1 → List Nat → Prop}, argsK σ l K → ∃ as ks, ToAs σ.ab (l.map σ.ab.val) as ks ∧ K as ks
  | [], _, h => ⟨_, _, .nil, h⟩
  | x :: r, _, h => by
    obtain ⟨a, ks, h1, h2⟩ := argK_spec (K := _) h
    obtain ⟨as, ks', h3, h4⟩ := argsK_spec h2
    rw [valS_ab] at h1
    exact ⟨_, _, .cons h1 h3, h4⟩

theorem partsK_spec {σ : St} : ∀ {l : List (Nat × Operand)} {K : List D → List Nat → Prop}, partsK σ l K → ∃ ds ks, ToDs σ.ab (l.map fun p => σ.ab.val p.2) ds ks ∧ K ds ks
  | [], _, h => ⟨_, _, .nil, h⟩
  | (i, x) :: r, _, h => by
    obtain ⟨a, ks, h1, h2⟩ := toDS_spec (K := _) h
    obtain ⟨as, ks', h3, h4⟩ := partsK_spec h2
    rw [valS_ab] at h1
    exact ⟨_, _, .cons h1 h3, h4⟩

theorem ToDs.len {τ : Ab} {ss : List S} {ds : List D} {ks : List Nat} (h : ToDs τ ss ds ks) : ds.length = ss.length := by
  induction h with
  | nil => rfl
  | cons _ _ ih => simp [ih]

theorem setsK_spec : ∀ {ps : List (Nat × Operand)} {ds xs : List D} {K : List D → Prop}, ds.length = ps.length → setsK ps ds xs K → (∀ p ∈ ps, p.1 < xs.length) ∧ K (((ps.map (·.1)).zip ds).foldl (fun xs q => xs.set q.1 q.2) xs)
  | [], _, _, _, _, h => ⟨fun p hp => by simp at hp, by simpa [setsK] using h⟩
  | (i, x) :: ps, [], _, _, hl, _ => by simp at hl
  | (i, x) :: ps, d :: ds, xs, K, hl, h => by
    simp only [setsK] at h
    obtain ⟨h1, h2⟩ := setK_iff.1 h
    obtain ⟨h3, h4⟩ := setsK_spec (by simpa using hl) h2
    refine ⟨fun p hp => ?_, h4⟩
    rcases List.mem_cons.1 hp with rfl | hp
    · exact h1
    · simpa using h3 p hp

theorem intOf_spec {s : S} {K : Int → Prop} (h : intOf? s K) : ∃ n, s = .d (.sc (.int .i64 n)) ∧ K n := by
  unfold intOf? at h
  split at h
  · exact ⟨_, rfl, h⟩
  · exact h.elim

theorem contK_spec {σ : St} {s : S} {K : List D → Prop} (h : contK σ s K) : ∃ ys, ToCont σ.ab s ys ∧ K ys := by
  unfold contK at h
  split at h
  · exact ⟨_, .d _, h⟩
  · exact ⟨_, .nil, h⟩
  · split at h
    · rename_i A hl
      exact ⟨_, .av _ _ A (live hl), takeK_iff.1 h⟩
    · exact h.elim
  · exact h.elim

theorem mapD_eq (l : List D) (K : List T1 → Prop) : mapD l K = K (l.map .d) := by
  induction l generalizing K with
  | nil => rfl
  | cons x r ih => simp only [mapD, ih]; rfl

theorem allSc_spec {l : List D} (h : allSc l = true) : ∃ vs : List Value, l = vs.map .sc := by
  induction l with
  | nil => exact ⟨[], rfl⟩
  | cons x r ih =>
    cases x with
    | sc v => obtain ⟨vs, hv⟩ := ih h; exact ⟨v :: vs, by simp [hv]⟩
    | _ => cases h

theorem callK_out {o : Oper} {σ : St} {fx : Operand} {args : Array Operand} {tys : Array TypeId} (ho : o.op = .call { callee := .value fx, args, argTypes := tys }) {K : St → Prop} (h : callK P σ o.dst (valS σ fx) args.toList K) : Out P T R o σ K := by
  unfold callK at h
  split at h
  case h_2 => exact h.elim
  case h_1 f hf =>
  rw [valS_ab] at hf
  obtain ⟨as, ks, h1, h2⟩ := argsK_spec h
  replace h2 := h2.out
  obtain ⟨r, hc, h3⟩ := h2
  unfold resK at h3
  split at h3
  · rename_i x
    split at h3
    · exact putS_out h3 (.callFlat fx args tys f as ks _ _ ho hf h1 hc (.d _))
    · exact putSh_out h3 (.call fx args tys f as ks _ _ none ho hf h1 hc (.d _))
  · rename_i e sz xs
    exact newK_out h3 fun d hd hu => .call fx args tys f as ks _ _ _ ho hf h1 hc (.own ⟨e, sz, xs⟩ d hd hu)
  · rename_i e sz xs
    exact newK_out h3 fun d hd hu => .call fx args tys f as ks _ _ _ ho hf h1 hc (.ptr ⟨e, sz, xs⟩ d hd hu)
  · exact h3.elim
  · rename_i x rest
    split at h3
    · rename_i v hr
      obtain ⟨vs, rfl⟩ := allSc_spec hr
      rw [mapD_eq] at h3
      refine putS_out h3 (.callFlat fx args tys f as ks _ _ ho hf h1 hc ?_)
      have := FlatRes.tup v vs
      simpa [List.map_map, Function.comp_def] using this
    · rw [mapD_eq] at h3
      exact putSh_out h3 (.call fx args tys f as ks _ _ none ho hf h1 hc (.tupd _ _))
  · rename_i e sz xs rest
    rw [mapD_eq] at h3
    exact newK_out h3 fun d hd hu => .call fx args tys f as ks _ _ _ ho hf h1 hc (.tupo ⟨e, sz, xs⟩ rest d hd hu)

theorem ab_up (σ : St) (k : Nat) (A : Arr) (ks : List Nat) (hk : (lkC k σ.c).isSome = true) : (⟨σ.s, (k, some A) :: σ.c, ks ++ σ.sh⟩ : St).ab = (σ.ab.shares ks).up k A := by
  refine Ab.ext' ?_ (funext fun j => ?_) ?_ (funext fun j => ?_)
  · have := (shares_c σ.ab ks).2.2; exact this.symm
  · have e := congrFun (shares_c σ.ab ks).1 j
    simp only [Ab.up, St.ab, lkC_cons]
    by_cases hj : j = k
    · simp [hj]
    · simp only [hj, if_false]; exact e.symm
  · have := congrArg Ab.sh (ab_share σ ks); exact this
  · have e := congrFun (shares_c σ.ab ks).2.1 j
    simp only [Ab.up, St.ab, lkC_cons]
    by_cases hj : j = k
    · subst hj; simp only [if_true]; exact (e.trans hk).symm
    · simp only [hj, if_false]; exact e.symm

theorem newK_ab {σ : St} {dst : Option Nat} {ks : List Nat} {s : Nat → S} {A : Arr} {K : St → Prop} (h : newK σ dst ks s A K) : ∃ d σ', dst = some d ∧ σ.ab.us d = false ∧ σ'.ab = ((σ.ab.shares ks).al d A).put (some d) (s d) ∧ K σ' := by
  unfold newK at h
  split at h
  · rename_i d ss c sh
    split at h
    · rename_i hl
      exact ⟨d, _, rfl, by simp [St.ab, hl], ab_new ⟨ss, c, sh⟩ d (s d) ks A, h⟩
    · exact h.elim
  · exact h.elim
theorem putSh_ab {σ : St} {ks : List Nat} {dst : Option Nat} {s : S} {K : St → Prop} (h : putSh σ ks dst s K) : ∃ σ', σ'.ab = (σ.ab.shares ks).put dst s ∧ K σ' := by
  unfold putSh at h
  split at h
  · rename_i d ss c sh
    exact ⟨_, ab_cons ⟨ss, c, sh⟩ d s ks, h⟩
  · rename_i ss c sh
    exact ⟨_, ab_share ⟨ss, c, sh⟩ ks, h⟩
theorem resPut_spec {σ : St} {dst : Option Nat} {ks : List Nat} {r : Res} {K : St → Prop} (h : resPutK σ dst ks r K) : ∃ s al σ', ResE σ.ab dst r s al ∧ σ'.ab = ((σ.ab.shares ks).alO al).put dst s ∧ K σ' := by
  unfold resPutK at h
  split at h
  · obtain ⟨σ', h1, h2⟩ := putSh_ab h
    exact ⟨_, none, σ', .d _, h1, h2⟩
  · rename_i e sz xs
    obtain ⟨d, σ', rfl, hu, h1, h2⟩ := newK_ab h
    exact ⟨_, _, σ', .own ⟨e, sz, xs⟩ d rfl hu, h1, h2⟩
  · rename_i e sz xs
    obtain ⟨d, σ', rfl, hu, h1, h2⟩ := newK_ab h
    exact ⟨_, _, σ', .ptr ⟨e, sz, xs⟩ d rfl hu, h1, h2⟩
  · rw [mapD_eq] at h
    obtain ⟨σ', h1, h2⟩ := putSh_ab h
    exact ⟨_, none, σ', .tupd _ _, h1, h2⟩
  · rename_i e sz xs rest
    rw [mapD_eq] at h
    obtain ⟨d, σ', rfl, hu, h1, h2⟩ := newK_ab h
    exact ⟨_, _, σ', .tupo ⟨e, sz, xs⟩ rest d rfl hu, h1, h2⟩
  · exact h.elim
theorem shares_up (τ : Ab) (k : Nat) (A : Arr) (ks : List Nat) : (τ.up k A).shares ks = (τ.shares ks).up k A := by
  induction ks generalizing τ with
  | nil => rfl
  | cons j ks ih => exact ih (τ.share j)
theorem largs_spec {σ : St} {p : Bool} : ∀ {l : List Operand} {lo : Option Nat} {K : List A2 → List Nat → Option Nat → Prop}, largsK σ p l lo K → ∃ as ks lo', K as ks lo' ∧ (∀ k, lo = some k → lo' = some k) ∧
    (∀ k, lo = none → lo' = some k → ∃ x ∈ l, (∃ A, lkC k σ.c = some (some A) ∧ σ.ab.val x = .av k A.xs.length) ∨ σ.ab.val x = .ae k 0) ∧
    (∀ (k : Nat) (A : Option Arr), (∀ k1, lo' = some k1 → k = k1 ∧ ∃ A0, A = some A0 ∧ (∀ A1, lkC k1 σ.c = some (some A1) → A1 = A0)) → ToLs σ.ab k A (l.map σ.ab.val) as ks)
  | [], lo, K, h => ⟨[], [], lo, h, fun _ h => h, (fun k h1 h2 => by rw [h1] at h2; cases h2), fun _ _ _ => .nil⟩
  | x :: r, lo, K, h => by
    have plain : ∀ (a : A2) (j : List Nat), (∀ k A, ToL σ.ab k A (σ.ab.val x) a j) → largsK σ p r lo (fun as ks l' => K (a :: as) (j ++ ks) l') → ∃ as ks lo', K as ks lo' ∧ (∀ k, lo = some k → lo' = some k) ∧
        (∀ k, lo = none → lo' = some k → ∃ y ∈ x :: r, (∃ A, lkC k σ.c = some (some A) ∧ σ.ab.val y = .av k A.xs.length) ∨ σ.ab.val y = .ae k 0) ∧
        (∀ (k : Nat) (A : Option Arr), (∀ k1, lo' = some k1 → k = k1 ∧ ∃ A0, A = some A0 ∧ (∀ A1, lkC k1 σ.c = some (some A1) → A1 = A0)) → ToLs σ.ab k A ((x :: r).map σ.ab.val) as ks) := fun a j ha h => by
      obtain ⟨as, ks, lo', h1, h2, h3, h4⟩ := largs_spec h
      exact ⟨a :: as, j ++ ks, lo', h1, h2, fun k e1 e2 => by obtain ⟨y, hy, h5⟩ := h3 k e1 e2; exact ⟨y, List.mem_cons_of_mem _ hy, h5⟩, fun k A hk => .cons (ha k A) (h4 k A hk)⟩
    unfold largsK at h
    split at h
    · rename_i f hv
      rw [valS_ab] at hv
      exact plain (.fn f) [] (fun k A => by rw [hv]; exact .fn f) h
    · rename_i k hv
      rw [valS_ab] at hv
      split at h
      case h_2 => exact h.elim
      obtain ⟨as, ks, lo', h1, h2, h3, h4⟩ := largs_spec h
      have e := h2 k rfl
      refine ⟨.lp :: as, [] ++ ks, lo', h1, fun _ h => (by cases h), fun k' _ e2 => ⟨x, List.mem_cons_self, .inr ?_⟩, fun k' A hk => .cons ?_ (h4 k' A hk)⟩
      · rw [e] at e2; cases e2; exact hv
      · obtain ⟨rfl, A0, rfl, _⟩ := hk k e
        rw [hv]; exact .lp A0 rfl
    · rename_i k m hv
      rw [valS_ab] at hv
      split at h
      · split at h
        case h_2 => exact h.elim
        rename_i A hA
        replace h := h.out
        obtain ⟨hm, h⟩ := h
        obtain ⟨as, ks, lo', h1, h2, h3, h4⟩ := largs_spec h
        have e := h2 k rfl
        refine ⟨.lv :: as, [] ++ ks, lo', h1, fun _ h => (by cases h), fun k' _ e2 => ⟨x, List.mem_cons_self, .inl ?_⟩, fun k' A' hk => .cons ?_ (h4 k' A' hk)⟩
        · rw [e] at e2; cases e2; exact ⟨A, hA, by rw [hv, hm]⟩
        · obtain ⟨rfl, A0, rfl, h5⟩ := hk k e
          have := h5 A hA; subst this
          rw [hv]; exact .lv m A rfl hm
      · obtain ⟨d, j, h5, h⟩ := toDS_spec h
        exact plain (.d d) j (fun k' A' => by rw [hv]; exact .d h5) h
    · rename_i y hv
      rw [valS_ab] at hv
      exact plain (.d y) [] (fun k A => by rw [hv]; exact .d (.d y)) h
    · rename_i hv
      rw [valS_ab] at hv
      exact plain (.d (.sl [])) [] (fun k A => by rw [hv]; exact .d .nil) h
    · exact h.elim

theorem shares_sh_mem {σ : St} {ks : List Nat} {k : Nat} (h : memB k (ks ++ σ.sh) = false) : (σ.ab.shares ks).sh k = false := by
  rw [shares_sh]
  rw [memB_iff] at h
  simp only [St.ab, memB_iff]
  simp at h ⊢
  exact ⟨h.2, h.1⟩

/-- a write -/
theorem up_out {o : Oper} {σ : St} {k : Nat} {A : Arr} {ks : List Nat} {K : St → Prop} (hk : (lkC k σ.c).isSome = true) (h : putSh ⟨σ.s, (k, some A) :: σ.c, σ.sh⟩ ks o.dst .un K)
    (he : WEff P T R o σ.ab { s := .un, sh := ks, up := some (k, A) }) : Out P T R o σ K := by
  unfold putSh at h
  split at h
  · rename_i d ss c sh hd hσ
    cases hσ
    refine ⟨_, _, .inr he, ?_, h⟩
    have h1 := ab_cons ⟨σ.s, (k, some A) :: σ.c, σ.sh⟩ d .un ks
    have h2 := ab_up σ k A ks hk
    rw [hd]
    refine h1.trans ?_
    have h3 : (St.ab ⟨σ.s, (k, some A) :: σ.c, σ.sh⟩).shares ks = (σ.ab.shares ks).up k A := by
      rw [← h2]; exact (ab_share ⟨σ.s, (k, some A) :: σ.c, σ.sh⟩ ks).symm
    rw [h3]
    rfl
  · rename_i ss c sh hd hσ
    cases hσ
    refine ⟨_, _, .inr he, ?_, h⟩
    rw [hd]
    exact ab_up σ k A ks hk

theorem ab_app (σ : St) (k d : Nat) (s : S) (A : Arr) (hk : (lkC k σ.c).isSome = true) : (⟨(d, s) :: σ.s, (d, some A) :: (k, none) :: σ.c, σ.sh⟩ : St).ab = ((σ.ab.kill k).al d A).put (some d) s := by
  refine Ab.ext' (funext fun t => ?_) (funext fun j => ?_) ?_ (funext fun j => ?_)
  · rw [put_s]
    simp only [St.ab, lkS_cons, Ab.al, Ab.kill]
    by_cases h : t = d
    · subst h; simp
    · simp [h, Ne.symm h]
  · rw [put_c]
    simp only [Ab.al, Ab.kill, St.ab, lkC_cons]
    by_cases hj : j = d
    · simp [hj]
    · by_cases hjk : j = k
      · simp only [hj, if_false]; simp [hjk]
      · simp [hj, hjk]
  · rw [put_sh]; rfl
  · rw [put_us]
    simp only [Ab.al, Ab.kill, St.ab, lkC_cons]
    by_cases hj : j = d
    · simp [hj]
    · by_cases hjk : j = k
      · subst hjk; simp only [hj, if_false, if_true]; simp [hk]
      · simp [hj, hjk]

theorem appFin_out {o : Oper} {σ : St} {k m : Nat} {A : Arr} {K : St → Prop} (h : appFin σ o.dst k m A K) (hk : (lkC k σ.c).isSome = true)
    (he : ∀ d, o.dst = some d → σ.ab.us d = false → σ.ab.sh d = false → WEff P T R o σ.ab { s := .av d m, ki := some k, al := some (d, A) }) : Out P T R o σ K := by
  unfold appFin at h
  split at h
  · rename_i d ss c sh hd
    split at h
    · rename_i hlc hmb
      refine ⟨_, _, .inr (he d hd (by simp [St.ab, hlc]) hmb), ?_, h⟩
      rw [hd]
      exact ab_app ⟨ss, c, sh⟩ k d (.av d m) A hk
    · exact h.elim
  · exact h.elim

theorem appK_out (_hT : TOK P T) {o : Oper} {σ : St} {x y : Operand} {t : TypeId} (ho : o.op = .call { callee := .builtin .append, args := #[x, y], argTypes := #[t, t] }) {K : St → Prop} (h : appK T σ o.dst t (valS σ x) (valS σ y) K) : Out P T R o σ K := by
  have hv := valS_ab σ
  unfold appK at h
  split at h
  case h_2 => exact h.elim
  rename_i e hty
  split at h
  case h_2 => exact h.elim
  rename_i ety hety
  split at h
  · rename_i k m hx
    rw [hv] at hx
    split at h
    · rename_i e' sz xs hl hsh
      obtain ⟨he, h⟩ := beqK_iff.1 h
      obtain ⟨hw, h⟩ := beqK_iff.1 h
      obtain ⟨ys, hy, h⟩ := contK_spec h
      rw [hv] at hy
      replace h := h.out
      obtain ⟨n, xs', h1, h2, hn, hwd, h⟩ := h
      subst h1; subst h2
      exact appFin_out h (by rw [hl]; rfl) fun d hd hus hds => .appendA t x y e ety k m d ⟨e', sz, xs⟩ ys ho hd hus hds (tyOf_mem hty) (tyOf_mem hety) hx (live hl) hsh he hw hy hwd hn
    · exact h.elim
  · rename_i hx
    rw [hv] at hx
    split at h
    · exact h.elim
    · rename_i w hw
      obtain ⟨ys, hy, h⟩ := contK_spec h
      rw [hv] at hy
      replace h := h.out
      obtain ⟨n, xs', h1, h2, hn, hwd, h⟩ := h
      have e1 : xs' = ys := by simpa using h2
      subst e1
      have e2 : n = xs'.length := by simpa using h1
      subst e2
      exact newK_outW h fun d hd hu => .appendN t x y e ety d xs' ho hd hu (tyOf_mem hty) (tyOf_mem hety) (by omega) hx hy hwd hn
  · exact h.elim

theorem lcallK_out {o : Oper} {σ : St} {f : FuncId} {args : Array Operand} {tys : Array TypeId} (ho : o.op = .call { callee := .value (.func f), args, argTypes := tys }) (hL : memB (100000 + f) R = true) {K : St → Prop} (h : lcallK P σ o.dst f args.toList K) : Out P T R o σ K := by
  unfold lcallK at h
  obtain ⟨as, ks, lo, h1, h2, h3, h4⟩ := largs_spec h
  split at h1
  case h_2 => exact h1.elim
  rename_i k
  split at h1
  case h_2 => exact h1.elim
  rename_i e sz xs hl hsh
  replace h1 := h1.out
  obtain ⟨r, xs', hc, h1⟩ := h1
  obtain ⟨s, al, σ', hr, hab, hK⟩ := resPut_spec h1
  have hup : (⟨σ.s, (k, some ⟨e, sz, xs'⟩) :: σ.c, σ.sh⟩ : St).ab = σ.ab.up k ⟨e, sz, xs'⟩ := by
    have := ab_up σ k ⟨e, sz, xs'⟩ [] (by rw [hl]; rfl)
    simpa [Ab.shares] using this
  rw [hup] at hr hab
  refine ⟨_, σ', .inr (.lcall (.func f) args tys f as ks k ⟨e, sz, xs⟩ r xs' s al ho rfl (by rw [memB_iff] at hL; exact hL) (h4 k (some ⟨e, sz, xs⟩) (fun k1 e1 => by cases e1; exact ⟨rfl, _, rfl, fun A1 hA1 => by rw [hl] at hA1; cases hA1; rfl⟩)) ?_ (live hl) (shares_sh_mem hsh) hc (hr.usd fun d _ h => h)), ?_, hK⟩
  · obtain ⟨x, hx, h5⟩ := h3 k rfl rfl
    refine ⟨x, hx, ?_⟩
    rcases h5 with ⟨A, hA, h5⟩ | h5
    · rw [hl] at hA; cases hA; exact .inl h5
    · exact .inr h5
  · rw [hab, shares_up]; rfl

/-- What may come of an operation whose results are known by a property. -/
def OutE (P : Program) (T : Tys) (R : List Nat) (o : Oper) (σ : St) (K : St → Prop) : Prop :=
  Out P T R o σ K ∨ ∃ E : Ef → Prop, DEff P T o σ.ab E ∧ ∀ e, E e → ∃ σ', σ'.ab = σ.ab.eff o.dst e ∧ K σ'

theorem dcallK_out {o : Oper} {σ : St} {f : FuncId} {args : Array Operand} {tys : Array TypeId} (ho : o.op = .call { callee := .value (.func f), args, argTypes := tys }) {K : St → Prop} (h : dcallK P σ o.dst f args.toList K) : OutE P T R o σ K := by
  unfold dcallK at h
  obtain ⟨as, ks, lo, h1, h2, h3, h4⟩ := largs_spec h
  split at h1
  · rename_i k
    split at h1
    case h_2 => exact h1.elim
    rename_i e sz xs hl hsh
    replace h1 := h1.out
    obtain ⟨R0, hc, h1⟩ := h1
    refine .inr ⟨fun e => ∃ σ', σ'.ab = σ.ab.eff o.dst e ∧ K σ', ?_, fun e h => h⟩
    refine .lcall (.func f) args tys f as ks k ⟨e, sz, xs⟩ R0 ho rfl (h4 k (some ⟨e, sz, xs⟩) (fun k1 e1 => by cases e1; exact ⟨rfl, _, rfl, fun A1 hA1 => by rw [hl] at hA1; cases hA1; rfl⟩)) (live hl) (shares_sh_mem hsh) hc (fun r xs' hR => ?_)
    obtain ⟨s, al, σ', hr, hab, hK⟩ := resPut_spec (h1 r xs' hR)
    have hup : (⟨σ.s, (k, some ⟨e, sz, xs'⟩) :: σ.c, σ.sh⟩ : St).ab = σ.ab.up k ⟨e, sz, xs'⟩ := by
      have := ab_up σ k ⟨e, sz, xs'⟩ [] (by rw [hl]; rfl)
      simpa [Ab.shares] using this
    rw [hup] at hr hab
    exact ⟨s, al, hr.usd fun d _ h => h, σ', by rw [hab, shares_up]; rfl, hK⟩
  · replace h1 := h1.out
    obtain ⟨R0, hc, h1⟩ := h1
    refine .inr ⟨fun e => ∃ σ', σ'.ab = σ.ab.eff o.dst e ∧ K σ', ?_, fun e h => h⟩
    refine .pcall (.func f) args tys f as ks R0 ho rfl (h4 0 none (fun k1 e1 => by cases e1)) hc (fun r xs' hR => ?_)
    obtain ⟨s, al, σ', hr, hab, hK⟩ := resPut_spec (h1 r xs' hR)
    exact ⟨s, al, hr, σ', by rw [hab]; rfl, hK⟩

theorem dOp_out (hT : TOK P T) {o : Oper} {σ : St} {K : St → Prop} (h : dOp P T R o σ K) : Out P T R o σ K := by
  have hv := valS_ab σ
  unfold dOp at h
  split at h
  · rename_i x ho
    rw [forceS_eq, hv] at h
    exact putS_out h (.pure _ (by rw [ho]; exact .move x))
  · rename_i x ho
    rw [forceS_eq, hv] at h
    exact putS_out h (.pure _ (by rw [ho]; exact .assign x))
  · rename_i c a b ho
    split at h
    · rename_i t ht
      rw [hv] at ht
      have hp := PEff.pick (P := P) (T := T) c a b t ht
      rw [forceS_eq, forceS_eq, hv, hv] at h
      cases t
      · exact putS_out (show putS σ o.dst (σ.ab.val b) K from h) (.pure _ (by rw [ho]; exact hp))
      · exact putS_out (show putS σ o.dst (σ.ab.val a) K from h) (.pure _ (by rw [ho]; exact hp))
    · exact h.elim
  · rename_i op t x y yt ho
    split at h
    · rename_i dx dy hx hy
      rw [hv] at hx hy
      unfold binK at h
      split at h
      · rename_i a b
        obtain ⟨r, hb, h⟩ := binI_spec (P := P) t h
        exact putS_out h (.pure _ (by rw [ho]; exact .bin op t x y yt _ _ r hx hy hb))
      · rename_i a b
        obtain ⟨r, hb, h⟩ := binI_spec (P := P) t h
        exact putS_out h (.pure _ (by rw [ho]; exact .bin op t x y yt _ _ r hx hy hb))
      · rename_i a b
        split at h
        · replace h := h.out
          exact putS_out h.2 (.pure _ (by rw [ho]; exact .bin _ t x y yt _ _ _ hx hy ⟨rfl, fun x y w => by
            have : ¬ b < 0 := by have := h.1; omega
            simp [eqGuard, binOp_shr, Op.shift, shrI, this]⟩))
        · exact h.elim
      · rename_i a b
        obtain ⟨r, hb, h⟩ := binS_spec (P := P) t h
        exact putS_out h (.pure _ (by rw [ho]; exact .bin op t x y yt _ _ r hx hy hb))
      · rename_i a b
        split at h
        · rename_i hty
          have := (hT _ (tyOf_mem hty)).und
          simp only at this
          obtain ⟨r, hb, h⟩ := binB_spec (P := P) this h
          exact putS_out h (.pure _ (by rw [ho]; exact .bin op t x y yt _ _ r hx hy hb))
        · exact h.elim
      · rename_i fs gs
        split at h
        · rename_i Fs hty
          split at h
          · obtain ⟨b, he, h⟩ := eqsK_spec h
            exact putS_out h (.pure _ (by rw [ho]; exact .eqA t x y yt Fs fs gs b (tyOf_mem hty) hx hy he))
          · obtain ⟨b, he, h⟩ := eqsK_spec h
            exact putS_out h (.pure _ (by rw [ho]; exact .neA t x y yt Fs fs gs b (tyOf_mem hty) hx hy he))
          · exact h.elim
        · exact h.elim
      · exact h.elim
    · exact h.elim
  · rename_i op t x ho
    split at h
    · rename_i dx hx
      rw [hv] at hx
      unfold unK at h
      split at h
      · rename_i b
        exact putS_out h (.pure _ (by rw [ho]; exact .un .not t x _ _ hx ⟨rfl, fun P w => by simp [Op.unary]⟩))
      · rename_i a
        replace h := h.out
        exact putS_out h (.pure _ (by rw [ho]; exact .un .neg t x _ _ hx ⟨rfl, fun P w => by simp [Op.unary, Op.intArith]⟩))
      · exact h.elim
    · exact h.elim
  · rename_i t ho
    split at h
    · rename_i ty hty
      split at h
      · exact h.elim
      · rename_i m hm
        rw [zeroTy_eq] at h
        exact newK_out h fun d hd hu => .alloc t ty d ho hd hu (tyOf_mem hty) (by omega)
    · exact h.elim
  · rename_i t x ho
    obtain ⟨y, ks, h1, h⟩ := toDS_spec h
    rw [hv] at h1
    split at h
    · exact h.elim
    · rename_i m hm
      exact newK_out h fun d hd hu => .box t x y ks d ho hd hu h1 (by omega)
  · rename_i t parts ho
    split at h
    · rename_i Fs hty
      obtain ⟨ds, ks, h1, h⟩ := partsK_spec h
      split at h
      · rename_i hcell
        rw [zerosF_eq] at h
        obtain ⟨h2, h⟩ := setsK_spec (by rw [h1.len]; simp) h
        exact putSh_out h (.build t parts Fs ds ks ho (tyOf_mem hty) h1 (List.all_eq_true.1 hcell) (fun p hp => by simpa using h2 p hp))
      · exact h.elim
    · exact h.elim
  · rename_i t len parts ho
    split at h
    · rename_i e hty
      split at h
      · rename_i ety hety
        obtain ⟨ds, ks, h1, h⟩ := partsK_spec h
        split at h
        · rename_i m hall hw hle
          rw [zeroTy_eq] at h
          obtain ⟨h2, h⟩ := setsK_spec (by rw [h1.len]; simp) h
          exact newK_out h fun d hd hu => .buildSlice t len parts e ety ds ks d ho hd hu (tyOf_mem hty) (tyOf_mem hety) h1 (fun x hx => (beq_iff _ _).1 (List.all_eq_true.1 hall x hx)) (fun p hp => by simpa using h2 p hp) (by omega)
            (Nat.le_of_ble_eq_true hle)
        · exact h.elim
      · exact h.elim
    · exact h.elim
  · rename_i t x y ho
    split at h
    · rename_i e hty
      split at h
      · rename_i ety hety
        obtain ⟨a, ha, h⟩ := intOf_spec h
        obtain ⟨b, hb, h⟩ := intOf_spec h
        rw [hv] at ha hb
        replace h := h.out
        obtain ⟨m, rfl, rfl, hm, h⟩ := h
        split at h
        · exact h.elim
        · rename_i m' hm'
          rw [zeroTy_eq] at h
          exact newK_out h fun d hd hu => .makeSlice t x y m _ _ e ety d ho hd hu (tyOf_mem hty) (tyOf_mem hety) ha hb hm (by omega)
      · exact h.elim
    · exact h.elim
  · rename_i t x ho
    split at h
    · rename_i ty hty
      split at h
      · rename_i y hx
        rw [hv] at hx
        obtain ⟨hf, h⟩ := fitK_iff.1 h
        exact putS_out h (.loadE t x y ty ho (tyOf_mem hty) hx hf)
      · rename_i k i hx
        rw [hv] at hx
        split at h
        · rename_i A hl
          obtain ⟨y, hy, h⟩ := getK_iff.1 h
          obtain ⟨hf, h⟩ := fitK_iff.1 h
          exact putS_out h (.loadA t x k i A y ty ho (tyOf_mem hty) hx (live hl) hy hf)
        · exact h.elim
      · rename_i k i f hx
        rw [hv] at hx
        split at h
        · rename_i A hl
          obtain ⟨y, hy, h⟩ := getK_iff.1 h
          split at h
          · obtain ⟨z, hz, h⟩ := getK_iff.1 h
            obtain ⟨hf, h⟩ := fitK_iff.1 h
            exact putS_out h (.loadF t x k i f A _ z ty ho (tyOf_mem hty) hx (live hl) hy hz hf)
          · exact h.elim
        · exact h.elim
      · exact h.elim
    · exact h.elim
  · rename_i t x y ho
    split at h
    · rename_i ty hty
      split at h
      · rename_i k i hx
        rw [hv] at hx
        obtain ⟨z, ks, hy, h⟩ := toDS_spec h
        rw [hv] at hy
        split at h
        · rename_i e sz xs hl hsh
          obtain ⟨e1, h⟩ := beqK_iff.1 h
          obtain ⟨e2, h⟩ := beqK_iff.1 h
          obtain ⟨hi, h⟩ := setK_iff.1 h
          exact up_out (by rw [hl]; rfl) h (.storeA t x y k i ⟨e, sz, xs⟩ z ks ty ho (tyOf_mem hty) hx (live hl) hy (shares_sh_mem hsh) hi e1 e2)
        · exact h.elim
      · rename_i k i f hx
        rw [hv] at hx
        obtain ⟨z, ks, hy, h⟩ := toDS_spec h
        rw [hv] at hy
        split at h
        · rename_i e sz xs hl hsh hz
          obtain ⟨e1, h⟩ := beqK_iff.1 h
          obtain ⟨w, hw, h⟩ := getK_iff.1 h
          split at h
          · rename_i fs
            obtain ⟨hf, h⟩ := setK_iff.1 h
            obtain ⟨hi, h⟩ := setK_iff.1 h
            exact up_out (by rw [hl]; rfl) h (.storeF t x y k i f ⟨e, sz, xs⟩ fs z ks ty ho (tyOf_mem hty) hx (live hl) hy (shares_sh_mem hsh) hw hf hz e1)
          · exact h.elim
        · exact h.elim
      · exact h.elim
    · exact h.elim
  · rename_i t x f ho
    split at h
    · rename_i Fs hty
      split at h
      · rename_i fs hx
        rw [hv] at hx
        obtain ⟨hl, h⟩ := beqK_iff.1 h
        obtain ⟨z, hz, h⟩ := getK_iff.1 h
        exact putS_out h (.pure _ (by rw [ho]; exact .fieldE t x f Fs fs z (tyOf_mem hty) hl hx hz))
      · rename_i k i hx
        rw [hv] at hx
        split at h
        · rename_i A hl hlt
          exact putS_out h (.fieldA t x f Fs k i A ho (tyOf_mem hty) (Nat.le_of_ble_eq_true hlt) hx (live hl))
        · exact h.elim
      · exact h.elim
    · exact h.elim
  · rename_i t x f ho
    split at h
    · rename_i Fs hty
      split at h
      · rename_i fs hx
        rw [hv] at hx
        obtain ⟨hl, h⟩ := beqK_iff.1 h
        obtain ⟨z, hz, h⟩ := getK_iff.1 h
        exact putS_out h (.pure _ (by rw [ho]; exact .field t x f Fs fs z (tyOf_mem hty) hl hx hz))
      · exact h.elim
    · exact h.elim
  · rename_i t x ix ho
    split at h
    · rename_i e hty
      split at h
      · rename_i ety hety
        split at h
        · rename_i xs hx
          rw [hv] at hx
          obtain ⟨j, hj, h⟩ := intOf_spec h
          rw [hv] at hj
          replace h := h.out
          obtain ⟨h0, y, hy, h⟩ := h
          obtain ⟨hw, h⟩ := beqK_iff.1 h
          exact putS_out h (.pure _ (by rw [ho]; exact .indexD t x ix e ety xs _ j y (tyOf_mem hty) (tyOf_mem hety) hx hj h0 hy hw))
        · rename_i k m hx
          rw [hv] at hx
          split at h
          · rename_i A hl
            obtain ⟨j, hj, h⟩ := intOf_spec h
            rw [hv] at hj
            obtain ⟨hw, h⟩ := beqK_iff.1 h
            replace h := h.out
            obtain ⟨i, rfl, hi, h⟩ := h
            exact putS_out h (.indexA t x ix e ety k m i _ A ho (tyOf_mem hty) (tyOf_mem hety) hx (live hl) hw hj hi)
          · exact h.elim
        · exact h.elim
      · exact h.elim
    · exact h.elim
  · rename_i t x ix ho
    split at h
    · rename_i hty
      split at h
      · rename_i s hx
        rw [hv] at hx
        obtain ⟨j, hj, h⟩ := intOf_spec h
        rw [hv] at hj
        replace h := h.out
        obtain ⟨h0, b, hb, h⟩ := h
        exact putS_out h (.pure _ (by rw [ho]; exact .indexS t x ix s _ j b (tyOf_mem hty) hx hj h0 hb))
      · exact h.elim
    · exact h.elim
  · rename_i x i ho
    split at h
    · rename_i xs hx
      rw [hv] at hx
      obtain ⟨r, hr, h⟩ := getK_iff.1 h
      split at h
      · exact putS_out h (.pure _ (by rw [ho]; exact .extract x i xs _ hx hr))
      · exact putS_out h (.pure _ (by rw [ho]; exact .extract x i xs _ hx hr))
    · exact h.elim
  · rename_i fn first captured ho
    split at h
    · rename_i f hf hc
      have e1 : first = #[] := by simpa using hf
      have e2 : captured = #[] := by simpa using hc
      subst e1; subst e2
      exact putS_out h (.pure _ (by rw [ho]; exact .mkfn f))
    · exact h.elim
  · rename_i fx args tys ho
    split at h
    · rename_i f
      split at h
      · rename_i hL
        exact lcallK_out ho hL h
      · exact callK_out ho h
    · exact callK_out ho h
  · rename_i x ho
    split at h
    · rename_i k i hx
      rw [hv] at hx
      split at h
      · rename_i A hl
        exact putS_out h (.nilA x k i A ho hx (live hl))
      · exact h.elim
    · exact h.elim
  · rename_i src dst x ho
    split at h
    · rename_i sty kd m hs hd hx
      rw [hv] at hx
      have hu := (hT _ (tyOf_mem hd)).und
      simp only at hu
      exact putS_out h.out (.pure _ (by rw [ho]; exact .conv src dst x kd .i64 m sty (tyOf_mem hs) hu hx))
    · exact h.elim
  · rename_i args tys ho
    split at h
    · rename_i x t hargs htys
      have e1 : args = #[x] := by apply Array.toList_inj.1; simpa using hargs
      have e2 : tys = #[t] := by apply Array.toList_inj.1; simpa using htys
      subst e1; subst e2
      unfold lenK at h
      split at h
      · rename_i xs e hx hty
        rw [hv] at hx
        exact putS_out h (.pure _ (by rw [ho]; exact .lenD t x e xs (tyOf_mem hty) hx))
      · rename_i e hx hty
        rw [hv] at hx
        exact putS_out h (.pure _ (by rw [ho]; exact .lenN t x e (tyOf_mem hty) hx))
      · rename_i b hx hty
        rw [hv] at hx
        exact putS_out h (.pure _ (by rw [ho]; exact .lenS t x b (tyOf_mem hty) hx))
      · rename_i k m e hx hty
        rw [hv] at hx
        split at h
        · rename_i A hl
          exact putS_out h (.lenA t x e k m A ho (tyOf_mem hty) hx (live hl))
        · exact h.elim
      · exact h.elim
    · exact h.elim
  · rename_i args tys ho
    split at h
    · rename_i x y hargs
      have e1 : args = #[x, y] := by apply Array.toList_inj.1; simpa using hargs
      subst e1
      obtain ⟨a, ha, h⟩ := intOf_spec h
      obtain ⟨b, hb, h⟩ := intOf_spec h
      rw [hv] at ha hb
      have e : (if b < a then b else a) = Min.min a b := by omega
      exact putS_out h (.pure _ (by rw [ho]; have := PEff.min (P := P) (T := T) (ν := σ.ab.val) x y tys a b ha hb; rwa [e] at this))
    · exact h.elim
  · rename_i args tys ho
    split at h
    · rename_i x y hargs
      have e1 : args = #[x, y] := by apply Array.toList_inj.1; simpa using hargs
      subst e1
      obtain ⟨a, ha, h⟩ := intOf_spec h
      obtain ⟨b, hb, h⟩ := intOf_spec h
      rw [hv] at ha hb
      have e : (if b > a then b else a) = Max.max a b := by omega
      exact putS_out h (.pure _ (by rw [ho]; have := PEff.max (P := P) (T := T) (ν := σ.ab.val) x y tys a b ha hb; rwa [e] at this))
    · exact h.elim
  · rename_i args tys ho
    split at h
    · rename_i x y t t' hargs htys
      obtain ⟨e0, h9⟩ := beqK_iff.1 h
      subst e0
      have e1 : args = #[x, y] := by apply Array.toList_inj.1; simpa using hargs
      have e2 : tys = #[t, t] := by apply Array.toList_inj.1; simpa using htys
      subst e1; subst e2
      exact appK_out hT ho h9
    · exact h.elim
  · rename_i t x lo hi mx ho
    split at h
    · rename_i e hty
      split at h
      · rename_i ety hety
        split at h
        · rename_i xs hx
          rw [hv] at hx
          split at h
          · replace h := h.out
            obtain ⟨l, hh, h1, h2, h3, h4, h5, zs, rfl, h⟩ := h
            exact putS_out h (.pure _ (by rw [ho]; exact .sliceD t x none none e ety xs l hh (tyOf_mem hty) (tyOf_mem hety) hx h1 h2 h3 h4 h5))
          · rename_i lo
            obtain ⟨a, ha, h⟩ := intOf_spec h
            rw [hv] at ha
            replace h := h.out
            obtain ⟨l, hh, h1, h2, h3, h4, h5, zs, rfl, h⟩ := h
            exact putS_out h (.pure _ (by rw [ho]; exact .sliceD t x (some lo) none e ety xs l hh (tyOf_mem hty) (tyOf_mem hety) hx ⟨_, by rw [ha]; simp only at h1; rw [h1]⟩ h2 h3 h4 h5))
          · rename_i hi
            obtain ⟨b, hb, h⟩ := intOf_spec h
            rw [hv] at hb
            replace h := h.out
            obtain ⟨l, hh, h1, h2, h3, h4, h5, zs, rfl, h⟩ := h
            exact putS_out h (.pure _ (by rw [ho]; exact .sliceD t x none (some hi) e ety xs l hh (tyOf_mem hty) (tyOf_mem hety) hx h1 ⟨_, by rw [hb]; simp only at h2; rw [h2]⟩ h3 h4 h5))
          · rename_i lo hi
            obtain ⟨a, ha, h⟩ := intOf_spec h
            obtain ⟨b, hb, h⟩ := intOf_spec h
            rw [hv] at ha hb
            replace h := h.out
            obtain ⟨l, hh, h1, h2, h3, h4, h5, zs, rfl, h⟩ := h
            exact putS_out h (.pure _ (by rw [ho]; exact .sliceD t x (some lo) (some hi) e ety xs l hh (tyOf_mem hty) (tyOf_mem hety) hx ⟨_, by rw [ha]; simp only at h1; rw [h1]⟩ ⟨_, by rw [hb]; simp only at h2; rw [h2]⟩ h3 h4 h5))
        · rename_i k m hx
          rw [hv] at hx
          split at h
          · rename_i A hi hl
            obtain ⟨b, hb, h⟩ := intOf_spec h
            rw [hv] at hb
            replace h := h.out
            obtain ⟨hh, h1, h2, h⟩ := h
            exact putS_out h (.sliceA t x (some hi) e ety k m hh A ho (tyOf_mem hty) (tyOf_mem hety) hx (live hl) ⟨_, by rw [hb]; simp only at h1; rw [h1]⟩ h2)
          · exact h.elim
        · exact h.elim
      · exact h.elim
    · exact h.elim
  · exact h.elim
theorem dOpE_out (hT : TOK P T) {o : Oper} {σ : St} {K : St → Prop} (h : dOpE P T R o σ K) : OutE P T R o σ K := by
  unfold dOpE at h
  split at h
  · rename_i f args tys ho
    split at h
    · exact dcallK_out ho h
    · exact .inl (dOp_out hT h)
  · exact .inl (dOp_out hT h)
end
end Go.DL
