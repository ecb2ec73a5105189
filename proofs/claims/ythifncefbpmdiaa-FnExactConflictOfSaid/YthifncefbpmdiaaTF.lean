/- Contracts of functions of the program, at this seat: what each call returns, by its arguments as data; each states its own conditions. -/
import Derived.Test.YthifncefbpmdiaaTE
namespace Go.DL
set_option maxRecDepth 100000
set_option maxHeartbeats 2000000
set_option linter.unusedSimpArgs false
set_option linter.unusedVariables false
open Go.RowKit Go.Proofs Go.Proofs.Ythifncefbpmdiaa

set_option maxHeartbeats 400000 in
theorem c_laws_toModelT (x : ModelV) (hw : x.wt ≤ 1048576) (hx : x.ok) : Contract Try.prog 63 [.d x.dat] (.one (.tr x.trd)) := by
  have hw1 : wtL OptV.wt x.options ≤ 1048576 := by unfold ModelV.wt at hw; omega
  have hw2 : wtL (wtL NodeV.wt) x.rules ≤ 1048576 := by unfold ModelV.wt at hw; omega
  obtain ⟨k1, k2⟩ := hx
  refine contract_byR [400000 + 89, 600000 + 122, 600000 + 123] hma hTa Try.func63 (by kernel_rfl) (by kernel_rfl) ?_
  conv => whnf
  refine CallK_intro (c_laws_toOptionST _ hw1 k1.2) ?_
  conv => whnf
  refine NeedK_intro (pureL_map opt_pure _).clean ?_
  conv => whnf
  refine NeedK_intro rfl ?_
  conv => whnf
  refine CallK_intro (c_laws_toCondNodeSST _ hw2 k2.2) ?_
  conv => whnf
  refine NeedK_intro (pureL_map rule_pure _).clean ?_
  conv => whnf
  refine NeedK_intro rfl ?_
  conv => whnf
  exact ⟨rfl, rfl, rfl, rfl, pureL_map opt_pure _, rfl, rfl, rfl, rfl, pureL_map rule_pure _, trivial⟩

def mkModel (x : ModelV) (k : Int) : ModelV := ⟨mkG mkOpt mkOptW x.options k, mkG mkRule mkRuleW x.rules (mkGk mkOptW x.options k)⟩
def mkModelK (x : ModelV) (k : Int) : Int := mkGk mkRuleW x.rules (mkGk mkOptW x.options k)
theorem mkModelK_bnd (x : ModelV) (k : Int) : k ≤ mkModelK x k ∧ mkModelK x k ≤ k + 5 * (x.wt : Nat) := by
  have h1 := mkGk_bnd optW_bnd x.options k
  have h2 := mkGk_bnd ruleW_bnd x.rules (mkGk mkOptW x.options k)
  unfold mkModelK ModelV.wt
  constructor <;> omega
set_option maxHeartbeats 4000000 in
theorem c_laws_markModel (x : ModelV) (hw : x.wt ≤ 1048576) (k : Int) (h1 : 1 ≤ k) (h2 : k ≤ 20000000) : TContract Try.prog 66 [.dr [.ref 100000 (x.options.map OptV.trd).length, .ref 100001 (x.rules.map ruleT).length], .d (iD k)] [⟨163, 2, x.options.map OptV.trd⟩, ⟨122, 1, x.rules.map ruleT⟩]
    [⟨163, 2, (mkModel x k).options.map OptV.trd⟩, ⟨122, 1, (mkModel x k).rules.map ruleT⟩] (.int .i64 (mkModelK x k)) := by
  have hw1 : wtL OptV.wt x.options ≤ 1048576 := by unfold ModelV.wt at hw; omega
  have hw2 : wtL (wtL NodeV.wt) x.rules ≤ 1048576 := by unfold ModelV.wt at hw; omega
  have hb := mkGk_bnd optW_bnd x.options k
  refine contract_byT [400000 + 89, 100000 + 129, 600000 + 129, 100000 + 130, 600000 + 130] hma hTa Try.func66 (by kernel_rfl) (by kernel_rfl) rfl (fun i B B' h1 h2 => ?_) (fun B hB => ?_) ?_
  · cases i with
    | zero => simp at h1 h2; subst h1; subst h2; exact ⟨rfl, rfl, by simp [mkModel, mkG_len]⟩
    | succ i =>
      cases i with
      | zero => simp at h1 h2; subst h1; subst h2; exact ⟨rfl, rfl, by simp [mkModel, mkG_len]⟩
      | succ i => simp at h1
  · rcases List.mem_cons.1 hB with rfl | hB
    · exact pureL_map opt_pure _
    · rw [List.mem_singleton.1 hB]; exact pureL_map rule_pure _
  conv => whnf
  refine NeedK_intro (pureL_map opt_pure _).noRef ?_
  conv => whnf
  refine TCallK_intro (c_laws_markOptionS _ hw1 _ (by omega) (by omega)) ?_
  conv => whnf
  refine NeedK_intro (pureL_map rule_pure _).noRef ?_
  conv => whnf
  refine TCallK_intro (c_laws_markCondNodeSS _ hw2 _ (by omega) (by omega)) ?_
  conv => whnf
  exact ⟨rfl, rfl, rfl, rfl, rfl, rfl, rfl, trivial⟩

end Go.DL
