/- Which event leads to which (function 17). No condition. -/
import Derived.Test.YtiibmnoikgfcbaaDoorC4
import Derived.Test.YtiibmnoikgfcbaaDoorP1
namespace Go.Proofs.YtiibmnoikgfcbaaDoor
open Go Go.Sx Go.RowKit
set_option maxRecDepth 100000
set_option maxHeartbeats 400000
set_option linter.unusedVariables false
set_option linter.unusedSimpArgs false
def sumRel : Sum := sumEv (fun _ => True) fun e => .b (relB e)
theorem sumRel_ok : SumOk1 Tryd.prog 19 sumRel := sumEv_ok (y := fun e => .bool (relB e)) (fun _ _ => rfl) fun e h w => releases_c e w
noncomputable def tabE : Tab := mkTab tiRows eqL fnsL [43] [] 20 [(43, sumPairs), (19, sumRel)]
theorem tabE_ok : TabOk Tryd.prog tabE := mkTab_ok (by kernel_rfl) tiRows_ok eqL_ok fnsL_ok trivial ⟨sumPairs_ok, sumRel_ok, trivial⟩
theorem leads_c (a b : Ev) (w : World) : Calls Tryd.prog 17 #[evV a, evV b] w fun x w' => x = .returned (.bool (leadB a b)) ∧ Below w.heap.size w w' := by
  refine calls_pure tabE_ok Tryd.func17 rfl [.ag (evS a), .ag (evS b)] rfl Tryd.ntmps17 rfl _ (wpx_ok tabE_ok (CI_ok tabE_ok 5) _ ?_) w
  conv => whnf
  repeat' ((first | refine And.intro (fun h => ?_) (fun h => ?_) | refine And.intro ?_ ?_) <;> conv => whnf)
  all_goals try trivial
  all_goals first | refine ret_lb ?_ | refine ret_b ?_
  all_goals
    rw [Bool.eq_iff_iff]
    simp [leadB, relB, Bool.cond_eq_ite] at *
    try omega
end Go.Proofs.YtiibmnoikgfcbaaDoor
