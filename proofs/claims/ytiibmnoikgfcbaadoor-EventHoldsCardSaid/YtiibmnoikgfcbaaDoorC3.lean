/- Check, Releases, Conflict, the document's Leads: what they answer. Check: the event's parts lie in their types (EvT). -/
import Derived.Test.YtiibmnoikgfcbaaDoorC2
namespace Go.Proofs.YtiibmnoikgfcbaaDoor
open Go Go.Sx Go.RowKit
set_option maxRecDepth 100000
set_option maxHeartbeats 400000
set_option linter.unusedVariables false
set_option linter.unusedSimpArgs false

noncomputable def inlD : List (Nat × Func) := [(41, Tryd.f41), (42, Tryd.f42)]
theorem inlD_ok : inlAll Tryd.prog inlD := ⟨Tryd.func41, Tryd.func42, trivial⟩
noncomputable def tabD : Tab := mkTab tiRows eqL fnsL [] inlD 20 [(34, sumRight)]
theorem tabD_ok : TabOk Tryd.prog tabD := mkTab_ok (by kernel_rfl) tiRows_ok eqL_ok fnsL_ok inlD_ok ⟨sumRight_ok, trivial⟩

theorem check_c (e : Ev) (ht : EvT e) (w : World) : Calls Tryd.prog 22 #[evV e] w fun x w' => x = .returned (.int .i64 (bif evOk e then 0 else 2)) ∧ Below w.heap.size w w' := by
  refine calls_pure tabD_ok Tryd.func22 rfl [.ag (evS e)] rfl Tryd.ntmps22 rfl _ (wpx_ok tabD_ok (CI_ok tabD_ok 5) _ ?_) w
  conv => whnf
  refine And.intro ht ?_
  conv => whnf
  refine And.intro (fun h => ?_) (fun h => ?_) <;> conv => whnf
  · refine ret_n ?_
    cases hb : evOk e <;> simp_all
  · refine ret_n ?_
    cases hb : evOk e <;> simp_all

def relB (e : Ev) : Bool := e.k == 4 || (e.k == 6 || (e.k == 8 || (e.k == 10 || (e.k == 11 && decide (e.n < 0)))))
theorem releases_c (e : Ev) (w : World) : Calls Tryd.prog 19 #[evV e] w fun x w' => x = .returned (.bool (relB e)) ∧ Below w.heap.size w w' := by
  refine calls_pure tabD_ok Tryd.func19 rfl [.ag (evS e)] rfl Tryd.ntmps19 rfl _ (wpx_ok tabD_ok (CI_ok tabD_ok 5) _ ?_) w
  conv => whnf
  repeat' ((first | refine And.intro (fun h => ?_) (fun h => ?_) | refine And.intro ?_ ?_) <;> conv => whnf)
  all_goals first | refine ret_lb ?_ | refine ret_b ?_
  all_goals
    rw [Bool.eq_iff_iff]
    simp [relB] at *
    try omega
theorem refReleases_c (e : Ev) (w : World) : Calls Tryd.prog 23 #[evV e] w fun x w' => x = .returned (.bool (relB e)) ∧ Below w.heap.size w w' := by
  refine calls_pure tabD_ok Tryd.func23 rfl [.ag (evS e)] rfl Tryd.ntmps23 rfl _ (wpx_ok tabD_ok (CI_ok tabD_ok 5) _ ?_) w
  conv => whnf
  repeat' ((first | refine And.intro (fun h => ?_) (fun h => ?_) | refine And.intro ?_ ?_) <;> conv => whnf)
  all_goals first | refine ret_lb ?_ | refine ret_b ?_
  all_goals
    rw [Bool.eq_iff_iff]
    simp [relB, Bool.cond_eq_ite] at *
    try omega
end Go.Proofs.YtiibmnoikgfcbaaDoor
