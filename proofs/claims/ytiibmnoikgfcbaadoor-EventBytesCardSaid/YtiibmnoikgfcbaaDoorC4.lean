/- Conflict, and the document's Leads: what they answer. No condition. -/
import Derived.Test.YtiibmnoikgfcbaaDoorC2
namespace Go.Proofs.YtiibmnoikgfcbaaDoor
open Go Go.Sx Go.RowKit
set_option maxRecDepth 100000
set_option maxHeartbeats 400000
set_option linter.unusedVariables false
set_option linter.unusedSimpArgs false

def accB (e : Ev) : Bool := e.k == 2 || e.k == 3
def conB (a b : Ev) : Bool := accB a && (accB b && (a.ad == b.ad && (a.k == 3 || b.k == 3)))
theorem conflict_c (a b : Ev) (w : World) : Calls Tryd.prog 15 #[evV a, evV b] w fun x w' => x = .returned (.bool (conB a b)) ∧ Below w.heap.size w w' := by
  refine calls_pure tabD_ok Tryd.func15 rfl [.ag (evS a), .ag (evS b)] rfl Tryd.ntmps15 rfl _ (wpx_ok tabD_ok (CI_ok tabD_ok 5) _ ?_) w
  conv => whnf
  repeat' ((first | refine And.intro (fun h => ?_) (fun h => ?_) | refine And.intro ?_ ?_) <;> conv => whnf)
  all_goals first | refine ret_lb ?_ | refine ret_b ?_
  all_goals
    rw [Bool.eq_iff_iff]
    simp [conB, accB, Bool.cond_eq_ite] at *
    try omega
theorem refConflict_c (a b : Ev) (w : World) : Calls Tryd.prog 16 #[evV a, evV b] w fun x w' => x = .returned (.bool (conB a b)) ∧ Below w.heap.size w w' := by
  refine calls_pure tabD_ok Tryd.func16 rfl [.ag (evS a), .ag (evS b)] rfl Tryd.ntmps16 rfl _ (wpx_ok tabD_ok (CI_ok tabD_ok 5) _ ?_) w
  conv => whnf
  repeat' ((first | refine And.intro (fun h => ?_) (fun h => ?_) | refine And.intro ?_ ?_) <;> conv => whnf)
  all_goals first | refine ret_lb ?_ | refine ret_b ?_
  all_goals
    rw [Bool.eq_iff_iff]
    simp [conB, accB, Bool.cond_eq_ite] at *
    try omega
def leadB (a b : Ev) : Bool := a.g == b.g || (a.k == 4 && a.ch == b.g || (a.ob == b.ob && (a.k == 6 && b.k == 5 || (a.k == 10 && (b.k == 7 || b.k == 9) || (a.k == 8 && b.k == 9 || (a.k == 11 && (decide (a.n < 0) && b.k == 12)))))))
theorem refLeads_c (a b : Ev) (w : World) : Calls Tryd.prog 18 #[evV a, evV b] w fun x w' => x = .returned (.bool (leadB a b)) ∧ Below w.heap.size w w' := by
  refine calls_pure tabD_ok Tryd.func18 rfl [.ag (evS a), .ag (evS b)] rfl Tryd.ntmps18 rfl _ (wpx_ok tabD_ok (CI_ok tabD_ok 5) _ ?_) w
  conv => whnf
  repeat' ((first | refine And.intro (fun h => ?_) (fun h => ?_) | refine And.intro ?_ ?_) <;> conv => whnf)
  all_goals first | refine ret_lb ?_ | refine ret_b ?_
  all_goals
    rw [Bool.eq_iff_iff]
    simp [leadB, Bool.cond_eq_ite] at *
    try omega
end Go.Proofs.YtiibmnoikgfcbaaDoor
