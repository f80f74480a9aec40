/- Contracts: sites. -/
import Derived.Test.YtiibmnoikgfcbaaDoorT6
namespace Go.Proofs.YtiibmnoikgfcbaaDoor
open Go Go.Sx Go.RowKit
set_option maxRecDepth 100000

theorem ret_lb {a b : Bool} (h : a = b) : shut (.lb a) = some (.bool b) := by rw [h]; rfl
theorem ret_b {a b : Bool} (h : a = b) : shut (.b a) = some (.bool b) := by rw [h]; rfl
theorem ret_n {k : IntKind} {a b : Int} (h : a = b) : shut (.n k a) = some (.int k b) := by rw [h]; rfl
theorem ret_i {k : IntKind} {a b : Int} (h : a = b) : shut (.i k a) = some (.int k b) := by rw [h]; rfl

def siteOk (f p : Int) : Bool := decide (0 ≤ f ∧ f < 32 ∧ 0 ≤ p ∧ p < 512)
theorem siteCheck_c (f p : Int) (w : World) : Calls Tryd.prog 58 #[.agg #[.int .i64 f, .int .i64 p]] w fun x w' => x = .returned (.int .i64 (bif siteOk f p then 0 else 2)) ∧ Below w.heap.size w w' := by
  refine calls_pure tabA_ok Tryd.func58 rfl [.ag [.i .i64 f, .i .i64 p]] rfl Tryd.ntmps58 rfl _ (wpx_ok tabA_ok (CI_ok tabA_ok 5) _ ?_) w
  repeat' first | refine And.intro ?_ ?_ | intro _
  all_goals refine ret_n ?_
  all_goals
    simp [siteOk, Bool.cond_eq_ite] at *
    try omega
    try (rw [if_pos (by omega)])
    try (rw [if_neg (by omega)])

end Go.Proofs.YtiibmnoikgfcbaaDoor
