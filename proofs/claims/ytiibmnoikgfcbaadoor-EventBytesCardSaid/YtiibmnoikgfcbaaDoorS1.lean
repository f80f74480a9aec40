/- What a part of an event is (functions 79, 82, 84, 86, 88); numbers' bytes (functions 57, 69). The numbers lie in their widths. -/
import Derived.Test.YtiibmnoikgfcbaaDoorX12
import Derived.Test.YtiibmnoikgfcbaaDoorC5
namespace Go.Proofs.YtiibmnoikgfcbaaDoor
open Go Go.Sx Go.RowKit
set_option maxRecDepth 100000
set_option maxHeartbeats 400000
set_option linter.unusedVariables false
set_option linter.unusedSimpArgs false

theorem get79_c (e : Ev) (w : World) : Calls Tryd.prog 79 #[evV e] w fun x w' => x = .returned (.int .i64 e.ob) ∧ Below w.heap.size w w' := by
  refine calls_pure tabD_ok Tryd.func79 rfl [.ag (evS e)] rfl Tryd.ntmps79 rfl _ (wpx_ok tabD_ok (CI_ok tabD_ok 5) _ ?_) w
  conv => whnf
  exact ret_i rfl
theorem get82_c (e : Ev) (h : 0 ≤ e.ad ∧ e.ad ≤ 4294967295) (w : World) : Calls Tryd.prog 82 #[evV e] w fun x w' => x = .returned (.int .i64 e.ad) ∧ Below w.heap.size w w' := by
  refine calls_pure tabD_ok Tryd.func82 rfl [.ag (evS e)] rfl Tryd.ntmps82 rfl _ (wpx_ok tabD_ok (CI_ok tabD_ok 5) _ ?_) w
  conv => whnf
  refine ret_i ?_
  rw [IntKind.wrap_i64]
  omega
theorem get84_c (e : Ev) (w : World) : Calls Tryd.prog 84 #[evV e] w fun x w' => x = .returned (.int .i64 e.ch) ∧ Below w.heap.size w w' := by
  refine calls_pure tabD_ok Tryd.func84 rfl [.ag (evS e)] rfl Tryd.ntmps84 rfl _ (wpx_ok tabD_ok (CI_ok tabD_ok 5) _ ?_) w
  conv => whnf
  exact ret_i rfl
theorem get86_c (e : Ev) (w : World) : Calls Tryd.prog 86 #[evV e] w fun x w' => x = .returned (.int .i64 e.n) ∧ Below w.heap.size w w' := by
  refine calls_pure tabD_ok Tryd.func86 rfl [.ag (evS e)] rfl Tryd.ntmps86 rfl _ (wpx_ok tabD_ok (CI_ok tabD_ok 5) _ ?_) w
  conv => whnf
  exact ret_i rfl
theorem get88_c (e : Ev) (w : World) : Calls Tryd.prog 88 #[evV e] w fun x w' => x = .returned (.int .i64 e.tr) ∧ Below w.heap.size w w' := by
  refine calls_pure tabD_ok Tryd.func88 rfl [.ag (evS e)] rfl Tryd.ntmps88 rfl _ (wpx_ok tabD_ok (CI_ok tabD_ok 5) _ ?_) w
  conv => whnf
  exact ret_i rfl
def sumG (f : Ev → Int) : Sum := sumEv (fun e => 0 ≤ e.ad ∧ e.ad ≤ 4294967295) fun e => .i .i64 (f e)
theorem sumG79 : SumOk1 Tryd.prog 79 (sumG Ev.ob) := sumEv_ok (y := fun e => .int .i64 e.ob) (fun _ _ => rfl) fun e _ w => get79_c e w
theorem sumG82 : SumOk1 Tryd.prog 82 (sumG Ev.ad) := sumEv_ok (y := fun e => .int .i64 e.ad) (fun _ _ => rfl) fun e h w => get82_c e h w
theorem sumG84 : SumOk1 Tryd.prog 84 (sumG Ev.ch) := sumEv_ok (y := fun e => .int .i64 e.ch) (fun _ _ => rfl) fun e _ w => get84_c e w
theorem sumG86 : SumOk1 Tryd.prog 86 (sumG Ev.n) := sumEv_ok (y := fun e => .int .i64 e.n) (fun _ _ => rfl) fun e _ w => get86_c e w
theorem sumG88 : SumOk1 Tryd.prog 88 (sumG Ev.tr) := sumEv_ok (y := fun e => .int .i64 e.tr) (fun _ _ => rfl) fun e _ w => get88_c e w

/-! ### a number's bytes -/
noncomputable def inlF : List (Nat × Func) := [(77, Tryd.f77), (98, Tryd.f98), (99, Tryd.f99), (109, Tryd.f109), (112, Tryd.f112), (68, Tryd.f68)]
theorem inlF_ok : inlAll Tryd.prog inlF := ⟨Tryd.func77, Tryd.func98, Tryd.func99, Tryd.func109, Tryd.func112, Tryd.func68, trivial⟩
noncomputable def tabF : Tab := mkTab tiRows eqL fnsL [] inlF 20 []
theorem tabF_ok : TabOk Tryd.prog tabF := mkTab_ok (by kernel_rfl) tiRows_ok eqL_ok fnsL_ok inlF_ok trivial
def byteG (z : Int) (i : Nat) : Value := .int .u8 (z / 256 ^ i % 256)

theorem byte_eq (z d : Int) (i : Nat) (hd : d = 256 ^ i) (h : 0 ≤ d) : (some [Value.int .u8 (IntKind.u8.wrap (z.fdiv d))] : Option (List Value)) = some [byteG z i] := by
  rw [Int.fdiv_eq_ediv_of_nonneg _ h, hd]
  simp [byteG, IntKind.wrap_u8]

theorem fixed1_c (z : Int) (h : 0 ≤ z ∧ z < 256) (w : World) : Calls Tryd.prog 57 #[.int .u64 z, .int .i64 1] w fun x w' => RowBack 5 1 (byteG z) (some (.int .i64 0)) x w w' := by
  refine calls_new tabF_ok Tryd.func57 rfl [.i .u64 z, .n .i64 1] rfl Tryd.ntmps57 rfl 5 1 (byteG z) _ (wpx_ok tabF_ok (CI_ok tabF_ok 8) _ ?_) w
  conv => whnf
  refine And.intro (fun hh => ?_) (fun _ => ?_)
  · exfalso
    have hh : z.fdiv 256 > 0 := of_decide_eq_true hh
    rw [Int.fdiv_eq_ediv_of_nonneg _ (by decide)] at hh
    omega
  conv => whnf
  refine And.intro (by (conv => whnf); exact ⟨trivial, oneG_of rfl, by decide, by decide⟩) ?_
  conv => whnf
  refine And.intro (And.intro rfl fun i hi => ?_) rfl
  match i, hi with
  | 0, _ => exact byte_eq z _ 0 rfl (by decide)
  | n + 1, hi => omega

theorem fixed2_c (z : Int) (h : 0 ≤ z ∧ z < 65536) (w : World) : Calls Tryd.prog 57 #[.int .u64 z, .int .i64 2] w fun x w' => RowBack 5 2 (byteG z) (some (.int .i64 0)) x w w' := by
  refine calls_new tabF_ok Tryd.func57 rfl [.i .u64 z, .n .i64 2] rfl Tryd.ntmps57 rfl 5 2 (byteG z) _ (wpx_ok tabF_ok (CI_ok tabF_ok 8) _ ?_) w
  conv => whnf
  refine And.intro (fun hh => ?_) (fun _ => ?_)
  · exfalso
    have hh : z.fdiv 65536 > 0 := of_decide_eq_true hh
    rw [Int.fdiv_eq_ediv_of_nonneg _ (by decide)] at hh
    omega
  conv => whnf
  refine And.intro (by (conv => whnf); exact ⟨trivial, oneG_of rfl, by decide, by decide⟩) ?_
  conv => whnf
  refine And.intro (by (conv => whnf); exact ⟨trivial, oneG_of rfl, by decide, by decide⟩) ?_
  conv => whnf
  refine And.intro (And.intro rfl fun i hi => ?_) rfl
  match i, hi with
  | 0, _ => exact byte_eq z _ 0 rfl (by decide)
  | 1, _ => exact byte_eq z _ 1 rfl (by decide)
  | n + 2, hi => omega

theorem fixed4_c (z : Int) (h : 0 ≤ z ∧ z < 4294967296) (w : World) : Calls Tryd.prog 57 #[.int .u64 z, .int .i64 4] w fun x w' => RowBack 5 4 (byteG z) (some (.int .i64 0)) x w w' := by
  refine calls_new tabF_ok Tryd.func57 rfl [.i .u64 z, .n .i64 4] rfl Tryd.ntmps57 rfl 5 4 (byteG z) _ (wpx_ok tabF_ok (CI_ok tabF_ok 8) _ ?_) w
  conv => whnf
  refine And.intro (fun hh => ?_) (fun _ => ?_)
  · exfalso
    have hh : z.fdiv 4294967296 > 0 := of_decide_eq_true hh
    rw [Int.fdiv_eq_ediv_of_nonneg _ (by decide)] at hh
    omega
  conv => whnf
  refine And.intro (by (conv => whnf); exact ⟨trivial, oneG_of rfl, by decide, by decide⟩) ?_
  conv => whnf
  refine And.intro (by (conv => whnf); exact ⟨trivial, oneG_of rfl, by decide, by decide⟩) ?_
  conv => whnf
  refine And.intro (by (conv => whnf); exact ⟨trivial, oneG_of rfl, by decide, by decide⟩) ?_
  conv => whnf
  refine And.intro (by (conv => whnf); exact ⟨trivial, oneG_of rfl, by decide, by decide⟩) ?_
  conv => whnf
  refine And.intro (And.intro rfl fun i hi => ?_) rfl
  match i, hi with
  | 0, _ => exact byte_eq z _ 0 rfl (by decide)
  | 1, _ => exact byte_eq z _ 1 rfl (by decide)
  | 2, _ => exact byte_eq z _ 2 rfl (by decide)
  | 3, _ => exact byte_eq z _ 3 rfl (by decide)
  | n + 4, hi => omega
end Go.Proofs.YtiibmnoikgfcbaaDoor
