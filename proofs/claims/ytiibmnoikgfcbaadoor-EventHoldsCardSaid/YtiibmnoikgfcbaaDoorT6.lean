/- Tables, structs. -/
import Derived.Test.YtiibmnoikgfcbaaDoorFn
namespace Go.Proofs.YtiibmnoikgfcbaaDoor
open Go Go.Sx Go.RowKit
set_option maxRecDepth 100000

theorem eq24 : EqOk Tryd.prog 24 [.int .i64, .int .i64] ∧ KeyOk Tryd.prog 24 [.int .i64, .int .i64] :=
  EqOk.mk3 (r := [(false, [.int .i64]), (false, [.int .i64])]) Tryd.underlying24 (by kernel_rfl) (by kernel_rfl)
    ⟨rfl, rfl, eqD_int Tryd.underlying3, ckD_int Tryd.underlying3, fun _ => rfl, ⟨_, tyOk3, rfl, rfl⟩, rfl, rfl, eqD_int Tryd.underlying3, ckD_int Tryd.underlying3, fun _ => rfl, ⟨_, tyOk3, rfl, rfl⟩, trivial⟩
theorem eq92 : EqOk Tryd.prog 92 [.int .i64, .int .i64] ∧ KeyOk Tryd.prog 92 [.int .i64, .int .i64] :=
  EqOk.mk3 (r := [(false, [.int .i64]), (false, [.int .i64])]) Tryd.underlying92 (by kernel_rfl) (by kernel_rfl)
    ⟨rfl, rfl, eqD_int Tryd.underlying22, ckD_int Tryd.underlying22, fun _ => rfl, ⟨_, tyOk22, rfl, rfl⟩, rfl, rfl, eqD_int Tryd.underlying22, ckD_int Tryd.underlying22, fun _ => rfl, ⟨_, tyOk22, rfl, rfl⟩, trivial⟩
theorem eqD24 : EqD Tryd.prog 9999 24 true [.int .i64, .int .i64] ∧ CkD Tryd.prog 9999 24 true [.int .i64, .int .i64] :=
  eqD_st3 (d := 9998) (r := [(false, [.int .i64]), (false, [.int .i64])]) Tryd.underlying24 (by kernel_rfl)
    ⟨rfl, rfl, eqD_int Tryd.underlying3, ckD_int Tryd.underlying3, fun _ => rfl, ⟨_, tyOk3, rfl, rfl⟩, rfl, rfl, eqD_int Tryd.underlying3, ckD_int Tryd.underlying3, fun _ => rfl, ⟨_, tyOk3, rfl, rfl⟩, trivial⟩
def evK : List CK := [.int .i64, .int .i64, .int .i64, .int .i64, .int .u32, .int .i64, .int .i64, .int .i64, .int .i64]
theorem eq28 : EqOk Tryd.prog 28 evK ∧ KeyOk Tryd.prog 28 evK :=
  EqOk.mk3 (r := [(false, [.int .i64]), (false, [.int .i64]), (true, [.int .i64, .int .i64]), (false, [.int .u32]), (false, [.int .i64]), (false, [.int .i64]), (false, [.int .i64]), (false, [.int .i64])]) Tryd.underlying28 (by kernel_rfl) (by kernel_rfl)
    ⟨rfl, rfl, eqD_int Tryd.underlying3, ckD_int Tryd.underlying3, fun _ => rfl, ⟨_, tyOk3, rfl, rfl⟩, 
     rfl, rfl, eqD_int Tryd.underlying22, ckD_int Tryd.underlying22, fun _ => rfl, ⟨_, tyOk22, rfl, rfl⟩,
     rfl, rfl, eqD24.1, eqD24.2, fun h => (nomatch h), ⟨_, tyOk24, rfl, rfl⟩,
     rfl, rfl, eqD_int Tryd.underlying25, ckD_int Tryd.underlying25, fun _ => rfl, ⟨_, tyOk25, rfl, rfl⟩,
     rfl, rfl, eqD_int Tryd.underlying3, ckD_int Tryd.underlying3, fun _ => rfl, ⟨_, tyOk3, rfl, rfl⟩, 
     rfl, rfl, eqD_int Tryd.underlying3, ckD_int Tryd.underlying3, fun _ => rfl, ⟨_, tyOk3, rfl, rfl⟩, 
     rfl, rfl, eqD_int Tryd.underlying2, ckD_int Tryd.underlying2, fun _ => rfl, ⟨_, tyOk2, rfl, rfl⟩, 
     rfl, rfl, eqD_int Tryd.underlying26, ckD_int Tryd.underlying26, fun _ => rfl, ⟨_, tyOk26, rfl, rfl⟩, trivial⟩
def eqL : List (Nat × List CK) := [(24, [.int .i64, .int .i64]), (28, evK), (92, [.int .i64, .int .i64])]
theorem eqL_ok : eqsAll Tryd.prog eqL := ⟨eq24, eq28, eq92, trivial⟩

/-- Helpers that are walked in place. -/
noncomputable def inlA : List (Nat × Func) := [(29, Tryd.f29), (58, Tryd.f58), (59, Tryd.f59), (60, Tryd.f60), (61, Tryd.f61), (62, Tryd.f62), (63, Tryd.f63), (78, Tryd.f78), (79, Tryd.f79), (80, Tryd.f80), (82, Tryd.f82), (83, Tryd.f83), (84, Tryd.f84), (85, Tryd.f85), (86, Tryd.f86), (87, Tryd.f87), (88, Tryd.f88), (89, Tryd.f89), (100, Tryd.f100), (101, Tryd.f101)]
theorem inlA_ok : inlAll Tryd.prog inlA := ⟨Tryd.func29, Tryd.func58, Tryd.func59, Tryd.func60, Tryd.func61, Tryd.func62, Tryd.func63, Tryd.func78, Tryd.func79, Tryd.func80, Tryd.func82, Tryd.func83, Tryd.func84, Tryd.func85, Tryd.func86, Tryd.func87, Tryd.func88, Tryd.func89, Tryd.func100, Tryd.func101, trivial⟩
noncomputable def tabA : Tab := mkTab tiRows eqL fnsL [] inlA 20 []
theorem tabA_ok : TabOk Tryd.prog tabA := mkTab_ok (by kernel_rfl) tiRows_ok eqL_ok fnsL_ok inlA_ok trivial

end Go.Proofs.YtiibmnoikgfcbaaDoor
