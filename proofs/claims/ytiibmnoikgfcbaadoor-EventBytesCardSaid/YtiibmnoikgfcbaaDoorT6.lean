/- Tables, structs. Contracts: sites. Contracts: which events may be. -/
import Derived.Test.YtiibmnoikgfcbaaDoorFn
namespace Go.Proofs.YtiibmnoikgfcbaaDoor
open Go Go.Sx Go.RowKit
set_option maxRecDepth 100000

theorem eq24 : EqOk Tryd.prog 24 [.int .i64, .int .i64] ∧ KeyOk Tryd.prog 24 [.int .i64, .int .i64] :=
  EqOk.mk3 (r := [(false, [.int .i64]), (false, [.int .i64])]) Tryd.underlying24 (by kernel_rfl) (by kernel_rfl)
    ⟨rfl, rfl, eqD_int Tryd.underlying3, ckD_int Tryd.underlying3, fun _ => rfl, ⟨_, tyOk3, rfl, rfl⟩, rfl, rfl, eqD_int Tryd.underlying3, ckD_int Tryd.underlying3, fun _ => rfl, ⟨_, tyOk3, rfl, rfl⟩, trivial⟩
theorem eq92 : EqOk Tryd.prog 92 [.int .i64, .int .i64] ∧ KeyOk Tryd.prog 92 [.int .i64, .int .i64] :=
  EqOk.mk3 (r := [(false, [.int .i64]), (false, [.int .i64])]) Tryd.underlying92 (by kernel_rfl) (by kernel_rfl)
    ⟨rfl, rfl, eqD_int Tryd.underlying22, ckD_int Tryd.underlying22, fun _ => rfl, ⟨_, tyOk22, rfl, rfl⟩, rfl, rfl, eqD_int Tryd.underlying22, ckD_int Tryd.underlying22, fun _ => rfl, ⟨_, tyOk22, rfl, rfl⟩, trivial⟩
theorem eqD24 : EqD Tryd.prog 9999 24 true [.int .i64, .int .i64] ∧ CkD Tryd.prog 9999 24 true [.int .i64, .int .i64] :=
  eqD_st3 (d := 9998) (r := [(false, [.int .i64]), (false, [.int .i64])]) Tryd.underlying24 (by kernel_rfl)
    ⟨rfl, rfl, eqD_int Tryd.underlying3, ckD_int Tryd.underlying3, fun _ => rfl, ⟨_, tyOk3, rfl, rfl⟩, rfl, rfl, eqD_int Tryd.underlying3, ckD_int Tryd.underlying3, fun _ => rfl, ⟨_, tyOk3, rfl, rfl⟩, trivial⟩
def evK : List CK := [.int .i64, .int .i64, .int .i64, .int .i64, .int .u32, .int .i64, .int .i64, .int .i64, .int .i64]
theorem eq28 : EqOk Tryd.prog 28 evK ∧ KeyOk Tryd.prog 28 evK :=
  EqOk.mk3 (r := [(false, [.int .i64]), (false, [.int .i64]), (true, [.int .i64, .int .i64]), (false, [.int .u32]), (false, [.int .i64]), (false, [.int .i64]), (false, [.int .i64]), (false, [.int .i64])]) Tryd.underlying28 (by kernel_rfl) (by kernel_rfl)
    ⟨rfl, rfl, eqD_int Tryd.underlying3, ckD_int Tryd.underlying3, fun _ => rfl, ⟨_, tyOk3, rfl, rfl⟩, 
     rfl, rfl, eqD_int Tryd.underlying22, ckD_int Tryd.underlying22, fun _ => rfl, ⟨_, tyOk22, rfl, rfl⟩,
     rfl, rfl, eqD24.1, eqD24.2, fun h => (nomatch h), ⟨_, tyOk24, rfl, rfl⟩,
     rfl, rfl, eqD_int Tryd.underlying25, ckD_int Tryd.underlying25, fun _ => rfl, ⟨_, tyOk25, rfl, rfl⟩,
     rfl, rfl, eqD_int Tryd.underlying3, ckD_int Tryd.underlying3, fun _ => rfl, ⟨_, tyOk3, rfl, rfl⟩, 
     rfl, rfl, eqD_int Tryd.underlying3, ckD_int Tryd.underlying3, fun _ => rfl, ⟨_, tyOk3, rfl, rfl⟩, 
     rfl, rfl, eqD_int Tryd.underlying2, ckD_int Tryd.underlying2, fun _ => rfl, ⟨_, tyOk2, rfl, rfl⟩, 
     rfl, rfl, eqD_int Tryd.underlying26, ckD_int Tryd.underlying26, fun _ => rfl, ⟨_, tyOk26, rfl, rfl⟩, trivial⟩
def eqL : List (Nat × List CK) := [(24, [.int .i64, .int .i64]), (28, evK), (92, [.int .i64, .int .i64])]
theorem eqL_ok : eqsAll Tryd.prog eqL := ⟨eq24, eq28, eq92, trivial⟩

/-- Helpers that are walked in place. -/
noncomputable def inlA : List (Nat × Func) := [(29, Tryd.f29), (58, Tryd.f58), (59, Tryd.f59), (60, Tryd.f60), (61, Tryd.f61), (62, Tryd.f62), (63, Tryd.f63), (78, Tryd.f78), (79, Tryd.f79), (80, Tryd.f80), (82, Tryd.f82), (83, Tryd.f83), (84, Tryd.f84), (85, Tryd.f85), (86, Tryd.f86), (87, Tryd.f87), (88, Tryd.f88), (89, Tryd.f89), (100, Tryd.f100), (101, Tryd.f101)]
theorem inlA_ok : inlAll Tryd.prog inlA := ⟨Tryd.func29, Tryd.func58, Tryd.func59, Tryd.func60, Tryd.func61, Tryd.func62, Tryd.func63, Tryd.func78, Tryd.func79, Tryd.func80, Tryd.func82, Tryd.func83, Tryd.func84, Tryd.func85, Tryd.func86, Tryd.func87, Tryd.func88, Tryd.func89, Tryd.func100, Tryd.func101, trivial⟩
noncomputable def tabA : Tab := mkTab tiRows eqL fnsL [] inlA 20 []
theorem tabA_ok : TabOk Tryd.prog tabA := mkTab_ok (by kernel_rfl) tiRows_ok eqL_ok fnsL_ok inlA_ok trivial

end Go.Proofs.YtiibmnoikgfcbaaDoor

namespace Go.Proofs.YtiibmnoikgfcbaaDoor
open Go Go.Sx Go.RowKit
set_option maxRecDepth 100000

theorem ret_lb {a b : Bool} (h : a = b) : shut (.lb a) = some (.bool b) := by rw [h]; rfl
theorem ret_b {a b : Bool} (h : a = b) : shut (.b a) = some (.bool b) := by rw [h]; rfl
theorem ret_n {k : IntKind} {a b : Int} (h : a = b) : shut (.n k a) = some (.int k b) := by rw [h]; rfl
theorem ret_i {k : IntKind} {a b : Int} (h : a = b) : shut (.i k a) = some (.int k b) := by rw [h]; rfl

def siteOk (f p : Int) : Bool := decide (0 ≤ f ∧ f < 32 ∧ 0 ≤ p ∧ p < 512)
theorem siteCheck_c (f p : Int) (w : World) : Calls Tryd.prog 58 #[.agg #[.int .i64 f, .int .i64 p]] w fun x w' => x = .returned (.int .i64 (bif siteOk f p then 0 else 2)) ∧ Below w.heap.size w w' := by
  refine calls_pure tabA_ok Tryd.func58 rfl [.ag [.i .i64 f, .i .i64 p]] rfl Tryd.ntmps58 rfl _ (wpx_ok tabA_ok (CI_ok tabA_ok 5) _ ?_) w
  repeat' first | refine And.intro ?_ ?_ | intro _
  all_goals refine ret_n ?_
  all_goals
    simp [siteOk, Bool.cond_eq_ite] at *
    try omega
    try (rw [if_pos (by omega)])
    try (rw [if_neg (by omega)])

end Go.Proofs.YtiibmnoikgfcbaaDoor

namespace Go.Proofs.YtiibmnoikgfcbaaDoor
open Go Go.Sx Go.RowKit
set_option maxRecDepth 100000

structure Ev where
  g : Int
  k : Int
  f : Int
  p : Int
  ad : Int
  ch : Int
  ob : Int
  n : Int
  tr : Int
def evS (e : Ev) : List SV := [.i .i64 e.g, .i .i64 e.k, .i .i64 e.f, .i .i64 e.p, .i .u32 e.ad, .i .i64 e.ch, .i .i64 e.ob, .i .i64 e.n, .i .i64 e.tr]
def evV (e : Ev) : Value := .agg #[.int .i64 e.g, .int .i64 e.k, .int .i64 e.f, .int .i64 e.p, .int .u32 e.ad, .int .i64 e.ch, .int .i64 e.ob, .int .i64 e.n, .int .i64 e.tr]
/-- The kind is a known number. -/
def evK' (e : Ev) (k : Int) : List SV := [.i .i64 e.g, .n .i64 k, .i .i64 e.f, .i .i64 e.p, .i .u32 e.ad, .i .i64 e.ch, .i .i64 e.ob, .i .i64 e.n, .i .i64 e.tr]
def in64 (x : Int) : Prop := -9223372036854775808 ≤ x ∧ x ≤ 9223372036854775807
structure EvT (e : Ev) : Prop where
  g : in64 e.g
  k : in64 e.k
  f : in64 e.f
  p : in64 e.p
  ad : 0 ≤ e.ad ∧ e.ad ≤ 4294967295
  ch : in64 e.ch
  ob : in64 e.ob
  n : in64 e.n
  tr : in64 e.tr

def evOk (e : Ev) : Bool := decide (1 ≤ e.k ∧ e.k ≤ 14 ∧ 0 ≤ e.g ∧ e.g ≤ 65535) && (siteOk e.f e.p && decide (
  (e.k ≠ 2 → e.k ≠ 3 → e.ad = 0) ∧ (e.k ≠ 4 → e.ch = 0) ∧ ((e.k < 5 ∨ 12 < e.k) → e.ob = 0) ∧ (e.k ≠ 11 → e.n = 0) ∧ (e.k ≠ 14 → e.tr = 0) ∧
  (e.k = 4 → 1 ≤ e.ch ∧ e.ch ≤ 65535 ∧ e.ch ≠ e.g) ∧ 0 ≤ e.ob ∧ e.ob ≤ 63 ∧ -2147483648 ≤ e.n ∧ e.n ≤ 2147483647 ∧ (e.k = 14 → 1 ≤ e.tr ∧ e.tr ≤ 6)))

def sumSite : Sum := fun args _ _ => match args with
  | [.ag [x, y]] => match intK .i64 x, intK .i64 y with
    | some f, some p => some (.val (.i .i64 (bif siteOk f p then 0 else 2)))
    | _, _ => none
  | _ => none
theorem sumSite_ok : SumOk1 Tryd.prog 58 sumSite := by
  intro args H nx out h ρ w xs hH hd hn
  unfold sumSite at h
  split at h
  case h_2 => cases h
  rename_i x y
  split at h
  case h_2 => cases h
  rename_i f p hf hp
  cases h
  obtain ⟨v, r, rfl, h1, h2⟩ := denL_cons hd
  cases h2
  simp only [den] at h1
  cases hxy : denL ρ [x, y] with
  | none => rw [hxy] at h1; cases h1
  | some l =>
    rw [hxy] at h1
    cases h1
    obtain ⟨a, r, rfl, e1, e2⟩ := denL_cons hxy
    obtain ⟨b, r, rfl, e3, e4⟩ := denL_cons e2
    cases e4
    have := intK_ok hf e1
    have := intK_ok hp e3
    subst a b
    exact (siteCheck_c f p w).mono fun e w' ⟨q1, q2⟩ => ⟨_, q1, rfl, q2⟩
noncomputable def tabB : Tab := mkTab tiRows eqL fnsL [] inlA 20 [(58, sumSite)]
theorem tabB_ok : TabOk Tryd.prog tabB := mkTab_ok (by kernel_rfl) tiRows_ok eqL_ok fnsL_ok inlA_ok ⟨sumSite_ok, trivial⟩
end Go.Proofs.YtiibmnoikgfcbaaDoor
