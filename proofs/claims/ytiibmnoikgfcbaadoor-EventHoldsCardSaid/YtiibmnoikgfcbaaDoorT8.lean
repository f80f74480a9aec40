/- Contracts: which events may be. -/
import Derived.Test.YtiibmnoikgfcbaaDoorT7
namespace Go.Proofs.YtiibmnoikgfcbaaDoor
open Go Go.Sx Go.RowKit
set_option maxRecDepth 100000

structure Ev where
  g : Int
  k : Int
  f : Int
  p : Int
  ad : Int
  ch : Int
  ob : Int
  n : Int
  tr : Int
def evS (e : Ev) : List SV := [.i .i64 e.g, .i .i64 e.k, .i .i64 e.f, .i .i64 e.p, .i .u32 e.ad, .i .i64 e.ch, .i .i64 e.ob, .i .i64 e.n, .i .i64 e.tr]
def evV (e : Ev) : Value := .agg #[.int .i64 e.g, .int .i64 e.k, .int .i64 e.f, .int .i64 e.p, .int .u32 e.ad, .int .i64 e.ch, .int .i64 e.ob, .int .i64 e.n, .int .i64 e.tr]
/-- The kind is a known number. -/
def evK' (e : Ev) (k : Int) : List SV := [.i .i64 e.g, .n .i64 k, .i .i64 e.f, .i .i64 e.p, .i .u32 e.ad, .i .i64 e.ch, .i .i64 e.ob, .i .i64 e.n, .i .i64 e.tr]
def in64 (x : Int) : Prop := -9223372036854775808 ≤ x ∧ x ≤ 9223372036854775807
structure EvT (e : Ev) : Prop where
  g : in64 e.g
  k : in64 e.k
  f : in64 e.f
  p : in64 e.p
  ad : 0 ≤ e.ad ∧ e.ad ≤ 4294967295
  ch : in64 e.ch
  ob : in64 e.ob
  n : in64 e.n
  tr : in64 e.tr

def evOk (e : Ev) : Bool := decide (1 ≤ e.k ∧ e.k ≤ 14 ∧ 0 ≤ e.g ∧ e.g ≤ 65535) && (siteOk e.f e.p && decide (
  (e.k ≠ 2 → e.k ≠ 3 → e.ad = 0) ∧ (e.k ≠ 4 → e.ch = 0) ∧ ((e.k < 5 ∨ 12 < e.k) → e.ob = 0) ∧ (e.k ≠ 11 → e.n = 0) ∧ (e.k ≠ 14 → e.tr = 0) ∧
  (e.k = 4 → 1 ≤ e.ch ∧ e.ch ≤ 65535 ∧ e.ch ≠ e.g) ∧ 0 ≤ e.ob ∧ e.ob ≤ 63 ∧ -2147483648 ≤ e.n ∧ e.n ≤ 2147483647 ∧ (e.k = 14 → 1 ≤ e.tr ∧ e.tr ≤ 6)))

def sumSite : Sum := fun args _ _ => match args with
  | [.ag [x, y]] => match intK .i64 x, intK .i64 y with
    | some f, some p => some (.val (.i .i64 (bif siteOk f p then 0 else 2)))
    | _, _ => none
  | _ => none
theorem sumSite_ok : SumOk1 Tryd.prog 58 sumSite := by
  intro args H nx out h ρ w xs hH hd hn
  unfold sumSite at h
  split at h
  case h_2 => cases h
  rename_i x y
  split at h
  case h_2 => cases h
  rename_i f p hf hp
  cases h
  obtain ⟨v, r, rfl, h1, h2⟩ := denL_cons hd
  cases h2
  simp only [den] at h1
  cases hxy : denL ρ [x, y] with
  | none => rw [hxy] at h1; cases h1
  | some l =>
    rw [hxy] at h1
    cases h1
    obtain ⟨a, r, rfl, e1, e2⟩ := denL_cons hxy
    obtain ⟨b, r, rfl, e3, e4⟩ := denL_cons e2
    cases e4
    have := intK_ok hf e1
    have := intK_ok hp e3
    subst a b
    exact (siteCheck_c f p w).mono fun e w' ⟨q1, q2⟩ => ⟨_, q1, rfl, q2⟩
noncomputable def tabB : Tab := mkTab tiRows eqL fnsL [] inlA 20 [(58, sumSite)]
theorem tabB_ok : TabOk Tryd.prog tabB := mkTab_ok (by kernel_rfl) tiRows_ok eqL_ok fnsL_ok inlA_ok ⟨sumSite_ok, trivial⟩
end Go.Proofs.YtiibmnoikgfcbaaDoor
