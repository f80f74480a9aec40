/- Read (function 10), where the bytes end too early. The bytes are bytes. -/
import Derived.Test.YtiibmnoikgfcbaaDoorR8
namespace Go.Proofs.YtiibmnoikgfcbaaDoor
open Go Go.Sx Go.RowKit
set_option maxRecDepth 100000
set_option maxHeartbeats 1000000
set_option linter.unusedVariables false
set_option linter.unusedSimpArgs false

noncomputable def tabL (k0 : Int) : Tab := { mkTab tiRows eqL fnsL [] inlQ 20 ((32, sumNumL k0) :: sumsP) with own := fun i => Nat.beq i 11 }
theorem tabL_ok (k0 : Int) : TabOk Tryd.prog (tabL k0) :=
  have h : TabOk Tryd.prog (mkTab tiRows eqL fnsL [] inlQ 20 ((32, sumNumL k0) :: sumsP)) := mkTab_ok (by kernel_rfl) tiRows_ok eqL_ok fnsL_ok inlQ_ok ⟨sumNumL_ok k0, sumsP_ok⟩
  ⟨h.mixed, h.ti, h.eqs, h.fns, h.inl, h.sum⟩
theorem row0_c (k : Int) (g : Nat → Int) (x : Value) (w : World) (hx : RowV w 1 0 (rowB g) x) : Calls Tryd.prog 10 #[x] w fun e w' => e = .returned (noV 110) ∧ Below w.heap.size w w' := by
  refine read_run tabRd_ok (CI_ok tabRd_ok 8) (n := 0) (get := rowB g) (noV 110) ?_ w hx
  have hs : shortB (0 - 0) 1 = true := rfl
  conv => whnf
  refine And.intro (by (conv => whnf); exact Nat.zero_le _) ?_
  conv => whnf
  refine And.intro (by
    (conv => whnf)
    exact ⟨Nat.zero_le _, fun i hi => absurd hi (Nat.not_lt_zero i), Nat.zero_le _⟩) ?_
  conv => whnf
  refine And.intro (fun _ => ?_) (fun h => absurd h (by decide))
  conv => whnf
  exact ⟨⟨110, rfl, rfl⟩, ⟨_, _, _, _, _, _, _, _, _, _, _, rfl, rfl, rfl⟩, ⟨rfl, rfl, rfl⟩, rfl, rfl⟩

theorem readL1_c (g : Nat → Int) (n : Nat) (hb : ∀ i, i < n → 0 ≤ g i ∧ g i < 256) (h1 : 1 ≤ n) (hn : n < many 1) (hm : n ≤ maxLen) (hk : g 0 = 1) (x : Value) (w : World) (hx : RowV w 1 n (rowB g) x) : Calls Tryd.prog 10 #[x] w fun e w' => e = .returned (noV 110) ∧ Below w.heap.size w w' := by
  refine read_run (tabL_ok 1) (CI_ok (tabL_ok 1) 8) (n := n) (get := rowB g) _ ?_ w hx
  have hB := bytesG_rowB hb
  have hn' : n < 6 := hn
  obtain rfl | rfl | rfl | rfl | rfl : n = 1 ∨ n = 2 ∨ n = 3 ∨ n = 4 ∨ n = 5 := by omega
  · conv => whnf
    refine And.intro (by (conv => whnf); exact ⟨⟨hB, hk⟩, hm⟩) ?_
    conv => whnf
    refine And.intro (by (conv => whnf); exact ⟨hB, hm⟩) ?_
    conv => whnf
    exact ⟨⟨110, rfl, rfl⟩, ⟨_, _, _, _, _, _, _, _, _, _, _, rfl, rfl, rfl⟩, ⟨rfl, rfl, rfl⟩, rfl, rfl⟩
  · conv => whnf
    refine And.intro (by (conv => whnf); exact ⟨⟨hB, hk⟩, hm⟩) ?_
    conv => whnf
    refine And.intro (by (conv => whnf); exact ⟨hB, hm⟩) ?_
    conv => whnf
    exact ⟨⟨110, rfl, rfl⟩, ⟨_, _, _, _, _, _, _, _, _, _, _, rfl, rfl, rfl⟩, ⟨rfl, rfl, rfl⟩, rfl, rfl⟩
  · conv => whnf
    refine And.intro (by (conv => whnf); exact ⟨⟨hB, hk⟩, hm⟩) ?_
    conv => whnf
    refine And.intro (by (conv => whnf); exact ⟨⟨hB, hk⟩, hm⟩) ?_
    conv => whnf
    refine And.intro (by (conv => whnf); exact ⟨hB, hm⟩) ?_
    conv => whnf
    exact ⟨⟨110, rfl, rfl⟩, ⟨_, _, _, _, _, _, _, _, _, _, _, rfl, rfl, rfl⟩, ⟨rfl, rfl, rfl⟩, rfl, rfl⟩
  · conv => whnf
    refine And.intro (by (conv => whnf); exact ⟨⟨hB, hk⟩, hm⟩) ?_
    conv => whnf
    refine And.intro (by (conv => whnf); exact ⟨⟨hB, hk⟩, hm⟩) ?_
    conv => whnf
    refine And.intro (by (conv => whnf); exact ⟨⟨hB, hk⟩, hm⟩) ?_
    conv => whnf
    refine And.intro (by (conv => whnf); exact ⟨hB, hm⟩) ?_
    conv => whnf
    exact ⟨⟨110, rfl, rfl⟩, ⟨_, _, _, _, _, _, _, _, _, _, _, rfl, rfl, rfl⟩, ⟨rfl, rfl, rfl⟩, rfl, rfl⟩
  · conv => whnf
    refine And.intro (by (conv => whnf); exact ⟨⟨hB, hk⟩, hm⟩) ?_
    conv => whnf
    refine And.intro (by (conv => whnf); exact ⟨⟨hB, hk⟩, hm⟩) ?_
    conv => whnf
    refine And.intro (by (conv => whnf); exact ⟨⟨hB, hk⟩, hm⟩) ?_
    conv => whnf
    refine And.intro (by (conv => whnf); exact ⟨hB, hm⟩) ?_
    conv => whnf
    exact ⟨⟨110, rfl, rfl⟩, ⟨_, _, _, _, _, _, _, _, _, _, _, rfl, rfl, rfl⟩, ⟨rfl, rfl, rfl⟩, rfl, rfl⟩

theorem readL2_c (g : Nat → Int) (n : Nat) (hb : ∀ i, i < n → 0 ≤ g i ∧ g i < 256) (h1 : 1 ≤ n) (hn : n < many 2) (hm : n ≤ maxLen) (hk : g 0 = 2) (x : Value) (w : World) (hx : RowV w 1 n (rowB g) x) : Calls Tryd.prog 10 #[x] w fun e w' => e = .returned (noV 110) ∧ Below w.heap.size w w' := by
  refine read_run (tabL_ok 2) (CI_ok (tabL_ok 2) 8) (n := n) (get := rowB g) _ ?_ w hx
  have hB := bytesG_rowB hb
  have hn' : n < 10 := hn
  obtain rfl | rfl | rfl | rfl | rfl | rfl | rfl | rfl | rfl : n = 1 ∨ n = 2 ∨ n = 3 ∨ n = 4 ∨ n = 5 ∨ n = 6 ∨ n = 7 ∨ n = 8 ∨ n = 9 := by omega
  · conv => whnf
    refine And.intro (by (conv => whnf); exact ⟨⟨hB, hk⟩, hm⟩) ?_
    conv => whnf
    refine And.intro (by (conv => whnf); exact ⟨hB, hm⟩) ?_
    conv => whnf
    exact ⟨⟨110, rfl, rfl⟩, ⟨_, _, _, _, _, _, _, _, _, _, _, rfl, rfl, rfl⟩, ⟨rfl, rfl, rfl⟩, rfl, rfl⟩
  · conv => whnf
    refine And.intro (by (conv => whnf); exact ⟨⟨hB, hk⟩, hm⟩) ?_
    conv => whnf
    refine And.intro (by (conv => whnf); exact ⟨hB, hm⟩) ?_
    conv => whnf
    exact ⟨⟨110, rfl, rfl⟩, ⟨_, _, _, _, _, _, _, _, _, _, _, rfl, rfl, rfl⟩, ⟨rfl, rfl, rfl⟩, rfl, rfl⟩
  · conv => whnf
    refine And.intro (by (conv => whnf); exact ⟨⟨hB, hk⟩, hm⟩) ?_
    conv => whnf
    refine And.intro (by (conv => whnf); exact ⟨⟨hB, hk⟩, hm⟩) ?_
    conv => whnf
    refine And.intro (by (conv => whnf); exact ⟨hB, hm⟩) ?_
    conv => whnf
    exact ⟨⟨110, rfl, rfl⟩, ⟨_, _, _, _, _, _, _, _, _, _, _, rfl, rfl, rfl⟩, ⟨rfl, rfl, rfl⟩, rfl, rfl⟩
  · conv => whnf
    refine And.intro (by (conv => whnf); exact ⟨⟨hB, hk⟩, hm⟩) ?_
    conv => whnf
    refine And.intro (by (conv => whnf); exact ⟨⟨hB, hk⟩, hm⟩) ?_
    conv => whnf
    refine And.intro (by (conv => whnf); exact ⟨⟨hB, hk⟩, hm⟩) ?_
    conv => whnf
    refine And.intro (by (conv => whnf); exact ⟨hB, hm⟩) ?_
    conv => whnf
    exact ⟨⟨110, rfl, rfl⟩, ⟨_, _, _, _, _, _, _, _, _, _, _, rfl, rfl, rfl⟩, ⟨rfl, rfl, rfl⟩, rfl, rfl⟩
  · conv => whnf
    refine And.intro (by (conv => whnf); exact ⟨⟨hB, hk⟩, hm⟩) ?_
    conv => whnf
    refine And.intro (by (conv => whnf); exact ⟨⟨hB, hk⟩, hm⟩) ?_
    conv => whnf
    refine And.intro (by (conv => whnf); exact ⟨⟨hB, hk⟩, hm⟩) ?_
    conv => whnf
    refine And.intro (by (conv => whnf); exact ⟨hB, hm⟩) ?_
    conv => whnf
    exact ⟨⟨110, rfl, rfl⟩, ⟨_, _, _, _, _, _, _, _, _, _, _, rfl, rfl, rfl⟩, ⟨rfl, rfl, rfl⟩, rfl, rfl⟩
  · conv => whnf
    refine And.intro (by (conv => whnf); exact ⟨⟨hB, hk⟩, hm⟩) ?_
    conv => whnf
    refine And.intro (by (conv => whnf); exact ⟨⟨hB, hk⟩, hm⟩) ?_
    conv => whnf
    refine And.intro (by (conv => whnf); exact ⟨⟨hB, hk⟩, hm⟩) ?_
    conv => whnf
    refine And.intro (by (conv => whnf); exact ⟨⟨hB, hk⟩, hm⟩) ?_
    conv => whnf
    refine draw_pan_ok (tabL_ok 2) (CI_ok (tabL_ok 2) 8) 5 ?_
    conv => whnf
    refine And.intro (by (conv => whnf); exact ⟨hB, hm⟩) ?_
    conv => whnf
    exact ⟨⟨110, rfl, rfl⟩, ⟨_, _, _, _, _, _, _, _, _, _, _, rfl, rfl, rfl⟩, ⟨rfl, rfl, rfl⟩, rfl, rfl⟩
  · conv => whnf
    refine And.intro (by (conv => whnf); exact ⟨⟨hB, hk⟩, hm⟩) ?_
    conv => whnf
    refine And.intro (by (conv => whnf); exact ⟨⟨hB, hk⟩, hm⟩) ?_
    conv => whnf
    refine And.intro (by (conv => whnf); exact ⟨⟨hB, hk⟩, hm⟩) ?_
    conv => whnf
    refine And.intro (by (conv => whnf); exact ⟨⟨hB, hk⟩, hm⟩) ?_
    conv => whnf
    refine draw_pan_ok (tabL_ok 2) (CI_ok (tabL_ok 2) 8) 5 ?_
    conv => whnf
    refine And.intro (by (conv => whnf); exact ⟨hB, hm⟩) ?_
    conv => whnf
    exact ⟨⟨110, rfl, rfl⟩, ⟨_, _, _, _, _, _, _, _, _, _, _, rfl, rfl, rfl⟩, ⟨rfl, rfl, rfl⟩, rfl, rfl⟩
  · conv => whnf
    refine And.intro (by (conv => whnf); exact ⟨⟨hB, hk⟩, hm⟩) ?_
    conv => whnf
    refine And.intro (by (conv => whnf); exact ⟨⟨hB, hk⟩, hm⟩) ?_
    conv => whnf
    refine And.intro (by (conv => whnf); exact ⟨⟨hB, hk⟩, hm⟩) ?_
    conv => whnf
    refine And.intro (by (conv => whnf); exact ⟨⟨hB, hk⟩, hm⟩) ?_
    conv => whnf
    refine draw_pan_ok (tabL_ok 2) (CI_ok (tabL_ok 2) 8) 5 ?_
    conv => whnf
    refine And.intro (by (conv => whnf); exact ⟨hB, hm⟩) ?_
    conv => whnf
    exact ⟨⟨110, rfl, rfl⟩, ⟨_, _, _, _, _, _, _, _, _, _, _, rfl, rfl, rfl⟩, ⟨rfl, rfl, rfl⟩, rfl, rfl⟩
  · conv => whnf
    refine And.intro (by (conv => whnf); exact ⟨⟨hB, hk⟩, hm⟩) ?_
    conv => whnf
    refine And.intro (by (conv => whnf); exact ⟨⟨hB, hk⟩, hm⟩) ?_
    conv => whnf
    refine And.intro (by (conv => whnf); exact ⟨⟨hB, hk⟩, hm⟩) ?_
    conv => whnf
    refine And.intro (by (conv => whnf); exact ⟨⟨hB, hk⟩, hm⟩) ?_
    conv => whnf
    refine draw_pan_ok (tabL_ok 2) (CI_ok (tabL_ok 2) 8) 5 ?_
    conv => whnf
    refine And.intro (by (conv => whnf); exact ⟨hB, hm⟩) ?_
    conv => whnf
    exact ⟨⟨110, rfl, rfl⟩, ⟨_, _, _, _, _, _, _, _, _, _, _, rfl, rfl, rfl⟩, ⟨rfl, rfl, rfl⟩, rfl, rfl⟩

theorem readL3_c (g : Nat → Int) (n : Nat) (hb : ∀ i, i < n → 0 ≤ g i ∧ g i < 256) (h1 : 1 ≤ n) (hn : n < many 3) (hm : n ≤ maxLen) (hk : g 0 = 3) (x : Value) (w : World) (hx : RowV w 1 n (rowB g) x) : Calls Tryd.prog 10 #[x] w fun e w' => e = .returned (noV 110) ∧ Below w.heap.size w w' := by
  refine read_run (tabL_ok 3) (CI_ok (tabL_ok 3) 8) (n := n) (get := rowB g) _ ?_ w hx
  have hB := bytesG_rowB hb
  have hn' : n < 10 := hn
  obtain rfl | rfl | rfl | rfl | rfl | rfl | rfl | rfl | rfl : n = 1 ∨ n = 2 ∨ n = 3 ∨ n = 4 ∨ n = 5 ∨ n = 6 ∨ n = 7 ∨ n = 8 ∨ n = 9 := by omega
  · conv => whnf
    refine And.intro (by (conv => whnf); exact ⟨⟨hB, hk⟩, hm⟩) ?_
    conv => whnf
    refine And.intro (by (conv => whnf); exact ⟨hB, hm⟩) ?_
    conv => whnf
    exact ⟨⟨110, rfl, rfl⟩, ⟨_, _, _, _, _, _, _, _, _, _, _, rfl, rfl, rfl⟩, ⟨rfl, rfl, rfl⟩, rfl, rfl⟩
  · conv => whnf
    refine And.intro (by (conv => whnf); exact ⟨⟨hB, hk⟩, hm⟩) ?_
    conv => whnf
    refine And.intro (by (conv => whnf); exact ⟨hB, hm⟩) ?_
    conv => whnf
    exact ⟨⟨110, rfl, rfl⟩, ⟨_, _, _, _, _, _, _, _, _, _, _, rfl, rfl, rfl⟩, ⟨rfl, rfl, rfl⟩, rfl, rfl⟩
  · conv => whnf
    refine And.intro (by (conv => whnf); exact ⟨⟨hB, hk⟩, hm⟩) ?_
    conv => whnf
    refine And.intro (by (conv => whnf); exact ⟨⟨hB, hk⟩, hm⟩) ?_
    conv => whnf
    refine And.intro (by (conv => whnf); exact ⟨hB, hm⟩) ?_
    conv => whnf
    exact ⟨⟨110, rfl, rfl⟩, ⟨_, _, _, _, _, _, _, _, _, _, _, rfl, rfl, rfl⟩, ⟨rfl, rfl, rfl⟩, rfl, rfl⟩
  · conv => whnf
    refine And.intro (by (conv => whnf); exact ⟨⟨hB, hk⟩, hm⟩) ?_
    conv => whnf
    refine And.intro (by (conv => whnf); exact ⟨⟨hB, hk⟩, hm⟩) ?_
    conv => whnf
    refine And.intro (by (conv => whnf); exact ⟨⟨hB, hk⟩, hm⟩) ?_
    conv => whnf
    refine And.intro (by (conv => whnf); exact ⟨hB, hm⟩) ?_
    conv => whnf
    exact ⟨⟨110, rfl, rfl⟩, ⟨_, _, _, _, _, _, _, _, _, _, _, rfl, rfl, rfl⟩, ⟨rfl, rfl, rfl⟩, rfl, rfl⟩
  · conv => whnf
    refine And.intro (by (conv => whnf); exact ⟨⟨hB, hk⟩, hm⟩) ?_
    conv => whnf
    refine And.intro (by (conv => whnf); exact ⟨⟨hB, hk⟩, hm⟩) ?_
    conv => whnf
    refine And.intro (by (conv => whnf); exact ⟨⟨hB, hk⟩, hm⟩) ?_
    conv => whnf
    refine And.intro (by (conv => whnf); exact ⟨hB, hm⟩) ?_
    conv => whnf
    exact ⟨⟨110, rfl, rfl⟩, ⟨_, _, _, _, _, _, _, _, _, _, _, rfl, rfl, rfl⟩, ⟨rfl, rfl, rfl⟩, rfl, rfl⟩
  · conv => whnf
    refine And.intro (by (conv => whnf); exact ⟨⟨hB, hk⟩, hm⟩) ?_
    conv => whnf
    refine And.intro (by (conv => whnf); exact ⟨⟨hB, hk⟩, hm⟩) ?_
    conv => whnf
    refine And.intro (by (conv => whnf); exact ⟨⟨hB, hk⟩, hm⟩) ?_
    conv => whnf
    refine And.intro (by (conv => whnf); exact ⟨⟨hB, hk⟩, hm⟩) ?_
    conv => whnf
    refine draw_pan_ok (tabL_ok 3) (CI_ok (tabL_ok 3) 8) 5 ?_
    conv => whnf
    refine And.intro (by (conv => whnf); exact ⟨hB, hm⟩) ?_
    conv => whnf
    exact ⟨⟨110, rfl, rfl⟩, ⟨_, _, _, _, _, _, _, _, _, _, _, rfl, rfl, rfl⟩, ⟨rfl, rfl, rfl⟩, rfl, rfl⟩
  · conv => whnf
    refine And.intro (by (conv => whnf); exact ⟨⟨hB, hk⟩, hm⟩) ?_
    conv => whnf
    refine And.intro (by (conv => whnf); exact ⟨⟨hB, hk⟩, hm⟩) ?_
    conv => whnf
    refine And.intro (by (conv => whnf); exact ⟨⟨hB, hk⟩, hm⟩) ?_
    conv => whnf
    refine And.intro (by (conv => whnf); exact ⟨⟨hB, hk⟩, hm⟩) ?_
    conv => whnf
    refine draw_pan_ok (tabL_ok 3) (CI_ok (tabL_ok 3) 8) 5 ?_
    conv => whnf
    refine And.intro (by (conv => whnf); exact ⟨hB, hm⟩) ?_
    conv => whnf
    exact ⟨⟨110, rfl, rfl⟩, ⟨_, _, _, _, _, _, _, _, _, _, _, rfl, rfl, rfl⟩, ⟨rfl, rfl, rfl⟩, rfl, rfl⟩
  · conv => whnf
    refine And.intro (by (conv => whnf); exact ⟨⟨hB, hk⟩, hm⟩) ?_
    conv => whnf
    refine And.intro (by (conv => whnf); exact ⟨⟨hB, hk⟩, hm⟩) ?_
    conv => whnf
    refine And.intro (by (conv => whnf); exact ⟨⟨hB, hk⟩, hm⟩) ?_
    conv => whnf
    refine And.intro (by (conv => whnf); exact ⟨⟨hB, hk⟩, hm⟩) ?_
    conv => whnf
    refine draw_pan_ok (tabL_ok 3) (CI_ok (tabL_ok 3) 8) 5 ?_
    conv => whnf
    refine And.intro (by (conv => whnf); exact ⟨hB, hm⟩) ?_
    conv => whnf
    exact ⟨⟨110, rfl, rfl⟩, ⟨_, _, _, _, _, _, _, _, _, _, _, rfl, rfl, rfl⟩, ⟨rfl, rfl, rfl⟩, rfl, rfl⟩
  · conv => whnf
    refine And.intro (by (conv => whnf); exact ⟨⟨hB, hk⟩, hm⟩) ?_
    conv => whnf
    refine And.intro (by (conv => whnf); exact ⟨⟨hB, hk⟩, hm⟩) ?_
    conv => whnf
    refine And.intro (by (conv => whnf); exact ⟨⟨hB, hk⟩, hm⟩) ?_
    conv => whnf
    refine And.intro (by (conv => whnf); exact ⟨⟨hB, hk⟩, hm⟩) ?_
    conv => whnf
    refine draw_pan_ok (tabL_ok 3) (CI_ok (tabL_ok 3) 8) 5 ?_
    conv => whnf
    refine And.intro (by (conv => whnf); exact ⟨hB, hm⟩) ?_
    conv => whnf
    exact ⟨⟨110, rfl, rfl⟩, ⟨_, _, _, _, _, _, _, _, _, _, _, rfl, rfl, rfl⟩, ⟨rfl, rfl, rfl⟩, rfl, rfl⟩

theorem readL4_c (g : Nat → Int) (n : Nat) (hb : ∀ i, i < n → 0 ≤ g i ∧ g i < 256) (h1 : 1 ≤ n) (hn : n < many 4) (hm : n ≤ maxLen) (hk : g 0 = 4) (x : Value) (w : World) (hx : RowV w 1 n (rowB g) x) : Calls Tryd.prog 10 #[x] w fun e w' => e = .returned (noV 110) ∧ Below w.heap.size w w' := by
  refine read_run (tabL_ok 4) (CI_ok (tabL_ok 4) 8) (n := n) (get := rowB g) _ ?_ w hx
  have hB := bytesG_rowB hb
  have hn' : n < 8 := hn
  obtain rfl | rfl | rfl | rfl | rfl | rfl | rfl : n = 1 ∨ n = 2 ∨ n = 3 ∨ n = 4 ∨ n = 5 ∨ n = 6 ∨ n = 7 := by omega
  · conv => whnf
    refine And.intro (by (conv => whnf); exact ⟨⟨hB, hk⟩, hm⟩) ?_
    conv => whnf
    refine And.intro (by (conv => whnf); exact ⟨hB, hm⟩) ?_
    conv => whnf
    exact ⟨⟨110, rfl, rfl⟩, ⟨_, _, _, _, _, _, _, _, _, _, _, rfl, rfl, rfl⟩, ⟨rfl, rfl, rfl⟩, rfl, rfl⟩
  · conv => whnf
    refine And.intro (by (conv => whnf); exact ⟨⟨hB, hk⟩, hm⟩) ?_
    conv => whnf
    refine And.intro (by (conv => whnf); exact ⟨hB, hm⟩) ?_
    conv => whnf
    exact ⟨⟨110, rfl, rfl⟩, ⟨_, _, _, _, _, _, _, _, _, _, _, rfl, rfl, rfl⟩, ⟨rfl, rfl, rfl⟩, rfl, rfl⟩
  · conv => whnf
    refine And.intro (by (conv => whnf); exact ⟨⟨hB, hk⟩, hm⟩) ?_
    conv => whnf
    refine And.intro (by (conv => whnf); exact ⟨⟨hB, hk⟩, hm⟩) ?_
    conv => whnf
    refine And.intro (by (conv => whnf); exact ⟨hB, hm⟩) ?_
    conv => whnf
    exact ⟨⟨110, rfl, rfl⟩, ⟨_, _, _, _, _, _, _, _, _, _, _, rfl, rfl, rfl⟩, ⟨rfl, rfl, rfl⟩, rfl, rfl⟩
  · conv => whnf
    refine And.intro (by (conv => whnf); exact ⟨⟨hB, hk⟩, hm⟩) ?_
    conv => whnf
    refine And.intro (by (conv => whnf); exact ⟨⟨hB, hk⟩, hm⟩) ?_
    conv => whnf
    refine And.intro (by (conv => whnf); exact ⟨⟨hB, hk⟩, hm⟩) ?_
    conv => whnf
    refine And.intro (by (conv => whnf); exact ⟨hB, hm⟩) ?_
    conv => whnf
    exact ⟨⟨110, rfl, rfl⟩, ⟨_, _, _, _, _, _, _, _, _, _, _, rfl, rfl, rfl⟩, ⟨rfl, rfl, rfl⟩, rfl, rfl⟩
  · conv => whnf
    refine And.intro (by (conv => whnf); exact ⟨⟨hB, hk⟩, hm⟩) ?_
    conv => whnf
    refine And.intro (by (conv => whnf); exact ⟨⟨hB, hk⟩, hm⟩) ?_
    conv => whnf
    refine And.intro (by (conv => whnf); exact ⟨⟨hB, hk⟩, hm⟩) ?_
    conv => whnf
    refine And.intro (by (conv => whnf); exact ⟨hB, hm⟩) ?_
    conv => whnf
    exact ⟨⟨110, rfl, rfl⟩, ⟨_, _, _, _, _, _, _, _, _, _, _, rfl, rfl, rfl⟩, ⟨rfl, rfl, rfl⟩, rfl, rfl⟩
  · conv => whnf
    refine And.intro (by (conv => whnf); exact ⟨⟨hB, hk⟩, hm⟩) ?_
    conv => whnf
    refine And.intro (by (conv => whnf); exact ⟨⟨hB, hk⟩, hm⟩) ?_
    conv => whnf
    refine And.intro (by (conv => whnf); exact ⟨⟨hB, hk⟩, hm⟩) ?_
    conv => whnf
    refine And.intro (by (conv => whnf); exact ⟨⟨hB, hk⟩, hm⟩) ?_
    conv => whnf
    refine draw_pan_ok (tabL_ok 4) (CI_ok (tabL_ok 4) 8) 5 ?_
    conv => whnf
    refine And.intro (by (conv => whnf); exact ⟨hB, hm⟩) ?_
    conv => whnf
    exact ⟨⟨110, rfl, rfl⟩, ⟨_, _, _, _, _, _, _, _, _, _, _, rfl, rfl, rfl⟩, ⟨rfl, rfl, rfl⟩, rfl, rfl⟩
  · conv => whnf
    refine And.intro (by (conv => whnf); exact ⟨⟨hB, hk⟩, hm⟩) ?_
    conv => whnf
    refine And.intro (by (conv => whnf); exact ⟨⟨hB, hk⟩, hm⟩) ?_
    conv => whnf
    refine And.intro (by (conv => whnf); exact ⟨⟨hB, hk⟩, hm⟩) ?_
    conv => whnf
    refine And.intro (by (conv => whnf); exact ⟨⟨hB, hk⟩, hm⟩) ?_
    conv => whnf
    refine draw_pan_ok (tabL_ok 4) (CI_ok (tabL_ok 4) 8) 5 ?_
    conv => whnf
    refine And.intro (by (conv => whnf); exact ⟨hB, hm⟩) ?_
    conv => whnf
    exact ⟨⟨110, rfl, rfl⟩, ⟨_, _, _, _, _, _, _, _, _, _, _, rfl, rfl, rfl⟩, ⟨rfl, rfl, rfl⟩, rfl, rfl⟩

theorem readL5_c (g : Nat → Int) (n : Nat) (hb : ∀ i, i < n → 0 ≤ g i ∧ g i < 256) (h1 : 1 ≤ n) (hn : n < many 5) (hm : n ≤ maxLen) (hk : g 0 = 5) (x : Value) (w : World) (hx : RowV w 1 n (rowB g) x) : Calls Tryd.prog 10 #[x] w fun e w' => e = .returned (noV 110) ∧ Below w.heap.size w w' := by
  refine read_run (tabL_ok 5) (CI_ok (tabL_ok 5) 8) (n := n) (get := rowB g) _ ?_ w hx
  have hB := bytesG_rowB hb
  have hn' : n < 7 := hn
  obtain rfl | rfl | rfl | rfl | rfl | rfl : n = 1 ∨ n = 2 ∨ n = 3 ∨ n = 4 ∨ n = 5 ∨ n = 6 := by omega
  · conv => whnf
    refine And.intro (by (conv => whnf); exact ⟨⟨hB, hk⟩, hm⟩) ?_
    conv => whnf
    refine And.intro (by (conv => whnf); exact ⟨hB, hm⟩) ?_
    conv => whnf
    exact ⟨⟨110, rfl, rfl⟩, ⟨_, _, _, _, _, _, _, _, _, _, _, rfl, rfl, rfl⟩, ⟨rfl, rfl, rfl⟩, rfl, rfl⟩
  · conv => whnf
    refine And.intro (by (conv => whnf); exact ⟨⟨hB, hk⟩, hm⟩) ?_
    conv => whnf
    refine And.intro (by (conv => whnf); exact ⟨hB, hm⟩) ?_
    conv => whnf
    exact ⟨⟨110, rfl, rfl⟩, ⟨_, _, _, _, _, _, _, _, _, _, _, rfl, rfl, rfl⟩, ⟨rfl, rfl, rfl⟩, rfl, rfl⟩
  · conv => whnf
    refine And.intro (by (conv => whnf); exact ⟨⟨hB, hk⟩, hm⟩) ?_
    conv => whnf
    refine And.intro (by (conv => whnf); exact ⟨⟨hB, hk⟩, hm⟩) ?_
    conv => whnf
    refine And.intro (by (conv => whnf); exact ⟨hB, hm⟩) ?_
    conv => whnf
    exact ⟨⟨110, rfl, rfl⟩, ⟨_, _, _, _, _, _, _, _, _, _, _, rfl, rfl, rfl⟩, ⟨rfl, rfl, rfl⟩, rfl, rfl⟩
  · conv => whnf
    refine And.intro (by (conv => whnf); exact ⟨⟨hB, hk⟩, hm⟩) ?_
    conv => whnf
    refine And.intro (by (conv => whnf); exact ⟨⟨hB, hk⟩, hm⟩) ?_
    conv => whnf
    refine And.intro (by (conv => whnf); exact ⟨⟨hB, hk⟩, hm⟩) ?_
    conv => whnf
    refine And.intro (by (conv => whnf); exact ⟨hB, hm⟩) ?_
    conv => whnf
    exact ⟨⟨110, rfl, rfl⟩, ⟨_, _, _, _, _, _, _, _, _, _, _, rfl, rfl, rfl⟩, ⟨rfl, rfl, rfl⟩, rfl, rfl⟩
  · conv => whnf
    refine And.intro (by (conv => whnf); exact ⟨⟨hB, hk⟩, hm⟩) ?_
    conv => whnf
    refine And.intro (by (conv => whnf); exact ⟨⟨hB, hk⟩, hm⟩) ?_
    conv => whnf
    refine And.intro (by (conv => whnf); exact ⟨⟨hB, hk⟩, hm⟩) ?_
    conv => whnf
    refine And.intro (by (conv => whnf); exact ⟨hB, hm⟩) ?_
    conv => whnf
    exact ⟨⟨110, rfl, rfl⟩, ⟨_, _, _, _, _, _, _, _, _, _, _, rfl, rfl, rfl⟩, ⟨rfl, rfl, rfl⟩, rfl, rfl⟩
  · conv => whnf
    refine And.intro (by (conv => whnf); exact ⟨⟨hB, hk⟩, hm⟩) ?_
    conv => whnf
    refine And.intro (by (conv => whnf); exact ⟨⟨hB, hk⟩, hm⟩) ?_
    conv => whnf
    refine And.intro (by (conv => whnf); exact ⟨⟨hB, hk⟩, hm⟩) ?_
    conv => whnf
    refine And.intro (by (conv => whnf); exact ⟨⟨hB, hk⟩, hm⟩) ?_
    conv => whnf
    refine draw_pan_ok (tabL_ok 5) (CI_ok (tabL_ok 5) 8) 5 ?_
    conv => whnf
    refine And.intro (by (conv => whnf); exact ⟨hB, hm⟩) ?_
    conv => whnf
    exact ⟨⟨110, rfl, rfl⟩, ⟨_, _, _, _, _, _, _, _, _, _, _, rfl, rfl, rfl⟩, ⟨rfl, rfl, rfl⟩, rfl, rfl⟩

theorem readL6_c (g : Nat → Int) (n : Nat) (hb : ∀ i, i < n → 0 ≤ g i ∧ g i < 256) (h1 : 1 ≤ n) (hn : n < many 6) (hm : n ≤ maxLen) (hk : g 0 = 6) (x : Value) (w : World) (hx : RowV w 1 n (rowB g) x) : Calls Tryd.prog 10 #[x] w fun e w' => e = .returned (noV 110) ∧ Below w.heap.size w w' := by
  refine read_run (tabL_ok 6) (CI_ok (tabL_ok 6) 8) (n := n) (get := rowB g) _ ?_ w hx
  have hB := bytesG_rowB hb
  have hn' : n < 7 := hn
  obtain rfl | rfl | rfl | rfl | rfl | rfl : n = 1 ∨ n = 2 ∨ n = 3 ∨ n = 4 ∨ n = 5 ∨ n = 6 := by omega
  · conv => whnf
    refine And.intro (by (conv => whnf); exact ⟨⟨hB, hk⟩, hm⟩) ?_
    conv => whnf
    refine And.intro (by (conv => whnf); exact ⟨hB, hm⟩) ?_
    conv => whnf
    exact ⟨⟨110, rfl, rfl⟩, ⟨_, _, _, _, _, _, _, _, _, _, _, rfl, rfl, rfl⟩, ⟨rfl, rfl, rfl⟩, rfl, rfl⟩
  · conv => whnf
    refine And.intro (by (conv => whnf); exact ⟨⟨hB, hk⟩, hm⟩) ?_
    conv => whnf
    refine And.intro (by (conv => whnf); exact ⟨hB, hm⟩) ?_
    conv => whnf
    exact ⟨⟨110, rfl, rfl⟩, ⟨_, _, _, _, _, _, _, _, _, _, _, rfl, rfl, rfl⟩, ⟨rfl, rfl, rfl⟩, rfl, rfl⟩
  · conv => whnf
    refine And.intro (by (conv => whnf); exact ⟨⟨hB, hk⟩, hm⟩) ?_
    conv => whnf
    refine And.intro (by (conv => whnf); exact ⟨⟨hB, hk⟩, hm⟩) ?_
    conv => whnf
    refine And.intro (by (conv => whnf); exact ⟨hB, hm⟩) ?_
    conv => whnf
    exact ⟨⟨110, rfl, rfl⟩, ⟨_, _, _, _, _, _, _, _, _, _, _, rfl, rfl, rfl⟩, ⟨rfl, rfl, rfl⟩, rfl, rfl⟩
  · conv => whnf
    refine And.intro (by (conv => whnf); exact ⟨⟨hB, hk⟩, hm⟩) ?_
    conv => whnf
    refine And.intro (by (conv => whnf); exact ⟨⟨hB, hk⟩, hm⟩) ?_
    conv => whnf
    refine And.intro (by (conv => whnf); exact ⟨⟨hB, hk⟩, hm⟩) ?_
    conv => whnf
    refine And.intro (by (conv => whnf); exact ⟨hB, hm⟩) ?_
    conv => whnf
    exact ⟨⟨110, rfl, rfl⟩, ⟨_, _, _, _, _, _, _, _, _, _, _, rfl, rfl, rfl⟩, ⟨rfl, rfl, rfl⟩, rfl, rfl⟩
  · conv => whnf
    refine And.intro (by (conv => whnf); exact ⟨⟨hB, hk⟩, hm⟩) ?_
    conv => whnf
    refine And.intro (by (conv => whnf); exact ⟨⟨hB, hk⟩, hm⟩) ?_
    conv => whnf
    refine And.intro (by (conv => whnf); exact ⟨⟨hB, hk⟩, hm⟩) ?_
    conv => whnf
    refine And.intro (by (conv => whnf); exact ⟨hB, hm⟩) ?_
    conv => whnf
    exact ⟨⟨110, rfl, rfl⟩, ⟨_, _, _, _, _, _, _, _, _, _, _, rfl, rfl, rfl⟩, ⟨rfl, rfl, rfl⟩, rfl, rfl⟩
  · conv => whnf
    refine And.intro (by (conv => whnf); exact ⟨⟨hB, hk⟩, hm⟩) ?_
    conv => whnf
    refine And.intro (by (conv => whnf); exact ⟨⟨hB, hk⟩, hm⟩) ?_
    conv => whnf
    refine And.intro (by (conv => whnf); exact ⟨⟨hB, hk⟩, hm⟩) ?_
    conv => whnf
    refine And.intro (by (conv => whnf); exact ⟨⟨hB, hk⟩, hm⟩) ?_
    conv => whnf
    refine draw_pan_ok (tabL_ok 6) (CI_ok (tabL_ok 6) 8) 5 ?_
    conv => whnf
    refine And.intro (by (conv => whnf); exact ⟨hB, hm⟩) ?_
    conv => whnf
    exact ⟨⟨110, rfl, rfl⟩, ⟨_, _, _, _, _, _, _, _, _, _, _, rfl, rfl, rfl⟩, ⟨rfl, rfl, rfl⟩, rfl, rfl⟩

theorem readL7_c (g : Nat → Int) (n : Nat) (hb : ∀ i, i < n → 0 ≤ g i ∧ g i < 256) (h1 : 1 ≤ n) (hn : n < many 7) (hm : n ≤ maxLen) (hk : g 0 = 7) (x : Value) (w : World) (hx : RowV w 1 n (rowB g) x) : Calls Tryd.prog 10 #[x] w fun e w' => e = .returned (noV 110) ∧ Below w.heap.size w w' := by
  refine read_run (tabL_ok 7) (CI_ok (tabL_ok 7) 8) (n := n) (get := rowB g) _ ?_ w hx
  have hB := bytesG_rowB hb
  have hn' : n < 7 := hn
  obtain rfl | rfl | rfl | rfl | rfl | rfl : n = 1 ∨ n = 2 ∨ n = 3 ∨ n = 4 ∨ n = 5 ∨ n = 6 := by omega
  · conv => whnf
    refine And.intro (by (conv => whnf); exact ⟨⟨hB, hk⟩, hm⟩) ?_
    conv => whnf
    refine And.intro (by (conv => whnf); exact ⟨hB, hm⟩) ?_
    conv => whnf
    exact ⟨⟨110, rfl, rfl⟩, ⟨_, _, _, _, _, _, _, _, _, _, _, rfl, rfl, rfl⟩, ⟨rfl, rfl, rfl⟩, rfl, rfl⟩
  · conv => whnf
    refine And.intro (by (conv => whnf); exact ⟨⟨hB, hk⟩, hm⟩) ?_
    conv => whnf
    refine And.intro (by (conv => whnf); exact ⟨hB, hm⟩) ?_
    conv => whnf
    exact ⟨⟨110, rfl, rfl⟩, ⟨_, _, _, _, _, _, _, _, _, _, _, rfl, rfl, rfl⟩, ⟨rfl, rfl, rfl⟩, rfl, rfl⟩
  · conv => whnf
    refine And.intro (by (conv => whnf); exact ⟨⟨hB, hk⟩, hm⟩) ?_
    conv => whnf
    refine And.intro (by (conv => whnf); exact ⟨⟨hB, hk⟩, hm⟩) ?_
    conv => whnf
    refine And.intro (by (conv => whnf); exact ⟨hB, hm⟩) ?_
    conv => whnf
    exact ⟨⟨110, rfl, rfl⟩, ⟨_, _, _, _, _, _, _, _, _, _, _, rfl, rfl, rfl⟩, ⟨rfl, rfl, rfl⟩, rfl, rfl⟩
  · conv => whnf
    refine And.intro (by (conv => whnf); exact ⟨⟨hB, hk⟩, hm⟩) ?_
    conv => whnf
    refine And.intro (by (conv => whnf); exact ⟨⟨hB, hk⟩, hm⟩) ?_
    conv => whnf
    refine And.intro (by (conv => whnf); exact ⟨⟨hB, hk⟩, hm⟩) ?_
    conv => whnf
    refine And.intro (by (conv => whnf); exact ⟨hB, hm⟩) ?_
    conv => whnf
    exact ⟨⟨110, rfl, rfl⟩, ⟨_, _, _, _, _, _, _, _, _, _, _, rfl, rfl, rfl⟩, ⟨rfl, rfl, rfl⟩, rfl, rfl⟩
  · conv => whnf
    refine And.intro (by (conv => whnf); exact ⟨⟨hB, hk⟩, hm⟩) ?_
    conv => whnf
    refine And.intro (by (conv => whnf); exact ⟨⟨hB, hk⟩, hm⟩) ?_
    conv => whnf
    refine And.intro (by (conv => whnf); exact ⟨⟨hB, hk⟩, hm⟩) ?_
    conv => whnf
    refine And.intro (by (conv => whnf); exact ⟨hB, hm⟩) ?_
    conv => whnf
    exact ⟨⟨110, rfl, rfl⟩, ⟨_, _, _, _, _, _, _, _, _, _, _, rfl, rfl, rfl⟩, ⟨rfl, rfl, rfl⟩, rfl, rfl⟩
  · conv => whnf
    refine And.intro (by (conv => whnf); exact ⟨⟨hB, hk⟩, hm⟩) ?_
    conv => whnf
    refine And.intro (by (conv => whnf); exact ⟨⟨hB, hk⟩, hm⟩) ?_
    conv => whnf
    refine And.intro (by (conv => whnf); exact ⟨⟨hB, hk⟩, hm⟩) ?_
    conv => whnf
    refine And.intro (by (conv => whnf); exact ⟨⟨hB, hk⟩, hm⟩) ?_
    conv => whnf
    refine draw_pan_ok (tabL_ok 7) (CI_ok (tabL_ok 7) 8) 5 ?_
    conv => whnf
    refine And.intro (by (conv => whnf); exact ⟨hB, hm⟩) ?_
    conv => whnf
    exact ⟨⟨110, rfl, rfl⟩, ⟨_, _, _, _, _, _, _, _, _, _, _, rfl, rfl, rfl⟩, ⟨rfl, rfl, rfl⟩, rfl, rfl⟩

theorem readL8_c (g : Nat → Int) (n : Nat) (hb : ∀ i, i < n → 0 ≤ g i ∧ g i < 256) (h1 : 1 ≤ n) (hn : n < many 8) (hm : n ≤ maxLen) (hk : g 0 = 8) (x : Value) (w : World) (hx : RowV w 1 n (rowB g) x) : Calls Tryd.prog 10 #[x] w fun e w' => e = .returned (noV 110) ∧ Below w.heap.size w w' := by
  refine read_run (tabL_ok 8) (CI_ok (tabL_ok 8) 8) (n := n) (get := rowB g) _ ?_ w hx
  have hB := bytesG_rowB hb
  have hn' : n < 7 := hn
  obtain rfl | rfl | rfl | rfl | rfl | rfl : n = 1 ∨ n = 2 ∨ n = 3 ∨ n = 4 ∨ n = 5 ∨ n = 6 := by omega
  · conv => whnf
    refine And.intro (by (conv => whnf); exact ⟨⟨hB, hk⟩, hm⟩) ?_
    conv => whnf
    refine And.intro (by (conv => whnf); exact ⟨hB, hm⟩) ?_
    conv => whnf
    exact ⟨⟨110, rfl, rfl⟩, ⟨_, _, _, _, _, _, _, _, _, _, _, rfl, rfl, rfl⟩, ⟨rfl, rfl, rfl⟩, rfl, rfl⟩
  · conv => whnf
    refine And.intro (by (conv => whnf); exact ⟨⟨hB, hk⟩, hm⟩) ?_
    conv => whnf
    refine And.intro (by (conv => whnf); exact ⟨hB, hm⟩) ?_
    conv => whnf
    exact ⟨⟨110, rfl, rfl⟩, ⟨_, _, _, _, _, _, _, _, _, _, _, rfl, rfl, rfl⟩, ⟨rfl, rfl, rfl⟩, rfl, rfl⟩
  · conv => whnf
    refine And.intro (by (conv => whnf); exact ⟨⟨hB, hk⟩, hm⟩) ?_
    conv => whnf
    refine And.intro (by (conv => whnf); exact ⟨⟨hB, hk⟩, hm⟩) ?_
    conv => whnf
    refine And.intro (by (conv => whnf); exact ⟨hB, hm⟩) ?_
    conv => whnf
    exact ⟨⟨110, rfl, rfl⟩, ⟨_, _, _, _, _, _, _, _, _, _, _, rfl, rfl, rfl⟩, ⟨rfl, rfl, rfl⟩, rfl, rfl⟩
  · conv => whnf
    refine And.intro (by (conv => whnf); exact ⟨⟨hB, hk⟩, hm⟩) ?_
    conv => whnf
    refine And.intro (by (conv => whnf); exact ⟨⟨hB, hk⟩, hm⟩) ?_
    conv => whnf
    refine And.intro (by (conv => whnf); exact ⟨⟨hB, hk⟩, hm⟩) ?_
    conv => whnf
    refine And.intro (by (conv => whnf); exact ⟨hB, hm⟩) ?_
    conv => whnf
    exact ⟨⟨110, rfl, rfl⟩, ⟨_, _, _, _, _, _, _, _, _, _, _, rfl, rfl, rfl⟩, ⟨rfl, rfl, rfl⟩, rfl, rfl⟩
  · conv => whnf
    refine And.intro (by (conv => whnf); exact ⟨⟨hB, hk⟩, hm⟩) ?_
    conv => whnf
    refine And.intro (by (conv => whnf); exact ⟨⟨hB, hk⟩, hm⟩) ?_
    conv => whnf
    refine And.intro (by (conv => whnf); exact ⟨⟨hB, hk⟩, hm⟩) ?_
    conv => whnf
    refine And.intro (by (conv => whnf); exact ⟨hB, hm⟩) ?_
    conv => whnf
    exact ⟨⟨110, rfl, rfl⟩, ⟨_, _, _, _, _, _, _, _, _, _, _, rfl, rfl, rfl⟩, ⟨rfl, rfl, rfl⟩, rfl, rfl⟩
  · conv => whnf
    refine And.intro (by (conv => whnf); exact ⟨⟨hB, hk⟩, hm⟩) ?_
    conv => whnf
    refine And.intro (by (conv => whnf); exact ⟨⟨hB, hk⟩, hm⟩) ?_
    conv => whnf
    refine And.intro (by (conv => whnf); exact ⟨⟨hB, hk⟩, hm⟩) ?_
    conv => whnf
    refine And.intro (by (conv => whnf); exact ⟨⟨hB, hk⟩, hm⟩) ?_
    conv => whnf
    refine draw_pan_ok (tabL_ok 8) (CI_ok (tabL_ok 8) 8) 5 ?_
    conv => whnf
    refine And.intro (by (conv => whnf); exact ⟨hB, hm⟩) ?_
    conv => whnf
    exact ⟨⟨110, rfl, rfl⟩, ⟨_, _, _, _, _, _, _, _, _, _, _, rfl, rfl, rfl⟩, ⟨rfl, rfl, rfl⟩, rfl, rfl⟩

theorem readL9_c (g : Nat → Int) (n : Nat) (hb : ∀ i, i < n → 0 ≤ g i ∧ g i < 256) (h1 : 1 ≤ n) (hn : n < many 9) (hm : n ≤ maxLen) (hk : g 0 = 9) (x : Value) (w : World) (hx : RowV w 1 n (rowB g) x) : Calls Tryd.prog 10 #[x] w fun e w' => e = .returned (noV 110) ∧ Below w.heap.size w w' := by
  refine read_run (tabL_ok 9) (CI_ok (tabL_ok 9) 8) (n := n) (get := rowB g) _ ?_ w hx
  have hB := bytesG_rowB hb
  have hn' : n < 7 := hn
  obtain rfl | rfl | rfl | rfl | rfl | rfl : n = 1 ∨ n = 2 ∨ n = 3 ∨ n = 4 ∨ n = 5 ∨ n = 6 := by omega
  · conv => whnf
    refine And.intro (by (conv => whnf); exact ⟨⟨hB, hk⟩, hm⟩) ?_
    conv => whnf
    refine And.intro (by (conv => whnf); exact ⟨hB, hm⟩) ?_
    conv => whnf
    exact ⟨⟨110, rfl, rfl⟩, ⟨_, _, _, _, _, _, _, _, _, _, _, rfl, rfl, rfl⟩, ⟨rfl, rfl, rfl⟩, rfl, rfl⟩
  · conv => whnf
    refine And.intro (by (conv => whnf); exact ⟨⟨hB, hk⟩, hm⟩) ?_
    conv => whnf
    refine And.intro (by (conv => whnf); exact ⟨hB, hm⟩) ?_
    conv => whnf
    exact ⟨⟨110, rfl, rfl⟩, ⟨_, _, _, _, _, _, _, _, _, _, _, rfl, rfl, rfl⟩, ⟨rfl, rfl, rfl⟩, rfl, rfl⟩
  · conv => whnf
    refine And.intro (by (conv => whnf); exact ⟨⟨hB, hk⟩, hm⟩) ?_
    conv => whnf
    refine And.intro (by (conv => whnf); exact ⟨⟨hB, hk⟩, hm⟩) ?_
    conv => whnf
    refine And.intro (by (conv => whnf); exact ⟨hB, hm⟩) ?_
    conv => whnf
    exact ⟨⟨110, rfl, rfl⟩, ⟨_, _, _, _, _, _, _, _, _, _, _, rfl, rfl, rfl⟩, ⟨rfl, rfl, rfl⟩, rfl, rfl⟩
  · conv => whnf
    refine And.intro (by (conv => whnf); exact ⟨⟨hB, hk⟩, hm⟩) ?_
    conv => whnf
    refine And.intro (by (conv => whnf); exact ⟨⟨hB, hk⟩, hm⟩) ?_
    conv => whnf
    refine And.intro (by (conv => whnf); exact ⟨⟨hB, hk⟩, hm⟩) ?_
    conv => whnf
    refine And.intro (by (conv => whnf); exact ⟨hB, hm⟩) ?_
    conv => whnf
    exact ⟨⟨110, rfl, rfl⟩, ⟨_, _, _, _, _, _, _, _, _, _, _, rfl, rfl, rfl⟩, ⟨rfl, rfl, rfl⟩, rfl, rfl⟩
  · conv => whnf
    refine And.intro (by (conv => whnf); exact ⟨⟨hB, hk⟩, hm⟩) ?_
    conv => whnf
    refine And.intro (by (conv => whnf); exact ⟨⟨hB, hk⟩, hm⟩) ?_
    conv => whnf
    refine And.intro (by (conv => whnf); exact ⟨⟨hB, hk⟩, hm⟩) ?_
    conv => whnf
    refine And.intro (by (conv => whnf); exact ⟨hB, hm⟩) ?_
    conv => whnf
    exact ⟨⟨110, rfl, rfl⟩, ⟨_, _, _, _, _, _, _, _, _, _, _, rfl, rfl, rfl⟩, ⟨rfl, rfl, rfl⟩, rfl, rfl⟩
  · conv => whnf
    refine And.intro (by (conv => whnf); exact ⟨⟨hB, hk⟩, hm⟩) ?_
    conv => whnf
    refine And.intro (by (conv => whnf); exact ⟨⟨hB, hk⟩, hm⟩) ?_
    conv => whnf
    refine And.intro (by (conv => whnf); exact ⟨⟨hB, hk⟩, hm⟩) ?_
    conv => whnf
    refine And.intro (by (conv => whnf); exact ⟨⟨hB, hk⟩, hm⟩) ?_
    conv => whnf
    refine draw_pan_ok (tabL_ok 9) (CI_ok (tabL_ok 9) 8) 5 ?_
    conv => whnf
    refine And.intro (by (conv => whnf); exact ⟨hB, hm⟩) ?_
    conv => whnf
    exact ⟨⟨110, rfl, rfl⟩, ⟨_, _, _, _, _, _, _, _, _, _, _, rfl, rfl, rfl⟩, ⟨rfl, rfl, rfl⟩, rfl, rfl⟩

theorem readL10_c (g : Nat → Int) (n : Nat) (hb : ∀ i, i < n → 0 ≤ g i ∧ g i < 256) (h1 : 1 ≤ n) (hn : n < many 10) (hm : n ≤ maxLen) (hk : g 0 = 10) (x : Value) (w : World) (hx : RowV w 1 n (rowB g) x) : Calls Tryd.prog 10 #[x] w fun e w' => e = .returned (noV 110) ∧ Below w.heap.size w w' := by
  refine read_run (tabL_ok 10) (CI_ok (tabL_ok 10) 8) (n := n) (get := rowB g) _ ?_ w hx
  have hB := bytesG_rowB hb
  have hn' : n < 7 := hn
  obtain rfl | rfl | rfl | rfl | rfl | rfl : n = 1 ∨ n = 2 ∨ n = 3 ∨ n = 4 ∨ n = 5 ∨ n = 6 := by omega
  · conv => whnf
    refine And.intro (by (conv => whnf); exact ⟨⟨hB, hk⟩, hm⟩) ?_
    conv => whnf
    refine And.intro (by (conv => whnf); exact ⟨hB, hm⟩) ?_
    conv => whnf
    exact ⟨⟨110, rfl, rfl⟩, ⟨_, _, _, _, _, _, _, _, _, _, _, rfl, rfl, rfl⟩, ⟨rfl, rfl, rfl⟩, rfl, rfl⟩
  · conv => whnf
    refine And.intro (by (conv => whnf); exact ⟨⟨hB, hk⟩, hm⟩) ?_
    conv => whnf
    refine And.intro (by (conv => whnf); exact ⟨hB, hm⟩) ?_
    conv => whnf
    exact ⟨⟨110, rfl, rfl⟩, ⟨_, _, _, _, _, _, _, _, _, _, _, rfl, rfl, rfl⟩, ⟨rfl, rfl, rfl⟩, rfl, rfl⟩
  · conv => whnf
    refine And.intro (by (conv => whnf); exact ⟨⟨hB, hk⟩, hm⟩) ?_
    conv => whnf
    refine And.intro (by (conv => whnf); exact ⟨⟨hB, hk⟩, hm⟩) ?_
    conv => whnf
    refine And.intro (by (conv => whnf); exact ⟨hB, hm⟩) ?_
    conv => whnf
    exact ⟨⟨110, rfl, rfl⟩, ⟨_, _, _, _, _, _, _, _, _, _, _, rfl, rfl, rfl⟩, ⟨rfl, rfl, rfl⟩, rfl, rfl⟩
  · conv => whnf
    refine And.intro (by (conv => whnf); exact ⟨⟨hB, hk⟩, hm⟩) ?_
    conv => whnf
    refine And.intro (by (conv => whnf); exact ⟨⟨hB, hk⟩, hm⟩) ?_
    conv => whnf
    refine And.intro (by (conv => whnf); exact ⟨⟨hB, hk⟩, hm⟩) ?_
    conv => whnf
    refine And.intro (by (conv => whnf); exact ⟨hB, hm⟩) ?_
    conv => whnf
    exact ⟨⟨110, rfl, rfl⟩, ⟨_, _, _, _, _, _, _, _, _, _, _, rfl, rfl, rfl⟩, ⟨rfl, rfl, rfl⟩, rfl, rfl⟩
  · conv => whnf
    refine And.intro (by (conv => whnf); exact ⟨⟨hB, hk⟩, hm⟩) ?_
    conv => whnf
    refine And.intro (by (conv => whnf); exact ⟨⟨hB, hk⟩, hm⟩) ?_
    conv => whnf
    refine And.intro (by (conv => whnf); exact ⟨⟨hB, hk⟩, hm⟩) ?_
    conv => whnf
    refine And.intro (by (conv => whnf); exact ⟨hB, hm⟩) ?_
    conv => whnf
    exact ⟨⟨110, rfl, rfl⟩, ⟨_, _, _, _, _, _, _, _, _, _, _, rfl, rfl, rfl⟩, ⟨rfl, rfl, rfl⟩, rfl, rfl⟩
  · conv => whnf
    refine And.intro (by (conv => whnf); exact ⟨⟨hB, hk⟩, hm⟩) ?_
    conv => whnf
    refine And.intro (by (conv => whnf); exact ⟨⟨hB, hk⟩, hm⟩) ?_
    conv => whnf
    refine And.intro (by (conv => whnf); exact ⟨⟨hB, hk⟩, hm⟩) ?_
    conv => whnf
    refine And.intro (by (conv => whnf); exact ⟨⟨hB, hk⟩, hm⟩) ?_
    conv => whnf
    refine draw_pan_ok (tabL_ok 10) (CI_ok (tabL_ok 10) 8) 5 ?_
    conv => whnf
    refine And.intro (by (conv => whnf); exact ⟨hB, hm⟩) ?_
    conv => whnf
    exact ⟨⟨110, rfl, rfl⟩, ⟨_, _, _, _, _, _, _, _, _, _, _, rfl, rfl, rfl⟩, ⟨rfl, rfl, rfl⟩, rfl, rfl⟩

theorem readL11_c (g : Nat → Int) (n : Nat) (hb : ∀ i, i < n → 0 ≤ g i ∧ g i < 256) (h1 : 1 ≤ n) (hn : n < many 11) (hm : n ≤ maxLen) (hk : g 0 = 11) (x : Value) (w : World) (hx : RowV w 1 n (rowB g) x) : Calls Tryd.prog 10 #[x] w fun e w' => e = .returned (noV 110) ∧ Below w.heap.size w w' := by
  refine read_run (tabL_ok 11) (CI_ok (tabL_ok 11) 8) (n := n) (get := rowB g) _ ?_ w hx
  have hB := bytesG_rowB hb
  have hn' : n < 11 := hn
  obtain rfl | rfl | rfl | rfl | rfl | rfl | rfl | rfl | rfl | rfl : n = 1 ∨ n = 2 ∨ n = 3 ∨ n = 4 ∨ n = 5 ∨ n = 6 ∨ n = 7 ∨ n = 8 ∨ n = 9 ∨ n = 10 := by omega
  · conv => whnf
    refine And.intro (by (conv => whnf); exact ⟨⟨hB, hk⟩, hm⟩) ?_
    conv => whnf
    refine And.intro (by (conv => whnf); exact ⟨hB, hm⟩) ?_
    conv => whnf
    exact ⟨⟨110, rfl, rfl⟩, ⟨_, _, _, _, _, _, _, _, _, _, _, rfl, rfl, rfl⟩, ⟨rfl, rfl, rfl⟩, rfl, rfl⟩
  · conv => whnf
    refine And.intro (by (conv => whnf); exact ⟨⟨hB, hk⟩, hm⟩) ?_
    conv => whnf
    refine And.intro (by (conv => whnf); exact ⟨hB, hm⟩) ?_
    conv => whnf
    exact ⟨⟨110, rfl, rfl⟩, ⟨_, _, _, _, _, _, _, _, _, _, _, rfl, rfl, rfl⟩, ⟨rfl, rfl, rfl⟩, rfl, rfl⟩
  · conv => whnf
    refine And.intro (by (conv => whnf); exact ⟨⟨hB, hk⟩, hm⟩) ?_
    conv => whnf
    refine And.intro (by (conv => whnf); exact ⟨⟨hB, hk⟩, hm⟩) ?_
    conv => whnf
    refine And.intro (by (conv => whnf); exact ⟨hB, hm⟩) ?_
    conv => whnf
    exact ⟨⟨110, rfl, rfl⟩, ⟨_, _, _, _, _, _, _, _, _, _, _, rfl, rfl, rfl⟩, ⟨rfl, rfl, rfl⟩, rfl, rfl⟩
  · conv => whnf
    refine And.intro (by (conv => whnf); exact ⟨⟨hB, hk⟩, hm⟩) ?_
    conv => whnf
    refine And.intro (by (conv => whnf); exact ⟨⟨hB, hk⟩, hm⟩) ?_
    conv => whnf
    refine And.intro (by (conv => whnf); exact ⟨⟨hB, hk⟩, hm⟩) ?_
    conv => whnf
    refine And.intro (by (conv => whnf); exact ⟨hB, hm⟩) ?_
    conv => whnf
    exact ⟨⟨110, rfl, rfl⟩, ⟨_, _, _, _, _, _, _, _, _, _, _, rfl, rfl, rfl⟩, ⟨rfl, rfl, rfl⟩, rfl, rfl⟩
  · conv => whnf
    refine And.intro (by (conv => whnf); exact ⟨⟨hB, hk⟩, hm⟩) ?_
    conv => whnf
    refine And.intro (by (conv => whnf); exact ⟨⟨hB, hk⟩, hm⟩) ?_
    conv => whnf
    refine And.intro (by (conv => whnf); exact ⟨⟨hB, hk⟩, hm⟩) ?_
    conv => whnf
    refine And.intro (by (conv => whnf); exact ⟨hB, hm⟩) ?_
    conv => whnf
    exact ⟨⟨110, rfl, rfl⟩, ⟨_, _, _, _, _, _, _, _, _, _, _, rfl, rfl, rfl⟩, ⟨rfl, rfl, rfl⟩, rfl, rfl⟩
  · conv => whnf
    refine And.intro (by (conv => whnf); exact ⟨⟨hB, hk⟩, hm⟩) ?_
    conv => whnf
    refine And.intro (by (conv => whnf); exact ⟨⟨hB, hk⟩, hm⟩) ?_
    conv => whnf
    refine And.intro (by (conv => whnf); exact ⟨⟨hB, hk⟩, hm⟩) ?_
    conv => whnf
    refine And.intro (by (conv => whnf); exact ⟨⟨hB, hk⟩, hm⟩) ?_
    conv => whnf
    refine draw_pan_ok (tabL_ok 11) (CI_ok (tabL_ok 11) 8) 5 ?_
    conv => whnf
    refine And.intro (by (conv => whnf); exact ⟨hB, hm⟩) ?_
    conv => whnf
    exact ⟨⟨110, rfl, rfl⟩, ⟨_, _, _, _, _, _, _, _, _, _, _, rfl, rfl, rfl⟩, ⟨rfl, rfl, rfl⟩, rfl, rfl⟩
  · conv => whnf
    refine And.intro (by (conv => whnf); exact ⟨⟨hB, hk⟩, hm⟩) ?_
    conv => whnf
    refine And.intro (by (conv => whnf); exact ⟨⟨hB, hk⟩, hm⟩) ?_
    conv => whnf
    refine And.intro (by (conv => whnf); exact ⟨⟨hB, hk⟩, hm⟩) ?_
    conv => whnf
    refine And.intro (by (conv => whnf); exact ⟨⟨hB, hk⟩, hm⟩) ?_
    conv => whnf
    refine draw_norm (tabL_ok 11) (CI_ok (tabL_ok 11) 8) ?_
    conv => whnf
    refine And.intro (by (conv => whnf); exact ⟨⟨hB, hk⟩, hm⟩) ?_
    conv => whnf
    refine draw_pan_ok (tabL_ok 11) (CI_ok (tabL_ok 11) 8) 5 ?_
    conv => whnf
    refine And.intro (by (conv => whnf); exact ⟨hB, hm⟩) ?_
    conv => whnf
    exact ⟨⟨110, rfl, rfl⟩, ⟨_, _, _, _, _, _, _, _, _, _, _, rfl, rfl, rfl⟩, ⟨rfl, rfl, rfl⟩, rfl, rfl⟩
  · conv => whnf
    refine And.intro (by (conv => whnf); exact ⟨⟨hB, hk⟩, hm⟩) ?_
    conv => whnf
    refine And.intro (by (conv => whnf); exact ⟨⟨hB, hk⟩, hm⟩) ?_
    conv => whnf
    refine And.intro (by (conv => whnf); exact ⟨⟨hB, hk⟩, hm⟩) ?_
    conv => whnf
    refine And.intro (by (conv => whnf); exact ⟨⟨hB, hk⟩, hm⟩) ?_
    conv => whnf
    refine draw_norm (tabL_ok 11) (CI_ok (tabL_ok 11) 8) ?_
    conv => whnf
    refine And.intro (by (conv => whnf); exact ⟨⟨hB, hk⟩, hm⟩) ?_
    conv => whnf
    refine draw_pan_ok (tabL_ok 11) (CI_ok (tabL_ok 11) 8) 5 ?_
    conv => whnf
    refine And.intro (by (conv => whnf); exact ⟨hB, hm⟩) ?_
    conv => whnf
    exact ⟨⟨110, rfl, rfl⟩, ⟨_, _, _, _, _, _, _, _, _, _, _, rfl, rfl, rfl⟩, ⟨rfl, rfl, rfl⟩, rfl, rfl⟩
  · conv => whnf
    refine And.intro (by (conv => whnf); exact ⟨⟨hB, hk⟩, hm⟩) ?_
    conv => whnf
    refine And.intro (by (conv => whnf); exact ⟨⟨hB, hk⟩, hm⟩) ?_
    conv => whnf
    refine And.intro (by (conv => whnf); exact ⟨⟨hB, hk⟩, hm⟩) ?_
    conv => whnf
    refine And.intro (by (conv => whnf); exact ⟨⟨hB, hk⟩, hm⟩) ?_
    conv => whnf
    refine draw_norm (tabL_ok 11) (CI_ok (tabL_ok 11) 8) ?_
    conv => whnf
    refine And.intro (by (conv => whnf); exact ⟨⟨hB, hk⟩, hm⟩) ?_
    conv => whnf
    refine draw_pan_ok (tabL_ok 11) (CI_ok (tabL_ok 11) 8) 5 ?_
    conv => whnf
    refine And.intro (by (conv => whnf); exact ⟨hB, hm⟩) ?_
    conv => whnf
    exact ⟨⟨110, rfl, rfl⟩, ⟨_, _, _, _, _, _, _, _, _, _, _, rfl, rfl, rfl⟩, ⟨rfl, rfl, rfl⟩, rfl, rfl⟩
  · conv => whnf
    refine And.intro (by (conv => whnf); exact ⟨⟨hB, hk⟩, hm⟩) ?_
    conv => whnf
    refine And.intro (by (conv => whnf); exact ⟨⟨hB, hk⟩, hm⟩) ?_
    conv => whnf
    refine And.intro (by (conv => whnf); exact ⟨⟨hB, hk⟩, hm⟩) ?_
    conv => whnf
    refine And.intro (by (conv => whnf); exact ⟨⟨hB, hk⟩, hm⟩) ?_
    conv => whnf
    refine draw_norm (tabL_ok 11) (CI_ok (tabL_ok 11) 8) ?_
    conv => whnf
    refine And.intro (by (conv => whnf); exact ⟨⟨hB, hk⟩, hm⟩) ?_
    conv => whnf
    refine draw_pan_ok (tabL_ok 11) (CI_ok (tabL_ok 11) 8) 5 ?_
    conv => whnf
    refine And.intro (by (conv => whnf); exact ⟨hB, hm⟩) ?_
    conv => whnf
    exact ⟨⟨110, rfl, rfl⟩, ⟨_, _, _, _, _, _, _, _, _, _, _, rfl, rfl, rfl⟩, ⟨rfl, rfl, rfl⟩, rfl, rfl⟩

theorem readL12_c (g : Nat → Int) (n : Nat) (hb : ∀ i, i < n → 0 ≤ g i ∧ g i < 256) (h1 : 1 ≤ n) (hn : n < many 12) (hm : n ≤ maxLen) (hk : g 0 = 12) (x : Value) (w : World) (hx : RowV w 1 n (rowB g) x) : Calls Tryd.prog 10 #[x] w fun e w' => e = .returned (noV 110) ∧ Below w.heap.size w w' := by
  refine read_run (tabL_ok 12) (CI_ok (tabL_ok 12) 8) (n := n) (get := rowB g) _ ?_ w hx
  have hB := bytesG_rowB hb
  have hn' : n < 7 := hn
  obtain rfl | rfl | rfl | rfl | rfl | rfl : n = 1 ∨ n = 2 ∨ n = 3 ∨ n = 4 ∨ n = 5 ∨ n = 6 := by omega
  · conv => whnf
    refine And.intro (by (conv => whnf); exact ⟨⟨hB, hk⟩, hm⟩) ?_
    conv => whnf
    refine And.intro (by (conv => whnf); exact ⟨hB, hm⟩) ?_
    conv => whnf
    exact ⟨⟨110, rfl, rfl⟩, ⟨_, _, _, _, _, _, _, _, _, _, _, rfl, rfl, rfl⟩, ⟨rfl, rfl, rfl⟩, rfl, rfl⟩
  · conv => whnf
    refine And.intro (by (conv => whnf); exact ⟨⟨hB, hk⟩, hm⟩) ?_
    conv => whnf
    refine And.intro (by (conv => whnf); exact ⟨hB, hm⟩) ?_
    conv => whnf
    exact ⟨⟨110, rfl, rfl⟩, ⟨_, _, _, _, _, _, _, _, _, _, _, rfl, rfl, rfl⟩, ⟨rfl, rfl, rfl⟩, rfl, rfl⟩
  · conv => whnf
    refine And.intro (by (conv => whnf); exact ⟨⟨hB, hk⟩, hm⟩) ?_
    conv => whnf
    refine And.intro (by (conv => whnf); exact ⟨⟨hB, hk⟩, hm⟩) ?_
    conv => whnf
    refine And.intro (by (conv => whnf); exact ⟨hB, hm⟩) ?_
    conv => whnf
    exact ⟨⟨110, rfl, rfl⟩, ⟨_, _, _, _, _, _, _, _, _, _, _, rfl, rfl, rfl⟩, ⟨rfl, rfl, rfl⟩, rfl, rfl⟩
  · conv => whnf
    refine And.intro (by (conv => whnf); exact ⟨⟨hB, hk⟩, hm⟩) ?_
    conv => whnf
    refine And.intro (by (conv => whnf); exact ⟨⟨hB, hk⟩, hm⟩) ?_
    conv => whnf
    refine And.intro (by (conv => whnf); exact ⟨⟨hB, hk⟩, hm⟩) ?_
    conv => whnf
    refine And.intro (by (conv => whnf); exact ⟨hB, hm⟩) ?_
    conv => whnf
    exact ⟨⟨110, rfl, rfl⟩, ⟨_, _, _, _, _, _, _, _, _, _, _, rfl, rfl, rfl⟩, ⟨rfl, rfl, rfl⟩, rfl, rfl⟩
  · conv => whnf
    refine And.intro (by (conv => whnf); exact ⟨⟨hB, hk⟩, hm⟩) ?_
    conv => whnf
    refine And.intro (by (conv => whnf); exact ⟨⟨hB, hk⟩, hm⟩) ?_
    conv => whnf
    refine And.intro (by (conv => whnf); exact ⟨⟨hB, hk⟩, hm⟩) ?_
    conv => whnf
    refine And.intro (by (conv => whnf); exact ⟨hB, hm⟩) ?_
    conv => whnf
    exact ⟨⟨110, rfl, rfl⟩, ⟨_, _, _, _, _, _, _, _, _, _, _, rfl, rfl, rfl⟩, ⟨rfl, rfl, rfl⟩, rfl, rfl⟩
  · conv => whnf
    refine And.intro (by (conv => whnf); exact ⟨⟨hB, hk⟩, hm⟩) ?_
    conv => whnf
    refine And.intro (by (conv => whnf); exact ⟨⟨hB, hk⟩, hm⟩) ?_
    conv => whnf
    refine And.intro (by (conv => whnf); exact ⟨⟨hB, hk⟩, hm⟩) ?_
    conv => whnf
    refine And.intro (by (conv => whnf); exact ⟨⟨hB, hk⟩, hm⟩) ?_
    conv => whnf
    refine draw_pan_ok (tabL_ok 12) (CI_ok (tabL_ok 12) 8) 5 ?_
    conv => whnf
    refine And.intro (by (conv => whnf); exact ⟨hB, hm⟩) ?_
    conv => whnf
    exact ⟨⟨110, rfl, rfl⟩, ⟨_, _, _, _, _, _, _, _, _, _, _, rfl, rfl, rfl⟩, ⟨rfl, rfl, rfl⟩, rfl, rfl⟩

theorem readL13_c (g : Nat → Int) (n : Nat) (hb : ∀ i, i < n → 0 ≤ g i ∧ g i < 256) (h1 : 1 ≤ n) (hn : n < many 13) (hm : n ≤ maxLen) (hk : g 0 = 13) (x : Value) (w : World) (hx : RowV w 1 n (rowB g) x) : Calls Tryd.prog 10 #[x] w fun e w' => e = .returned (noV 110) ∧ Below w.heap.size w w' := by
  refine read_run (tabL_ok 13) (CI_ok (tabL_ok 13) 8) (n := n) (get := rowB g) _ ?_ w hx
  have hB := bytesG_rowB hb
  have hn' : n < 6 := hn
  obtain rfl | rfl | rfl | rfl | rfl : n = 1 ∨ n = 2 ∨ n = 3 ∨ n = 4 ∨ n = 5 := by omega
  · conv => whnf
    refine And.intro (by (conv => whnf); exact ⟨⟨hB, hk⟩, hm⟩) ?_
    conv => whnf
    refine And.intro (by (conv => whnf); exact ⟨hB, hm⟩) ?_
    conv => whnf
    exact ⟨⟨110, rfl, rfl⟩, ⟨_, _, _, _, _, _, _, _, _, _, _, rfl, rfl, rfl⟩, ⟨rfl, rfl, rfl⟩, rfl, rfl⟩
  · conv => whnf
    refine And.intro (by (conv => whnf); exact ⟨⟨hB, hk⟩, hm⟩) ?_
    conv => whnf
    refine And.intro (by (conv => whnf); exact ⟨hB, hm⟩) ?_
    conv => whnf
    exact ⟨⟨110, rfl, rfl⟩, ⟨_, _, _, _, _, _, _, _, _, _, _, rfl, rfl, rfl⟩, ⟨rfl, rfl, rfl⟩, rfl, rfl⟩
  · conv => whnf
    refine And.intro (by (conv => whnf); exact ⟨⟨hB, hk⟩, hm⟩) ?_
    conv => whnf
    refine And.intro (by (conv => whnf); exact ⟨⟨hB, hk⟩, hm⟩) ?_
    conv => whnf
    refine And.intro (by (conv => whnf); exact ⟨hB, hm⟩) ?_
    conv => whnf
    exact ⟨⟨110, rfl, rfl⟩, ⟨_, _, _, _, _, _, _, _, _, _, _, rfl, rfl, rfl⟩, ⟨rfl, rfl, rfl⟩, rfl, rfl⟩
  · conv => whnf
    refine And.intro (by (conv => whnf); exact ⟨⟨hB, hk⟩, hm⟩) ?_
    conv => whnf
    refine And.intro (by (conv => whnf); exact ⟨⟨hB, hk⟩, hm⟩) ?_
    conv => whnf
    refine And.intro (by (conv => whnf); exact ⟨⟨hB, hk⟩, hm⟩) ?_
    conv => whnf
    refine And.intro (by (conv => whnf); exact ⟨hB, hm⟩) ?_
    conv => whnf
    exact ⟨⟨110, rfl, rfl⟩, ⟨_, _, _, _, _, _, _, _, _, _, _, rfl, rfl, rfl⟩, ⟨rfl, rfl, rfl⟩, rfl, rfl⟩
  · conv => whnf
    refine And.intro (by (conv => whnf); exact ⟨⟨hB, hk⟩, hm⟩) ?_
    conv => whnf
    refine And.intro (by (conv => whnf); exact ⟨⟨hB, hk⟩, hm⟩) ?_
    conv => whnf
    refine And.intro (by (conv => whnf); exact ⟨⟨hB, hk⟩, hm⟩) ?_
    conv => whnf
    refine And.intro (by (conv => whnf); exact ⟨hB, hm⟩) ?_
    conv => whnf
    exact ⟨⟨110, rfl, rfl⟩, ⟨_, _, _, _, _, _, _, _, _, _, _, rfl, rfl, rfl⟩, ⟨rfl, rfl, rfl⟩, rfl, rfl⟩

theorem readL14_c (g : Nat → Int) (n : Nat) (hb : ∀ i, i < n → 0 ≤ g i ∧ g i < 256) (h1 : 1 ≤ n) (hn : n < many 14) (hm : n ≤ maxLen) (hk : g 0 = 14) (x : Value) (w : World) (hx : RowV w 1 n (rowB g) x) : Calls Tryd.prog 10 #[x] w fun e w' => e = .returned (noV 110) ∧ Below w.heap.size w w' := by
  refine read_run (tabL_ok 14) (CI_ok (tabL_ok 14) 8) (n := n) (get := rowB g) _ ?_ w hx
  have hB := bytesG_rowB hb
  have hn' : n < 7 := hn
  obtain rfl | rfl | rfl | rfl | rfl | rfl : n = 1 ∨ n = 2 ∨ n = 3 ∨ n = 4 ∨ n = 5 ∨ n = 6 := by omega
  · conv => whnf
    refine And.intro (by (conv => whnf); exact ⟨⟨hB, hk⟩, hm⟩) ?_
    conv => whnf
    refine And.intro (by (conv => whnf); exact ⟨hB, hm⟩) ?_
    conv => whnf
    exact ⟨⟨110, rfl, rfl⟩, ⟨_, _, _, _, _, _, _, _, _, _, _, rfl, rfl, rfl⟩, ⟨rfl, rfl, rfl⟩, rfl, rfl⟩
  · conv => whnf
    refine And.intro (by (conv => whnf); exact ⟨⟨hB, hk⟩, hm⟩) ?_
    conv => whnf
    refine And.intro (by (conv => whnf); exact ⟨hB, hm⟩) ?_
    conv => whnf
    exact ⟨⟨110, rfl, rfl⟩, ⟨_, _, _, _, _, _, _, _, _, _, _, rfl, rfl, rfl⟩, ⟨rfl, rfl, rfl⟩, rfl, rfl⟩
  · conv => whnf
    refine And.intro (by (conv => whnf); exact ⟨⟨hB, hk⟩, hm⟩) ?_
    conv => whnf
    refine And.intro (by (conv => whnf); exact ⟨⟨hB, hk⟩, hm⟩) ?_
    conv => whnf
    refine And.intro (by (conv => whnf); exact ⟨hB, hm⟩) ?_
    conv => whnf
    exact ⟨⟨110, rfl, rfl⟩, ⟨_, _, _, _, _, _, _, _, _, _, _, rfl, rfl, rfl⟩, ⟨rfl, rfl, rfl⟩, rfl, rfl⟩
  · conv => whnf
    refine And.intro (by (conv => whnf); exact ⟨⟨hB, hk⟩, hm⟩) ?_
    conv => whnf
    refine And.intro (by (conv => whnf); exact ⟨⟨hB, hk⟩, hm⟩) ?_
    conv => whnf
    refine And.intro (by (conv => whnf); exact ⟨⟨hB, hk⟩, hm⟩) ?_
    conv => whnf
    refine And.intro (by (conv => whnf); exact ⟨hB, hm⟩) ?_
    conv => whnf
    exact ⟨⟨110, rfl, rfl⟩, ⟨_, _, _, _, _, _, _, _, _, _, _, rfl, rfl, rfl⟩, ⟨rfl, rfl, rfl⟩, rfl, rfl⟩
  · conv => whnf
    refine And.intro (by (conv => whnf); exact ⟨⟨hB, hk⟩, hm⟩) ?_
    conv => whnf
    refine And.intro (by (conv => whnf); exact ⟨⟨hB, hk⟩, hm⟩) ?_
    conv => whnf
    refine And.intro (by (conv => whnf); exact ⟨⟨hB, hk⟩, hm⟩) ?_
    conv => whnf
    refine And.intro (by (conv => whnf); exact ⟨hB, hm⟩) ?_
    conv => whnf
    exact ⟨⟨110, rfl, rfl⟩, ⟨_, _, _, _, _, _, _, _, _, _, _, rfl, rfl, rfl⟩, ⟨rfl, rfl, rfl⟩, rfl, rfl⟩
  · conv => whnf
    refine And.intro (by (conv => whnf); exact ⟨⟨hB, hk⟩, hm⟩) ?_
    conv => whnf
    refine And.intro (by (conv => whnf); exact ⟨⟨hB, hk⟩, hm⟩) ?_
    conv => whnf
    refine And.intro (by (conv => whnf); exact ⟨⟨hB, hk⟩, hm⟩) ?_
    conv => whnf
    refine And.intro (by (conv => whnf); exact ⟨⟨hB, hk⟩, hm⟩) ?_
    conv => whnf
    refine draw_pan_ok (tabL_ok 14) (CI_ok (tabL_ok 14) 8) 5 ?_
    conv => whnf
    refine And.intro (by (conv => whnf); exact ⟨hB, hm⟩) ?_
    conv => whnf
    exact ⟨⟨110, rfl, rfl⟩, ⟨_, _, _, _, _, _, _, _, _, _, _, rfl, rfl, rfl⟩, ⟨rfl, rfl, rfl⟩, rfl, rfl⟩
end Go.Proofs.YtiibmnoikgfcbaaDoor
