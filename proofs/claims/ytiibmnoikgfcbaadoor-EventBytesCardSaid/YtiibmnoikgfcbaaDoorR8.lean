/- Read (function 10), by kinds. The bytes are bytes. -/
import Derived.Test.YtiibmnoikgfcbaaDoorR6
import Derived.Test.YtiibmnoikgfcbaaDoorQ1
namespace Go.Proofs.YtiibmnoikgfcbaaDoor
open Go Go.Sx Go.RowKit
set_option maxRecDepth 100000
set_option maxHeartbeats 1000000
set_option linter.unusedVariables false
set_option linter.unusedSimpArgs false

def yesV (e : Ev) (m : Nat) : Value := .tuple #[evV e, .int .i64 (m : Int), .int .i64 0]

noncomputable def inlQ : List (Nat × Func) := (33, Tryd.f33) :: inlA
theorem inlQ_ok : inlAll Tryd.prog inlQ := ⟨Tryd.func33, inlA_ok⟩
def sumsP : List (Nat × Sum) := [(34, sumRight), (80, sumPut 6 .i64 fun z => z), (83, sumPut 4 .u32 fun z => IntKind.u32.wrap z), (85, sumPut 5 .i64 fun z => z), (87, sumPut 7 .i64 fun z => IntKind.i64.wrap (IntKind.i32.wrap (IntKind.u32.wrap z))), (89, sumPut 8 .i64 fun z => z)]
theorem sumsP_ok : sumsAll Tryd.prog sumsP := ⟨sumRight_ok, put80_ok, put83_ok, put85_ok, put87_ok, put89_ok, trivial⟩
noncomputable def tabS (k0 : Int) : Tab := mkTab tiRows eqL fnsL [] inlQ 20 ((32, sumNumS k0) :: sumsP)
theorem tabS_ok (k0 : Int) : TabOk Tryd.prog (tabS k0) := mkTab_ok (by kernel_rfl) tiRows_ok eqL_ok fnsL_ok inlQ_ok ⟨sumNumS_ok k0, sumsP_ok⟩

theorem readS1_c (g : Nat → Int) (n : Nat) (hb : ∀ i, i < n → 0 ≤ g i ∧ g i < 256) (hn : many 1 ≤ n) (hm : n ≤ maxLen) (hk : g 0 = 1) (x : Value) (w : World) (hx : RowV w 1 n (rowB g) x) : Calls Tryd.prog 10 #[x] w fun e w' => e = .returned (bif evOk (rdE 1 g) then yesV (rdE 1 g) (many 1) else noV 260) ∧ Below w.heap.size w w' := by
  refine read_run (tabS_ok 1) (CI_ok (tabS_ok 1) 8) (n := n) (get := rowB g) _ ?_ w hx
  have hB := bytesG_rowB hb
  have hn' : 6 ≤ n := hn
  conv => whnf
  refine And.intro (by (conv => whnf); exact ⟨Nat.le_trans (m := 6) (Nat.le_of_ble_eq_true rfl) hn', ⟨hB, hk⟩, hm⟩) ?_
  conv => whnf
  refine And.intro (by (conv => whnf); exact ⟨Nat.le_trans (m := 6) (Nat.le_of_ble_eq_true rfl) hn', ⟨hB, hk⟩, hm⟩) ?_
  conv => whnf
  refine And.intro (by (conv => whnf); exact ⟨Nat.le_trans (m := 6) (Nat.le_of_ble_eq_true rfl) hn', ⟨hB, hk⟩, hm⟩) ?_
  conv => whnf
  refine And.intro (by (conv => whnf); exact ⟨Nat.le_trans (m := 6) (Nat.le_of_ble_eq_true rfl) hn', ⟨hB, hk⟩, hm⟩) ?_
  conv => whnf
  refine And.intro (by (conv => whnf); exact rdE_T (k := 1) (by decide) (by decide) hn hb) ?_
  conv => whnf
  refine And.intro (fun h => ?_) (fun h => ?_)
  · have h : (!evOk (rdE 1 g)) = true := h
    rw [Bool.not_eq_true'] at h
    rw [h]
    conv => whnf
    exact ⟨⟨260, rfl, rfl⟩, ⟨_, _, _, _, _, _, _, _, _, _, _, rfl, rfl, rfl⟩, ⟨rfl, rfl, rfl⟩, rfl, rfl⟩
  · have h : (!evOk (rdE 1 g)) = false := h
    rw [Bool.not_eq_false'] at h
    rw [h]
    conv => whnf
    rfl

theorem readS2_c (g : Nat → Int) (n : Nat) (hb : ∀ i, i < n → 0 ≤ g i ∧ g i < 256) (hn : many 2 ≤ n) (hm : n ≤ maxLen) (hk : g 0 = 2) (x : Value) (w : World) (hx : RowV w 1 n (rowB g) x) : Calls Tryd.prog 10 #[x] w fun e w' => e = .returned (bif evOk (rdE 2 g) then yesV (rdE 2 g) (many 2) else noV 260) ∧ Below w.heap.size w w' := by
  refine read_run (tabS_ok 2) (CI_ok (tabS_ok 2) 8) (n := n) (get := rowB g) _ ?_ w hx
  have hB := bytesG_rowB hb
  have hn' : 10 ≤ n := hn
  conv => whnf
  refine And.intro (by (conv => whnf); exact ⟨Nat.le_trans (m := 10) (Nat.le_of_ble_eq_true rfl) hn', ⟨hB, hk⟩, hm⟩) ?_
  conv => whnf
  refine And.intro (by (conv => whnf); exact ⟨Nat.le_trans (m := 10) (Nat.le_of_ble_eq_true rfl) hn', ⟨hB, hk⟩, hm⟩) ?_
  conv => whnf
  refine And.intro (by (conv => whnf); exact ⟨Nat.le_trans (m := 10) (Nat.le_of_ble_eq_true rfl) hn', ⟨hB, hk⟩, hm⟩) ?_
  conv => whnf
  refine And.intro (by (conv => whnf); exact ⟨Nat.le_trans (m := 10) (Nat.le_of_ble_eq_true rfl) hn', ⟨hB, hk⟩, hm⟩) ?_
  conv => whnf
  refine And.intro (by (conv => whnf); exact ⟨Nat.le_trans (m := 10) (Nat.le_of_ble_eq_true rfl) hn', ⟨hB, hk⟩, hm⟩) ?_
  conv => whnf
  refine And.intro (by (conv => whnf); exact rdE_T (k := 2) (by decide) (by decide) hn hb) ?_
  conv => whnf
  refine And.intro (fun h => ?_) (fun h => ?_)
  · have h : (!evOk (rdE 2 g)) = true := h
    rw [Bool.not_eq_true'] at h
    rw [h]
    conv => whnf
    exact ⟨⟨260, rfl, rfl⟩, ⟨_, _, _, _, _, _, _, _, _, _, _, rfl, rfl, rfl⟩, ⟨rfl, rfl, rfl⟩, rfl, rfl⟩
  · have h : (!evOk (rdE 2 g)) = false := h
    rw [Bool.not_eq_false'] at h
    rw [h]
    conv => whnf
    rfl

theorem readS3_c (g : Nat → Int) (n : Nat) (hb : ∀ i, i < n → 0 ≤ g i ∧ g i < 256) (hn : many 3 ≤ n) (hm : n ≤ maxLen) (hk : g 0 = 3) (x : Value) (w : World) (hx : RowV w 1 n (rowB g) x) : Calls Tryd.prog 10 #[x] w fun e w' => e = .returned (bif evOk (rdE 3 g) then yesV (rdE 3 g) (many 3) else noV 260) ∧ Below w.heap.size w w' := by
  refine read_run (tabS_ok 3) (CI_ok (tabS_ok 3) 8) (n := n) (get := rowB g) _ ?_ w hx
  have hB := bytesG_rowB hb
  have hn' : 10 ≤ n := hn
  conv => whnf
  refine And.intro (by (conv => whnf); exact ⟨Nat.le_trans (m := 10) (Nat.le_of_ble_eq_true rfl) hn', ⟨hB, hk⟩, hm⟩) ?_
  conv => whnf
  refine And.intro (by (conv => whnf); exact ⟨Nat.le_trans (m := 10) (Nat.le_of_ble_eq_true rfl) hn', ⟨hB, hk⟩, hm⟩) ?_
  conv => whnf
  refine And.intro (by (conv => whnf); exact ⟨Nat.le_trans (m := 10) (Nat.le_of_ble_eq_true rfl) hn', ⟨hB, hk⟩, hm⟩) ?_
  conv => whnf
  refine And.intro (by (conv => whnf); exact ⟨Nat.le_trans (m := 10) (Nat.le_of_ble_eq_true rfl) hn', ⟨hB, hk⟩, hm⟩) ?_
  conv => whnf
  refine And.intro (by (conv => whnf); exact ⟨Nat.le_trans (m := 10) (Nat.le_of_ble_eq_true rfl) hn', ⟨hB, hk⟩, hm⟩) ?_
  conv => whnf
  refine And.intro (by (conv => whnf); exact rdE_T (k := 3) (by decide) (by decide) hn hb) ?_
  conv => whnf
  refine And.intro (fun h => ?_) (fun h => ?_)
  · have h : (!evOk (rdE 3 g)) = true := h
    rw [Bool.not_eq_true'] at h
    rw [h]
    conv => whnf
    exact ⟨⟨260, rfl, rfl⟩, ⟨_, _, _, _, _, _, _, _, _, _, _, rfl, rfl, rfl⟩, ⟨rfl, rfl, rfl⟩, rfl, rfl⟩
  · have h : (!evOk (rdE 3 g)) = false := h
    rw [Bool.not_eq_false'] at h
    rw [h]
    conv => whnf
    rfl

theorem readS4_c (g : Nat → Int) (n : Nat) (hb : ∀ i, i < n → 0 ≤ g i ∧ g i < 256) (hn : many 4 ≤ n) (hm : n ≤ maxLen) (hk : g 0 = 4) (x : Value) (w : World) (hx : RowV w 1 n (rowB g) x) : Calls Tryd.prog 10 #[x] w fun e w' => e = .returned (bif evOk (rdE 4 g) then yesV (rdE 4 g) (many 4) else noV 260) ∧ Below w.heap.size w w' := by
  refine read_run (tabS_ok 4) (CI_ok (tabS_ok 4) 8) (n := n) (get := rowB g) _ ?_ w hx
  have hB := bytesG_rowB hb
  have hn' : 8 ≤ n := hn
  conv => whnf
  refine And.intro (by (conv => whnf); exact ⟨Nat.le_trans (m := 8) (Nat.le_of_ble_eq_true rfl) hn', ⟨hB, hk⟩, hm⟩) ?_
  conv => whnf
  refine And.intro (by (conv => whnf); exact ⟨Nat.le_trans (m := 8) (Nat.le_of_ble_eq_true rfl) hn', ⟨hB, hk⟩, hm⟩) ?_
  conv => whnf
  refine And.intro (by (conv => whnf); exact ⟨Nat.le_trans (m := 8) (Nat.le_of_ble_eq_true rfl) hn', ⟨hB, hk⟩, hm⟩) ?_
  conv => whnf
  refine And.intro (by (conv => whnf); exact ⟨Nat.le_trans (m := 8) (Nat.le_of_ble_eq_true rfl) hn', ⟨hB, hk⟩, hm⟩) ?_
  conv => whnf
  refine And.intro (by (conv => whnf); exact ⟨Nat.le_trans (m := 8) (Nat.le_of_ble_eq_true rfl) hn', ⟨hB, hk⟩, hm⟩) ?_
  conv => whnf
  refine And.intro (by (conv => whnf); exact rdE_T (k := 4) (by decide) (by decide) hn hb) ?_
  conv => whnf
  refine And.intro (fun h => ?_) (fun h => ?_)
  · have h : (!evOk (rdE 4 g)) = true := h
    rw [Bool.not_eq_true'] at h
    rw [h]
    conv => whnf
    exact ⟨⟨260, rfl, rfl⟩, ⟨_, _, _, _, _, _, _, _, _, _, _, rfl, rfl, rfl⟩, ⟨rfl, rfl, rfl⟩, rfl, rfl⟩
  · have h : (!evOk (rdE 4 g)) = false := h
    rw [Bool.not_eq_false'] at h
    rw [h]
    conv => whnf
    rfl

theorem readS5_c (g : Nat → Int) (n : Nat) (hb : ∀ i, i < n → 0 ≤ g i ∧ g i < 256) (hn : many 5 ≤ n) (hm : n ≤ maxLen) (hk : g 0 = 5) (x : Value) (w : World) (hx : RowV w 1 n (rowB g) x) : Calls Tryd.prog 10 #[x] w fun e w' => e = .returned (bif evOk (rdE 5 g) then yesV (rdE 5 g) (many 5) else noV 260) ∧ Below w.heap.size w w' := by
  refine read_run (tabS_ok 5) (CI_ok (tabS_ok 5) 8) (n := n) (get := rowB g) _ ?_ w hx
  have hB := bytesG_rowB hb
  have hn' : 7 ≤ n := hn
  conv => whnf
  refine And.intro (by (conv => whnf); exact ⟨Nat.le_trans (m := 7) (Nat.le_of_ble_eq_true rfl) hn', ⟨hB, hk⟩, hm⟩) ?_
  conv => whnf
  refine And.intro (by (conv => whnf); exact ⟨Nat.le_trans (m := 7) (Nat.le_of_ble_eq_true rfl) hn', ⟨hB, hk⟩, hm⟩) ?_
  conv => whnf
  refine And.intro (by (conv => whnf); exact ⟨Nat.le_trans (m := 7) (Nat.le_of_ble_eq_true rfl) hn', ⟨hB, hk⟩, hm⟩) ?_
  conv => whnf
  refine And.intro (by (conv => whnf); exact ⟨Nat.le_trans (m := 7) (Nat.le_of_ble_eq_true rfl) hn', ⟨hB, hk⟩, hm⟩) ?_
  conv => whnf
  refine And.intro (by (conv => whnf); exact ⟨Nat.le_trans (m := 7) (Nat.le_of_ble_eq_true rfl) hn', ⟨hB, hk⟩, hm⟩) ?_
  conv => whnf
  refine And.intro (by (conv => whnf); exact rdE_T (k := 5) (by decide) (by decide) hn hb) ?_
  conv => whnf
  refine And.intro (fun h => ?_) (fun h => ?_)
  · have h : (!evOk (rdE 5 g)) = true := h
    rw [Bool.not_eq_true'] at h
    rw [h]
    conv => whnf
    exact ⟨⟨260, rfl, rfl⟩, ⟨_, _, _, _, _, _, _, _, _, _, _, rfl, rfl, rfl⟩, ⟨rfl, rfl, rfl⟩, rfl, rfl⟩
  · have h : (!evOk (rdE 5 g)) = false := h
    rw [Bool.not_eq_false'] at h
    rw [h]
    conv => whnf
    rfl

theorem readS6_c (g : Nat → Int) (n : Nat) (hb : ∀ i, i < n → 0 ≤ g i ∧ g i < 256) (hn : many 6 ≤ n) (hm : n ≤ maxLen) (hk : g 0 = 6) (x : Value) (w : World) (hx : RowV w 1 n (rowB g) x) : Calls Tryd.prog 10 #[x] w fun e w' => e = .returned (bif evOk (rdE 6 g) then yesV (rdE 6 g) (many 6) else noV 260) ∧ Below w.heap.size w w' := by
  refine read_run (tabS_ok 6) (CI_ok (tabS_ok 6) 8) (n := n) (get := rowB g) _ ?_ w hx
  have hB := bytesG_rowB hb
  have hn' : 7 ≤ n := hn
  conv => whnf
  refine And.intro (by (conv => whnf); exact ⟨Nat.le_trans (m := 7) (Nat.le_of_ble_eq_true rfl) hn', ⟨hB, hk⟩, hm⟩) ?_
  conv => whnf
  refine And.intro (by (conv => whnf); exact ⟨Nat.le_trans (m := 7) (Nat.le_of_ble_eq_true rfl) hn', ⟨hB, hk⟩, hm⟩) ?_
  conv => whnf
  refine And.intro (by (conv => whnf); exact ⟨Nat.le_trans (m := 7) (Nat.le_of_ble_eq_true rfl) hn', ⟨hB, hk⟩, hm⟩) ?_
  conv => whnf
  refine And.intro (by (conv => whnf); exact ⟨Nat.le_trans (m := 7) (Nat.le_of_ble_eq_true rfl) hn', ⟨hB, hk⟩, hm⟩) ?_
  conv => whnf
  refine And.intro (by (conv => whnf); exact ⟨Nat.le_trans (m := 7) (Nat.le_of_ble_eq_true rfl) hn', ⟨hB, hk⟩, hm⟩) ?_
  conv => whnf
  refine And.intro (by (conv => whnf); exact rdE_T (k := 6) (by decide) (by decide) hn hb) ?_
  conv => whnf
  refine And.intro (fun h => ?_) (fun h => ?_)
  · have h : (!evOk (rdE 6 g)) = true := h
    rw [Bool.not_eq_true'] at h
    rw [h]
    conv => whnf
    exact ⟨⟨260, rfl, rfl⟩, ⟨_, _, _, _, _, _, _, _, _, _, _, rfl, rfl, rfl⟩, ⟨rfl, rfl, rfl⟩, rfl, rfl⟩
  · have h : (!evOk (rdE 6 g)) = false := h
    rw [Bool.not_eq_false'] at h
    rw [h]
    conv => whnf
    rfl

theorem readS7_c (g : Nat → Int) (n : Nat) (hb : ∀ i, i < n → 0 ≤ g i ∧ g i < 256) (hn : many 7 ≤ n) (hm : n ≤ maxLen) (hk : g 0 = 7) (x : Value) (w : World) (hx : RowV w 1 n (rowB g) x) : Calls Tryd.prog 10 #[x] w fun e w' => e = .returned (bif evOk (rdE 7 g) then yesV (rdE 7 g) (many 7) else noV 260) ∧ Below w.heap.size w w' := by
  refine read_run (tabS_ok 7) (CI_ok (tabS_ok 7) 8) (n := n) (get := rowB g) _ ?_ w hx
  have hB := bytesG_rowB hb
  have hn' : 7 ≤ n := hn
  conv => whnf
  refine And.intro (by (conv => whnf); exact ⟨Nat.le_trans (m := 7) (Nat.le_of_ble_eq_true rfl) hn', ⟨hB, hk⟩, hm⟩) ?_
  conv => whnf
  refine And.intro (by (conv => whnf); exact ⟨Nat.le_trans (m := 7) (Nat.le_of_ble_eq_true rfl) hn', ⟨hB, hk⟩, hm⟩) ?_
  conv => whnf
  refine And.intro (by (conv => whnf); exact ⟨Nat.le_trans (m := 7) (Nat.le_of_ble_eq_true rfl) hn', ⟨hB, hk⟩, hm⟩) ?_
  conv => whnf
  refine And.intro (by (conv => whnf); exact ⟨Nat.le_trans (m := 7) (Nat.le_of_ble_eq_true rfl) hn', ⟨hB, hk⟩, hm⟩) ?_
  conv => whnf
  refine And.intro (by (conv => whnf); exact ⟨Nat.le_trans (m := 7) (Nat.le_of_ble_eq_true rfl) hn', ⟨hB, hk⟩, hm⟩) ?_
  conv => whnf
  refine And.intro (by (conv => whnf); exact rdE_T (k := 7) (by decide) (by decide) hn hb) ?_
  conv => whnf
  refine And.intro (fun h => ?_) (fun h => ?_)
  · have h : (!evOk (rdE 7 g)) = true := h
    rw [Bool.not_eq_true'] at h
    rw [h]
    conv => whnf
    exact ⟨⟨260, rfl, rfl⟩, ⟨_, _, _, _, _, _, _, _, _, _, _, rfl, rfl, rfl⟩, ⟨rfl, rfl, rfl⟩, rfl, rfl⟩
  · have h : (!evOk (rdE 7 g)) = false := h
    rw [Bool.not_eq_false'] at h
    rw [h]
    conv => whnf
    rfl

theorem readS8_c (g : Nat → Int) (n : Nat) (hb : ∀ i, i < n → 0 ≤ g i ∧ g i < 256) (hn : many 8 ≤ n) (hm : n ≤ maxLen) (hk : g 0 = 8) (x : Value) (w : World) (hx : RowV w 1 n (rowB g) x) : Calls Tryd.prog 10 #[x] w fun e w' => e = .returned (bif evOk (rdE 8 g) then yesV (rdE 8 g) (many 8) else noV 260) ∧ Below w.heap.size w w' := by
  refine read_run (tabS_ok 8) (CI_ok (tabS_ok 8) 8) (n := n) (get := rowB g) _ ?_ w hx
  have hB := bytesG_rowB hb
  have hn' : 7 ≤ n := hn
  conv => whnf
  refine And.intro (by (conv => whnf); exact ⟨Nat.le_trans (m := 7) (Nat.le_of_ble_eq_true rfl) hn', ⟨hB, hk⟩, hm⟩) ?_
  conv => whnf
  refine And.intro (by (conv => whnf); exact ⟨Nat.le_trans (m := 7) (Nat.le_of_ble_eq_true rfl) hn', ⟨hB, hk⟩, hm⟩) ?_
  conv => whnf
  refine And.intro (by (conv => whnf); exact ⟨Nat.le_trans (m := 7) (Nat.le_of_ble_eq_true rfl) hn', ⟨hB, hk⟩, hm⟩) ?_
  conv => whnf
  refine And.intro (by (conv => whnf); exact ⟨Nat.le_trans (m := 7) (Nat.le_of_ble_eq_true rfl) hn', ⟨hB, hk⟩, hm⟩) ?_
  conv => whnf
  refine And.intro (by (conv => whnf); exact ⟨Nat.le_trans (m := 7) (Nat.le_of_ble_eq_true rfl) hn', ⟨hB, hk⟩, hm⟩) ?_
  conv => whnf
  refine And.intro (by (conv => whnf); exact rdE_T (k := 8) (by decide) (by decide) hn hb) ?_
  conv => whnf
  refine And.intro (fun h => ?_) (fun h => ?_)
  · have h : (!evOk (rdE 8 g)) = true := h
    rw [Bool.not_eq_true'] at h
    rw [h]
    conv => whnf
    exact ⟨⟨260, rfl, rfl⟩, ⟨_, _, _, _, _, _, _, _, _, _, _, rfl, rfl, rfl⟩, ⟨rfl, rfl, rfl⟩, rfl, rfl⟩
  · have h : (!evOk (rdE 8 g)) = false := h
    rw [Bool.not_eq_false'] at h
    rw [h]
    conv => whnf
    rfl

theorem readS9_c (g : Nat → Int) (n : Nat) (hb : ∀ i, i < n → 0 ≤ g i ∧ g i < 256) (hn : many 9 ≤ n) (hm : n ≤ maxLen) (hk : g 0 = 9) (x : Value) (w : World) (hx : RowV w 1 n (rowB g) x) : Calls Tryd.prog 10 #[x] w fun e w' => e = .returned (bif evOk (rdE 9 g) then yesV (rdE 9 g) (many 9) else noV 260) ∧ Below w.heap.size w w' := by
  refine read_run (tabS_ok 9) (CI_ok (tabS_ok 9) 8) (n := n) (get := rowB g) _ ?_ w hx
  have hB := bytesG_rowB hb
  have hn' : 7 ≤ n := hn
  conv => whnf
  refine And.intro (by (conv => whnf); exact ⟨Nat.le_trans (m := 7) (Nat.le_of_ble_eq_true rfl) hn', ⟨hB, hk⟩, hm⟩) ?_
  conv => whnf
  refine And.intro (by (conv => whnf); exact ⟨Nat.le_trans (m := 7) (Nat.le_of_ble_eq_true rfl) hn', ⟨hB, hk⟩, hm⟩) ?_
  conv => whnf
  refine And.intro (by (conv => whnf); exact ⟨Nat.le_trans (m := 7) (Nat.le_of_ble_eq_true rfl) hn', ⟨hB, hk⟩, hm⟩) ?_
  conv => whnf
  refine And.intro (by (conv => whnf); exact ⟨Nat.le_trans (m := 7) (Nat.le_of_ble_eq_true rfl) hn', ⟨hB, hk⟩, hm⟩) ?_
  conv => whnf
  refine And.intro (by (conv => whnf); exact ⟨Nat.le_trans (m := 7) (Nat.le_of_ble_eq_true rfl) hn', ⟨hB, hk⟩, hm⟩) ?_
  conv => whnf
  refine And.intro (by (conv => whnf); exact rdE_T (k := 9) (by decide) (by decide) hn hb) ?_
  conv => whnf
  refine And.intro (fun h => ?_) (fun h => ?_)
  · have h : (!evOk (rdE 9 g)) = true := h
    rw [Bool.not_eq_true'] at h
    rw [h]
    conv => whnf
    exact ⟨⟨260, rfl, rfl⟩, ⟨_, _, _, _, _, _, _, _, _, _, _, rfl, rfl, rfl⟩, ⟨rfl, rfl, rfl⟩, rfl, rfl⟩
  · have h : (!evOk (rdE 9 g)) = false := h
    rw [Bool.not_eq_false'] at h
    rw [h]
    conv => whnf
    rfl

theorem readS10_c (g : Nat → Int) (n : Nat) (hb : ∀ i, i < n → 0 ≤ g i ∧ g i < 256) (hn : many 10 ≤ n) (hm : n ≤ maxLen) (hk : g 0 = 10) (x : Value) (w : World) (hx : RowV w 1 n (rowB g) x) : Calls Tryd.prog 10 #[x] w fun e w' => e = .returned (bif evOk (rdE 10 g) then yesV (rdE 10 g) (many 10) else noV 260) ∧ Below w.heap.size w w' := by
  refine read_run (tabS_ok 10) (CI_ok (tabS_ok 10) 8) (n := n) (get := rowB g) _ ?_ w hx
  have hB := bytesG_rowB hb
  have hn' : 7 ≤ n := hn
  conv => whnf
  refine And.intro (by (conv => whnf); exact ⟨Nat.le_trans (m := 7) (Nat.le_of_ble_eq_true rfl) hn', ⟨hB, hk⟩, hm⟩) ?_
  conv => whnf
  refine And.intro (by (conv => whnf); exact ⟨Nat.le_trans (m := 7) (Nat.le_of_ble_eq_true rfl) hn', ⟨hB, hk⟩, hm⟩) ?_
  conv => whnf
  refine And.intro (by (conv => whnf); exact ⟨Nat.le_trans (m := 7) (Nat.le_of_ble_eq_true rfl) hn', ⟨hB, hk⟩, hm⟩) ?_
  conv => whnf
  refine And.intro (by (conv => whnf); exact ⟨Nat.le_trans (m := 7) (Nat.le_of_ble_eq_true rfl) hn', ⟨hB, hk⟩, hm⟩) ?_
  conv => whnf
  refine And.intro (by (conv => whnf); exact ⟨Nat.le_trans (m := 7) (Nat.le_of_ble_eq_true rfl) hn', ⟨hB, hk⟩, hm⟩) ?_
  conv => whnf
  refine And.intro (by (conv => whnf); exact rdE_T (k := 10) (by decide) (by decide) hn hb) ?_
  conv => whnf
  refine And.intro (fun h => ?_) (fun h => ?_)
  · have h : (!evOk (rdE 10 g)) = true := h
    rw [Bool.not_eq_true'] at h
    rw [h]
    conv => whnf
    exact ⟨⟨260, rfl, rfl⟩, ⟨_, _, _, _, _, _, _, _, _, _, _, rfl, rfl, rfl⟩, ⟨rfl, rfl, rfl⟩, rfl, rfl⟩
  · have h : (!evOk (rdE 10 g)) = false := h
    rw [Bool.not_eq_false'] at h
    rw [h]
    conv => whnf
    rfl

theorem readS11_c (g : Nat → Int) (n : Nat) (hb : ∀ i, i < n → 0 ≤ g i ∧ g i < 256) (hn : many 11 ≤ n) (hm : n ≤ maxLen) (hk : g 0 = 11) (x : Value) (w : World) (hx : RowV w 1 n (rowB g) x) : Calls Tryd.prog 10 #[x] w fun e w' => e = .returned (bif evOk (rdE 11 g) then yesV (rdE 11 g) (many 11) else noV 260) ∧ Below w.heap.size w w' := by
  refine read_run (tabS_ok 11) (CI_ok (tabS_ok 11) 8) (n := n) (get := rowB g) _ ?_ w hx
  have hB := bytesG_rowB hb
  have hn' : 11 ≤ n := hn
  conv => whnf
  refine And.intro (by (conv => whnf); exact ⟨Nat.le_trans (m := 11) (Nat.le_of_ble_eq_true rfl) hn', ⟨hB, hk⟩, hm⟩) ?_
  conv => whnf
  refine And.intro (by (conv => whnf); exact ⟨Nat.le_trans (m := 11) (Nat.le_of_ble_eq_true rfl) hn', ⟨hB, hk⟩, hm⟩) ?_
  conv => whnf
  refine And.intro (by (conv => whnf); exact ⟨Nat.le_trans (m := 11) (Nat.le_of_ble_eq_true rfl) hn', ⟨hB, hk⟩, hm⟩) ?_
  conv => whnf
  refine And.intro (by (conv => whnf); exact ⟨Nat.le_trans (m := 11) (Nat.le_of_ble_eq_true rfl) hn', ⟨hB, hk⟩, hm⟩) ?_
  conv => whnf
  refine And.intro (by (conv => whnf); exact ⟨Nat.le_trans (m := 11) (Nat.le_of_ble_eq_true rfl) hn', ⟨hB, hk⟩, hm⟩) ?_
  conv => whnf
  refine And.intro (by (conv => whnf); exact ⟨Nat.le_trans (m := 11) (Nat.le_of_ble_eq_true rfl) hn', ⟨hB, hk⟩, hm⟩) ?_
  conv => whnf
  refine And.intro (by (conv => whnf); exact rdE_T (k := 11) (by decide) (by decide) hn hb) ?_
  conv => whnf
  refine And.intro (fun h => ?_) (fun h => ?_)
  · have h : (!evOk (rdE 11 g)) = true := h
    rw [Bool.not_eq_true'] at h
    rw [h]
    conv => whnf
    exact ⟨⟨260, rfl, rfl⟩, ⟨_, _, _, _, _, _, _, _, _, _, _, rfl, rfl, rfl⟩, ⟨rfl, rfl, rfl⟩, rfl, rfl⟩
  · have h : (!evOk (rdE 11 g)) = false := h
    rw [Bool.not_eq_false'] at h
    rw [h]
    conv => whnf
    rfl

theorem readS12_c (g : Nat → Int) (n : Nat) (hb : ∀ i, i < n → 0 ≤ g i ∧ g i < 256) (hn : many 12 ≤ n) (hm : n ≤ maxLen) (hk : g 0 = 12) (x : Value) (w : World) (hx : RowV w 1 n (rowB g) x) : Calls Tryd.prog 10 #[x] w fun e w' => e = .returned (bif evOk (rdE 12 g) then yesV (rdE 12 g) (many 12) else noV 260) ∧ Below w.heap.size w w' := by
  refine read_run (tabS_ok 12) (CI_ok (tabS_ok 12) 8) (n := n) (get := rowB g) _ ?_ w hx
  have hB := bytesG_rowB hb
  have hn' : 7 ≤ n := hn
  conv => whnf
  refine And.intro (by (conv => whnf); exact ⟨Nat.le_trans (m := 7) (Nat.le_of_ble_eq_true rfl) hn', ⟨hB, hk⟩, hm⟩) ?_
  conv => whnf
  refine And.intro (by (conv => whnf); exact ⟨Nat.le_trans (m := 7) (Nat.le_of_ble_eq_true rfl) hn', ⟨hB, hk⟩, hm⟩) ?_
  conv => whnf
  refine And.intro (by (conv => whnf); exact ⟨Nat.le_trans (m := 7) (Nat.le_of_ble_eq_true rfl) hn', ⟨hB, hk⟩, hm⟩) ?_
  conv => whnf
  refine And.intro (by (conv => whnf); exact ⟨Nat.le_trans (m := 7) (Nat.le_of_ble_eq_true rfl) hn', ⟨hB, hk⟩, hm⟩) ?_
  conv => whnf
  refine And.intro (by (conv => whnf); exact ⟨Nat.le_trans (m := 7) (Nat.le_of_ble_eq_true rfl) hn', ⟨hB, hk⟩, hm⟩) ?_
  conv => whnf
  refine And.intro (by (conv => whnf); exact rdE_T (k := 12) (by decide) (by decide) hn hb) ?_
  conv => whnf
  refine And.intro (fun h => ?_) (fun h => ?_)
  · have h : (!evOk (rdE 12 g)) = true := h
    rw [Bool.not_eq_true'] at h
    rw [h]
    conv => whnf
    exact ⟨⟨260, rfl, rfl⟩, ⟨_, _, _, _, _, _, _, _, _, _, _, rfl, rfl, rfl⟩, ⟨rfl, rfl, rfl⟩, rfl, rfl⟩
  · have h : (!evOk (rdE 12 g)) = false := h
    rw [Bool.not_eq_false'] at h
    rw [h]
    conv => whnf
    rfl

theorem readS13_c (g : Nat → Int) (n : Nat) (hb : ∀ i, i < n → 0 ≤ g i ∧ g i < 256) (hn : many 13 ≤ n) (hm : n ≤ maxLen) (hk : g 0 = 13) (x : Value) (w : World) (hx : RowV w 1 n (rowB g) x) : Calls Tryd.prog 10 #[x] w fun e w' => e = .returned (bif evOk (rdE 13 g) then yesV (rdE 13 g) (many 13) else noV 260) ∧ Below w.heap.size w w' := by
  refine read_run (tabS_ok 13) (CI_ok (tabS_ok 13) 8) (n := n) (get := rowB g) _ ?_ w hx
  have hB := bytesG_rowB hb
  have hn' : 6 ≤ n := hn
  conv => whnf
  refine And.intro (by (conv => whnf); exact ⟨Nat.le_trans (m := 6) (Nat.le_of_ble_eq_true rfl) hn', ⟨hB, hk⟩, hm⟩) ?_
  conv => whnf
  refine And.intro (by (conv => whnf); exact ⟨Nat.le_trans (m := 6) (Nat.le_of_ble_eq_true rfl) hn', ⟨hB, hk⟩, hm⟩) ?_
  conv => whnf
  refine And.intro (by (conv => whnf); exact ⟨Nat.le_trans (m := 6) (Nat.le_of_ble_eq_true rfl) hn', ⟨hB, hk⟩, hm⟩) ?_
  conv => whnf
  refine And.intro (by (conv => whnf); exact ⟨Nat.le_trans (m := 6) (Nat.le_of_ble_eq_true rfl) hn', ⟨hB, hk⟩, hm⟩) ?_
  conv => whnf
  refine And.intro (by (conv => whnf); exact rdE_T (k := 13) (by decide) (by decide) hn hb) ?_
  conv => whnf
  refine And.intro (fun h => ?_) (fun h => ?_)
  · have h : (!evOk (rdE 13 g)) = true := h
    rw [Bool.not_eq_true'] at h
    rw [h]
    conv => whnf
    exact ⟨⟨260, rfl, rfl⟩, ⟨_, _, _, _, _, _, _, _, _, _, _, rfl, rfl, rfl⟩, ⟨rfl, rfl, rfl⟩, rfl, rfl⟩
  · have h : (!evOk (rdE 13 g)) = false := h
    rw [Bool.not_eq_false'] at h
    rw [h]
    conv => whnf
    rfl

theorem readS14_c (g : Nat → Int) (n : Nat) (hb : ∀ i, i < n → 0 ≤ g i ∧ g i < 256) (hn : many 14 ≤ n) (hm : n ≤ maxLen) (hk : g 0 = 14) (x : Value) (w : World) (hx : RowV w 1 n (rowB g) x) : Calls Tryd.prog 10 #[x] w fun e w' => e = .returned (bif evOk (rdE 14 g) then yesV (rdE 14 g) (many 14) else noV 260) ∧ Below w.heap.size w w' := by
  refine read_run (tabS_ok 14) (CI_ok (tabS_ok 14) 8) (n := n) (get := rowB g) _ ?_ w hx
  have hB := bytesG_rowB hb
  have hn' : 7 ≤ n := hn
  conv => whnf
  refine And.intro (by (conv => whnf); exact ⟨Nat.le_trans (m := 7) (Nat.le_of_ble_eq_true rfl) hn', ⟨hB, hk⟩, hm⟩) ?_
  conv => whnf
  refine And.intro (by (conv => whnf); exact ⟨Nat.le_trans (m := 7) (Nat.le_of_ble_eq_true rfl) hn', ⟨hB, hk⟩, hm⟩) ?_
  conv => whnf
  refine And.intro (by (conv => whnf); exact ⟨Nat.le_trans (m := 7) (Nat.le_of_ble_eq_true rfl) hn', ⟨hB, hk⟩, hm⟩) ?_
  conv => whnf
  refine And.intro (by (conv => whnf); exact ⟨Nat.le_trans (m := 7) (Nat.le_of_ble_eq_true rfl) hn', ⟨hB, hk⟩, hm⟩) ?_
  conv => whnf
  refine And.intro (by (conv => whnf); exact ⟨Nat.le_trans (m := 7) (Nat.le_of_ble_eq_true rfl) hn', ⟨hB, hk⟩, hm⟩) ?_
  conv => whnf
  refine And.intro (by (conv => whnf); exact rdE_T (k := 14) (by decide) (by decide) hn hb) ?_
  conv => whnf
  refine And.intro (fun h => ?_) (fun h => ?_)
  · have h : (!evOk (rdE 14 g)) = true := h
    rw [Bool.not_eq_true'] at h
    rw [h]
    conv => whnf
    exact ⟨⟨260, rfl, rfl⟩, ⟨_, _, _, _, _, _, _, _, _, _, _, rfl, rfl, rfl⟩, ⟨rfl, rfl, rfl⟩, rfl, rfl⟩
  · have h : (!evOk (rdE 14 g)) = false := h
    rw [Bool.not_eq_false'] at h
    rw [h]
    conv => whnf
    rfl
end Go.Proofs.YtiibmnoikgfcbaaDoor
