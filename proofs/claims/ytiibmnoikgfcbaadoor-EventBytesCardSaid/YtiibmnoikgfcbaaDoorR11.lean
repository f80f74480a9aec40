/- The reference's Read (function 11), by kinds. The bytes are bytes. -/
import Derived.Test.YtiibmnoikgfcbaaDoorR8
import Derived.Test.YtiibmnoikgfcbaaDoorR9
namespace Go.Proofs.YtiibmnoikgfcbaaDoor
open Go Go.Sx Go.RowKit
set_option maxRecDepth 100000
set_option maxHeartbeats 1000000
set_option linter.unusedVariables false
set_option linter.unusedSimpArgs false

/-- A row whose first byte is a known number. -/
def rowK (k : Int) (g : Nat → Int) : Nat → List SV
  | 0 => [.n .u8 k]
  | i + 1 => [.i .u8 (g (i + 1))]
theorem rowK_num {k : Int} {g : Nat → Int} (hk : g 0 = k) (i : Nat) : numAt (rowK k g i) = some (g i) := by
  cases i with
  | zero => rw [hk]; rfl
  | succ i => rfl
theorem rowK_gI {k : Int} {g : Nat → Int} (hk : g 0 = k) (lo : Nat) : (gI fun i => rowK k g (lo + i)) = fun i => g (lo + i) := by
  funext i
  unfold gI
  rw [rowK_num hk]
theorem rowK_G {k : Int} {g : Nat → Int} {n : Nat} (hk : g 0 = k) (hb : ∀ i, i < n → 0 ≤ g i ∧ g i < 256) (lo m : Nat) (hm : lo + m ≤ n) : BytesG m fun i => rowK k g (lo + i) := fun i hi => by
  have h := hb (lo + i) (by omega)
  refine ⟨(g (lo + i)).toNat, by omega, ?_⟩
  show rowK k g (lo + i) = _ ∨ rowK k g (lo + i) = _
  generalize lo + i = j at *
  cases j with
  | zero =>
    right
    show [SV.n .u8 k] = _
    rw [← hk]; congr 2; omega
  | succ j =>
    left
    show [SV.i .u8 (g (j + 1))] = _
    congr 2; omega
theorem rowK_V {k : Int} {g : Nat → Int} (hk : g 0 = k) {w : World} {n : Nat} {x : Value} (hx : RowV w 1 n (rowB g) x) : RowV w 1 n (rowK k g) x := hx.congr fun i hi => by
  obtain ⟨h1, h2⟩ := numAt_den (ρ := Vl.none) (rowK_num hk i)
  exact ⟨h1, h2⟩
def sumsQ : List (Nat × Sum) := [(36, sumRefRd), (35, sumMany), (37, sumIn), (13, sumRight)]
theorem sumsQ_ok : sumsAll Tryd.prog sumsQ := ⟨sumRefRd_ok, sumMany_ok, sumIn_ok, sumRefRight_ok, trivial⟩
noncomputable def tabQ : Tab := mkTab tiRows eqL fnsL [] [] 20 sumsQ
theorem tabQ_ok : TabOk Tryd.prog tabQ := mkTab_ok (by kernel_rfl) tiRows_ok eqL_ok fnsL_ok trivial sumsQ_ok

/-- The event as the reference tells it. -/
def refEv (k : Int) (g : Nat → Int) (nv : Int) : Ev :=
  ⟨IntKind.i64.wrap (leN (gI fun i => rowK k g (1 + i)) 2), k, IntKind.i64.wrap (g 3), IntKind.i64.wrap (leN (gI fun i => rowK k g (4 + i)) 2),
   if k = 2 ∨ k = 3 then IntKind.u32.wrap (leN (gI fun i => rowK k g (6 + i)) 4) else 0,
   if k = 4 then IntKind.i64.wrap (leN (gI fun i => rowK k g (6 + i)) 2) else 0,
   if 5 ≤ k ∧ k ≤ 12 then IntKind.i64.wrap (g 6) else 0,
   nv,
   if k = 14 then IntKind.i64.wrap (g 6) else 0⟩
theorem refEv_eq {k : Int} (h1 : 1 ≤ k) (h2 : k ≤ 14) {g : Nat → Int} (hk : g 0 = k) {n : Nat} (hn : many k ≤ n) (hb : ∀ i, i < n → 0 ≤ g i ∧ g i < 256) {nv : Int} (hnv : nv = (rdE k g).n) : refEv k g nv = rdE k g := by
  subst hnv
  have B : ∀ i, i < many k → 0 ≤ g i ∧ g i < 256 := fun i hi => hb i (by omega)
  have h6 : 6 ≤ many k := by rcases kinds h1 h2 with rfl | rfl | rfl | rfl | rfl | rfl | rfl | rfl | rfl | rfl | rfl | rfl | rfl | rfl <;> decide
  have b1 := B 1 (by omega); have b2 := B 2 (by omega); have b3 := B 3 (by omega); have b4 := B 4 (by omega); have b5 := B 5 (by omega)
  have w : ∀ z, 0 ≤ z → z < 65536 → IntKind.i64.wrap z = z := fun z h h' => by rw [IntKind.wrap_i64]; omega
  have fin : ∀ {a a' b b' c c' d d' t t' u u' v v' : Int} {n : Int}, a = a' → b = b' → c = c' → d = d' → t = t' → u = u' → v = v' → (⟨a, k, b, c, d, t, u, n, v⟩ : Ev) = ⟨a', k, b', c', d', t', u', n, v'⟩ := by rintro _ _ _ _ _ _ _ _ _ _ _ _ _ _ _ rfl rfl rfl rfl rfl rfl rfl; rfl
  unfold refEv rdE
  simp only [rowK_gI hk]
  refine fin ?_ ?_ ?_ ?_ ?_ ?_ ?_
  · rw [le2]; exact w _ (by show 0 ≤ g 1 + g 2 * 256; omega) (by show g 1 + g 2 * 256 < 65536; omega)
  · rw [le1]; exact w _ (by omega) (by omega)
  · rw [le2]; exact w _ (by show 0 ≤ g 4 + g 5 * 256; omega) (by show g 4 + g 5 * 256 < 65536; omega)
  · rfl
  · split
    · rename_i h; subst h
      have c6 := B 6 (by decide); have c7 := B 7 (by decide)
      rw [le2]; exact w _ (by show 0 ≤ g 6 + g 7 * 256; omega) (by show g 6 + g 7 * 256 < 65536; omega)
    · rfl
  · split
    · rename_i h
      have c6 := B 6 (by rcases kinds h1 h2 with rfl | rfl | rfl | rfl | rfl | rfl | rfl | rfl | rfl | rfl | rfl | rfl | rfl | rfl <;> first | decide | omega)
      rw [le1]; exact w _ (by omega) (by omega)
    · rfl
  · split
    · rename_i h; subst h
      have c6 := B 6 (by decide)
      rw [le1]; exact w _ (by omega) (by omega)
    · rfl
theorem refNone_c (g : Nat → Int) (n : Nat) (hb : ∀ i, i < n → 0 ≤ g i ∧ g i < 256) (hn : 0 < n) (hm : n ≤ maxLen) (hk : g 0 = 0 ∨ 14 < g 0) (x : Value) (w : World) (hx : RowV w 1 n (rowB g) x) : Calls Tryd.prog 11 #[x] w fun e w' => e = .returned (noV 260) ∧ Below w.heap.size w w' := by
  refine calls_row tabQ_ok Tryd.func11 rfl [] rfl Tryd.ntmps11 rfl _ (wpx_ok tabQ_ok (CI_ok tabQ_ok 8) _ ?_) w hx
  have h0 := hb 0 hn
  have hw : IntKind.i64.wrap (g 0) = g 0 := by rw [IntKind.wrap_i64]; omega
  conv => whnf
  refine And.intro (fun h => absurd (of_decide_eq_true h) (by omega)) (fun h => ?_)
  conv => whnf
  refine And.intro (by (conv => whnf); exact ⟨by decide, Int.ofNat_lt.2 hn⟩) ?_
  conv => whnf
  refine And.intro (by (conv => whnf); exact hn) ?_
  conv => whnf
  refine And.intro (fun h => ?_) (fun h => ?_)
  · conv => whnf
    rfl
  · exfalso
    revert h
    show ¬ (bif decide (IntKind.i64.wrap (g 0) < 1) then true else decide (14 < IntKind.i64.wrap (g 0))) = false
    rw [hw]
    rcases hk with h | h
    · rw [h]; decide
    · rw [show decide (14 < g 0) = true from decide_eq_true h]
      cases decide (g 0 < 1) <;> decide
theorem refZero_c (g : Nat → Int) (x : Value) (w : World) (hx : RowV w 1 0 (rowB g) x) : Calls Tryd.prog 11 #[x] w fun e w' => e = .returned (noV 110) ∧ Below w.heap.size w w' := by
  refine calls_row tabQ_ok Tryd.func11 rfl [] rfl Tryd.ntmps11 rfl _ (wpx_ok tabQ_ok (CI_ok tabQ_ok 8) _ ?_) w hx
  conv => whnf
  refine And.intro (fun h => ?_) (fun h => absurd h (by decide))
  conv => whnf
  rfl

theorem refReadS1_c (g : Nat → Int) (n : Nat) (hb : ∀ i, i < n → 0 ≤ g i ∧ g i < 256) (hn : many 1 ≤ n) (hm : n ≤ maxLen) (hk : g 0 = 1) (x : Value) (w : World) (hx : RowV w 1 n (rowB g) x) : Calls Tryd.prog 11 #[x] w fun e w' => e = .returned (bif evOk (rdE 1 g) then yesV (rdE 1 g) (many 1) else noV 260) ∧ Below w.heap.size w w' := by
  have hn' : 6 ≤ n := hn
  refine calls_row tabQ_ok Tryd.func11 rfl [] rfl Tryd.ntmps11 rfl _ (wpx_ok tabQ_ok (CI_ok tabQ_ok 8) _ ?_) w (rowK_V hk hx)
  conv => whnf
  refine And.intro (fun h => absurd (of_decide_eq_true h) (by omega)) (fun h => ?_)
  conv => whnf
  refine And.intro (by (conv => whnf); exact ⟨by decide, Int.lt_of_lt_of_le (b := (6 : Int)) (by decide) (Int.ofNat_le.2 hn')⟩) ?_
  conv => whnf
  refine And.intro (by (conv => whnf); exact Nat.le_trans (m := 6) (Nat.le_of_ble_eq_true rfl) hn') ?_
  conv => whnf
  refine And.intro (fun h => absurd (show (n : Int) < 6 from of_decide_eq_true h) (by omega)) (fun h => ?_)
  conv => whnf
  refine And.intro (by (conv => whnf); exact ⟨by decide, Int.le_trans (b := (6 : Int)) (by decide) (Int.ofNat_le.2 hn'), Int.le_refl _⟩) ?_
  conv => whnf
  refine And.intro (by
    (conv => whnf)
    refine ⟨Nat.le_sub_of_add_le (Nat.le_trans (m := 6) (Nat.le_of_ble_eq_true rfl) hn'), Nat.le_of_eq (Nat.add_sub_of_le (Nat.le_trans (m := 6) (Nat.le_of_ble_eq_true rfl) hn')), rowK_G hk hb _ _ (Nat.le_of_eq (Nat.add_sub_of_le (Nat.le_trans (m := 6) (Nat.le_of_ble_eq_true rfl) hn'))), Nat.le_trans (Nat.sub_le _ _) hm⟩) ?_
  conv => whnf
  refine And.intro (by (conv => whnf); exact ⟨by decide, Int.le_trans (b := (6 : Int)) (by decide) (Int.ofNat_le.2 hn'), Int.le_refl _⟩) ?_
  conv => whnf
  refine And.intro (by
    (conv => whnf)
    refine ⟨Nat.le_sub_of_add_le (Nat.le_trans (m := 6) (Nat.le_of_ble_eq_true rfl) hn'), Nat.le_of_eq (Nat.add_sub_of_le (Nat.le_trans (m := 6) (Nat.le_of_ble_eq_true rfl) hn')), rowK_G hk hb _ _ (Nat.le_of_eq (Nat.add_sub_of_le (Nat.le_trans (m := 6) (Nat.le_of_ble_eq_true rfl) hn'))), Nat.le_trans (Nat.sub_le _ _) hm⟩) ?_
  conv => whnf
  refine And.intro (by (conv => whnf); exact ⟨by decide, Int.lt_of_lt_of_le (b := (6 : Int)) (by decide) (Int.ofNat_le.2 hn')⟩) ?_
  conv => whnf
  refine And.intro (by (conv => whnf); exact Nat.le_trans (m := 6) (Nat.le_of_ble_eq_true rfl) hn') ?_
  conv => whnf
  have hnv : (0 : Int) = (rdE 1 g).n := rfl
  refine And.intro (by (conv => whnf); show EvT (refEv 1 g 0); rw [refEv_eq (by decide) (by decide) hk hn hb hnv]; exact rdE_T (k := 1) (by decide) (by decide) hn hb) ?_
  conv => whnf
  refine And.intro (fun h => ?_) (fun h => ?_)
  · have h : (!evOk (refEv 1 g 0)) = true := h
    rw [refEv_eq (by decide) (by decide) hk hn hb hnv, Bool.not_eq_true'] at h
    rw [h]
    conv => whnf
    rfl
  · have h : (!evOk (refEv 1 g 0)) = false := h
    rw [refEv_eq (by decide) (by decide) hk hn hb hnv, Bool.not_eq_false'] at h
    rw [h, ← refEv_eq (by decide) (by decide) hk hn hb hnv]
    conv => whnf
    rfl
theorem refReadL1_c (g : Nat → Int) (n : Nat) (hb : ∀ i, i < n → 0 ≤ g i ∧ g i < 256) (h1 : 1 ≤ n) (hn : n < many 1) (hm : n ≤ maxLen) (hk : g 0 = 1) (x : Value) (w : World) (hx : RowV w 1 n (rowB g) x) : Calls Tryd.prog 11 #[x] w fun e w' => e = .returned (noV 110) ∧ Below w.heap.size w w' := by
  have hn' : n < 6 := hn
  refine calls_row tabQ_ok Tryd.func11 rfl [] rfl Tryd.ntmps11 rfl _ (wpx_ok tabQ_ok (CI_ok tabQ_ok 8) _ ?_) w (rowK_V hk hx)
  conv => whnf
  refine And.intro (fun h => absurd (of_decide_eq_true h) (by omega)) (fun h => ?_)
  conv => whnf
  refine And.intro (by (conv => whnf); exact ⟨by decide, Int.ofNat_lt.2 h1⟩) ?_
  conv => whnf
  refine And.intro (by (conv => whnf); exact h1) ?_
  conv => whnf
  refine And.intro (fun h => ?_) (fun h => absurd (show ¬ (n : Int) < 6 from of_decide_eq_false h) (by omega))
  conv => whnf
  rfl

theorem refReadS2_c (g : Nat → Int) (n : Nat) (hb : ∀ i, i < n → 0 ≤ g i ∧ g i < 256) (hn : many 2 ≤ n) (hm : n ≤ maxLen) (hk : g 0 = 2) (x : Value) (w : World) (hx : RowV w 1 n (rowB g) x) : Calls Tryd.prog 11 #[x] w fun e w' => e = .returned (bif evOk (rdE 2 g) then yesV (rdE 2 g) (many 2) else noV 260) ∧ Below w.heap.size w w' := by
  have hn' : 10 ≤ n := hn
  refine calls_row tabQ_ok Tryd.func11 rfl [] rfl Tryd.ntmps11 rfl _ (wpx_ok tabQ_ok (CI_ok tabQ_ok 8) _ ?_) w (rowK_V hk hx)
  conv => whnf
  refine And.intro (fun h => absurd (of_decide_eq_true h) (by omega)) (fun h => ?_)
  conv => whnf
  refine And.intro (by (conv => whnf); exact ⟨by decide, Int.lt_of_lt_of_le (b := (10 : Int)) (by decide) (Int.ofNat_le.2 hn')⟩) ?_
  conv => whnf
  refine And.intro (by (conv => whnf); exact Nat.le_trans (m := 10) (Nat.le_of_ble_eq_true rfl) hn') ?_
  conv => whnf
  refine And.intro (fun h => absurd (show (n : Int) < 10 from of_decide_eq_true h) (by omega)) (fun h => ?_)
  conv => whnf
  refine And.intro (by (conv => whnf); exact ⟨by decide, Int.le_trans (b := (10 : Int)) (by decide) (Int.ofNat_le.2 hn'), Int.le_refl _⟩) ?_
  conv => whnf
  refine And.intro (by
    (conv => whnf)
    refine ⟨Nat.le_sub_of_add_le (Nat.le_trans (m := 10) (Nat.le_of_ble_eq_true rfl) hn'), Nat.le_of_eq (Nat.add_sub_of_le (Nat.le_trans (m := 10) (Nat.le_of_ble_eq_true rfl) hn')), rowK_G hk hb _ _ (Nat.le_of_eq (Nat.add_sub_of_le (Nat.le_trans (m := 10) (Nat.le_of_ble_eq_true rfl) hn'))), Nat.le_trans (Nat.sub_le _ _) hm⟩) ?_
  conv => whnf
  refine And.intro (by (conv => whnf); exact ⟨by decide, Int.le_trans (b := (10 : Int)) (by decide) (Int.ofNat_le.2 hn'), Int.le_refl _⟩) ?_
  conv => whnf
  refine And.intro (by
    (conv => whnf)
    refine ⟨Nat.le_sub_of_add_le (Nat.le_trans (m := 10) (Nat.le_of_ble_eq_true rfl) hn'), Nat.le_of_eq (Nat.add_sub_of_le (Nat.le_trans (m := 10) (Nat.le_of_ble_eq_true rfl) hn')), rowK_G hk hb _ _ (Nat.le_of_eq (Nat.add_sub_of_le (Nat.le_trans (m := 10) (Nat.le_of_ble_eq_true rfl) hn'))), Nat.le_trans (Nat.sub_le _ _) hm⟩) ?_
  conv => whnf
  refine And.intro (by (conv => whnf); exact ⟨by decide, Int.lt_of_lt_of_le (b := (10 : Int)) (by decide) (Int.ofNat_le.2 hn')⟩) ?_
  conv => whnf
  refine And.intro (by (conv => whnf); exact Nat.le_trans (m := 10) (Nat.le_of_ble_eq_true rfl) hn') ?_
  conv => whnf
  refine And.intro (by (conv => whnf); exact ⟨by decide, Int.le_trans (b := (10 : Int)) (by decide) (Int.ofNat_le.2 hn'), Int.le_refl _⟩) ?_
  conv => whnf
  refine And.intro (by
    (conv => whnf)
    refine ⟨Nat.le_sub_of_add_le (Nat.le_trans (m := 10) (Nat.le_of_ble_eq_true rfl) hn'), Nat.le_of_eq (Nat.add_sub_of_le (Nat.le_trans (m := 10) (Nat.le_of_ble_eq_true rfl) hn')), rowK_G hk hb _ _ (Nat.le_of_eq (Nat.add_sub_of_le (Nat.le_trans (m := 10) (Nat.le_of_ble_eq_true rfl) hn'))), Nat.le_trans (Nat.sub_le _ _) hm⟩) ?_
  conv => whnf
  have hnv : (0 : Int) = (rdE 2 g).n := rfl
  refine And.intro (by (conv => whnf); show EvT (refEv 2 g 0); rw [refEv_eq (by decide) (by decide) hk hn hb hnv]; exact rdE_T (k := 2) (by decide) (by decide) hn hb) ?_
  conv => whnf
  refine And.intro (fun h => ?_) (fun h => ?_)
  · have h : (!evOk (refEv 2 g 0)) = true := h
    rw [refEv_eq (by decide) (by decide) hk hn hb hnv, Bool.not_eq_true'] at h
    rw [h]
    conv => whnf
    rfl
  · have h : (!evOk (refEv 2 g 0)) = false := h
    rw [refEv_eq (by decide) (by decide) hk hn hb hnv, Bool.not_eq_false'] at h
    rw [h, ← refEv_eq (by decide) (by decide) hk hn hb hnv]
    conv => whnf
    rfl
theorem refReadL2_c (g : Nat → Int) (n : Nat) (hb : ∀ i, i < n → 0 ≤ g i ∧ g i < 256) (h1 : 1 ≤ n) (hn : n < many 2) (hm : n ≤ maxLen) (hk : g 0 = 2) (x : Value) (w : World) (hx : RowV w 1 n (rowB g) x) : Calls Tryd.prog 11 #[x] w fun e w' => e = .returned (noV 110) ∧ Below w.heap.size w w' := by
  have hn' : n < 10 := hn
  refine calls_row tabQ_ok Tryd.func11 rfl [] rfl Tryd.ntmps11 rfl _ (wpx_ok tabQ_ok (CI_ok tabQ_ok 8) _ ?_) w (rowK_V hk hx)
  conv => whnf
  refine And.intro (fun h => absurd (of_decide_eq_true h) (by omega)) (fun h => ?_)
  conv => whnf
  refine And.intro (by (conv => whnf); exact ⟨by decide, Int.ofNat_lt.2 h1⟩) ?_
  conv => whnf
  refine And.intro (by (conv => whnf); exact h1) ?_
  conv => whnf
  refine And.intro (fun h => ?_) (fun h => absurd (show ¬ (n : Int) < 10 from of_decide_eq_false h) (by omega))
  conv => whnf
  rfl

theorem refReadS3_c (g : Nat → Int) (n : Nat) (hb : ∀ i, i < n → 0 ≤ g i ∧ g i < 256) (hn : many 3 ≤ n) (hm : n ≤ maxLen) (hk : g 0 = 3) (x : Value) (w : World) (hx : RowV w 1 n (rowB g) x) : Calls Tryd.prog 11 #[x] w fun e w' => e = .returned (bif evOk (rdE 3 g) then yesV (rdE 3 g) (many 3) else noV 260) ∧ Below w.heap.size w w' := by
  have hn' : 10 ≤ n := hn
  refine calls_row tabQ_ok Tryd.func11 rfl [] rfl Tryd.ntmps11 rfl _ (wpx_ok tabQ_ok (CI_ok tabQ_ok 8) _ ?_) w (rowK_V hk hx)
  conv => whnf
  refine And.intro (fun h => absurd (of_decide_eq_true h) (by omega)) (fun h => ?_)
  conv => whnf
  refine And.intro (by (conv => whnf); exact ⟨by decide, Int.lt_of_lt_of_le (b := (10 : Int)) (by decide) (Int.ofNat_le.2 hn')⟩) ?_
  conv => whnf
  refine And.intro (by (conv => whnf); exact Nat.le_trans (m := 10) (Nat.le_of_ble_eq_true rfl) hn') ?_
  conv => whnf
  refine And.intro (fun h => absurd (show (n : Int) < 10 from of_decide_eq_true h) (by omega)) (fun h => ?_)
  conv => whnf
  refine And.intro (by (conv => whnf); exact ⟨by decide, Int.le_trans (b := (10 : Int)) (by decide) (Int.ofNat_le.2 hn'), Int.le_refl _⟩) ?_
  conv => whnf
  refine And.intro (by
    (conv => whnf)
    refine ⟨Nat.le_sub_of_add_le (Nat.le_trans (m := 10) (Nat.le_of_ble_eq_true rfl) hn'), Nat.le_of_eq (Nat.add_sub_of_le (Nat.le_trans (m := 10) (Nat.le_of_ble_eq_true rfl) hn')), rowK_G hk hb _ _ (Nat.le_of_eq (Nat.add_sub_of_le (Nat.le_trans (m := 10) (Nat.le_of_ble_eq_true rfl) hn'))), Nat.le_trans (Nat.sub_le _ _) hm⟩) ?_
  conv => whnf
  refine And.intro (by (conv => whnf); exact ⟨by decide, Int.le_trans (b := (10 : Int)) (by decide) (Int.ofNat_le.2 hn'), Int.le_refl _⟩) ?_
  conv => whnf
  refine And.intro (by
    (conv => whnf)
    refine ⟨Nat.le_sub_of_add_le (Nat.le_trans (m := 10) (Nat.le_of_ble_eq_true rfl) hn'), Nat.le_of_eq (Nat.add_sub_of_le (Nat.le_trans (m := 10) (Nat.le_of_ble_eq_true rfl) hn')), rowK_G hk hb _ _ (Nat.le_of_eq (Nat.add_sub_of_le (Nat.le_trans (m := 10) (Nat.le_of_ble_eq_true rfl) hn'))), Nat.le_trans (Nat.sub_le _ _) hm⟩) ?_
  conv => whnf
  refine And.intro (by (conv => whnf); exact ⟨by decide, Int.lt_of_lt_of_le (b := (10 : Int)) (by decide) (Int.ofNat_le.2 hn')⟩) ?_
  conv => whnf
  refine And.intro (by (conv => whnf); exact Nat.le_trans (m := 10) (Nat.le_of_ble_eq_true rfl) hn') ?_
  conv => whnf
  refine And.intro (by (conv => whnf); exact ⟨by decide, Int.le_trans (b := (10 : Int)) (by decide) (Int.ofNat_le.2 hn'), Int.le_refl _⟩) ?_
  conv => whnf
  refine And.intro (by
    (conv => whnf)
    refine ⟨Nat.le_sub_of_add_le (Nat.le_trans (m := 10) (Nat.le_of_ble_eq_true rfl) hn'), Nat.le_of_eq (Nat.add_sub_of_le (Nat.le_trans (m := 10) (Nat.le_of_ble_eq_true rfl) hn')), rowK_G hk hb _ _ (Nat.le_of_eq (Nat.add_sub_of_le (Nat.le_trans (m := 10) (Nat.le_of_ble_eq_true rfl) hn'))), Nat.le_trans (Nat.sub_le _ _) hm⟩) ?_
  conv => whnf
  have hnv : (0 : Int) = (rdE 3 g).n := rfl
  refine And.intro (by (conv => whnf); show EvT (refEv 3 g 0); rw [refEv_eq (by decide) (by decide) hk hn hb hnv]; exact rdE_T (k := 3) (by decide) (by decide) hn hb) ?_
  conv => whnf
  refine And.intro (fun h => ?_) (fun h => ?_)
  · have h : (!evOk (refEv 3 g 0)) = true := h
    rw [refEv_eq (by decide) (by decide) hk hn hb hnv, Bool.not_eq_true'] at h
    rw [h]
    conv => whnf
    rfl
  · have h : (!evOk (refEv 3 g 0)) = false := h
    rw [refEv_eq (by decide) (by decide) hk hn hb hnv, Bool.not_eq_false'] at h
    rw [h, ← refEv_eq (by decide) (by decide) hk hn hb hnv]
    conv => whnf
    rfl
theorem refReadL3_c (g : Nat → Int) (n : Nat) (hb : ∀ i, i < n → 0 ≤ g i ∧ g i < 256) (h1 : 1 ≤ n) (hn : n < many 3) (hm : n ≤ maxLen) (hk : g 0 = 3) (x : Value) (w : World) (hx : RowV w 1 n (rowB g) x) : Calls Tryd.prog 11 #[x] w fun e w' => e = .returned (noV 110) ∧ Below w.heap.size w w' := by
  have hn' : n < 10 := hn
  refine calls_row tabQ_ok Tryd.func11 rfl [] rfl Tryd.ntmps11 rfl _ (wpx_ok tabQ_ok (CI_ok tabQ_ok 8) _ ?_) w (rowK_V hk hx)
  conv => whnf
  refine And.intro (fun h => absurd (of_decide_eq_true h) (by omega)) (fun h => ?_)
  conv => whnf
  refine And.intro (by (conv => whnf); exact ⟨by decide, Int.ofNat_lt.2 h1⟩) ?_
  conv => whnf
  refine And.intro (by (conv => whnf); exact h1) ?_
  conv => whnf
  refine And.intro (fun h => ?_) (fun h => absurd (show ¬ (n : Int) < 10 from of_decide_eq_false h) (by omega))
  conv => whnf
  rfl

theorem refReadS4_c (g : Nat → Int) (n : Nat) (hb : ∀ i, i < n → 0 ≤ g i ∧ g i < 256) (hn : many 4 ≤ n) (hm : n ≤ maxLen) (hk : g 0 = 4) (x : Value) (w : World) (hx : RowV w 1 n (rowB g) x) : Calls Tryd.prog 11 #[x] w fun e w' => e = .returned (bif evOk (rdE 4 g) then yesV (rdE 4 g) (many 4) else noV 260) ∧ Below w.heap.size w w' := by
  have hn' : 8 ≤ n := hn
  refine calls_row tabQ_ok Tryd.func11 rfl [] rfl Tryd.ntmps11 rfl _ (wpx_ok tabQ_ok (CI_ok tabQ_ok 8) _ ?_) w (rowK_V hk hx)
  conv => whnf
  refine And.intro (fun h => absurd (of_decide_eq_true h) (by omega)) (fun h => ?_)
  conv => whnf
  refine And.intro (by (conv => whnf); exact ⟨by decide, Int.lt_of_lt_of_le (b := (8 : Int)) (by decide) (Int.ofNat_le.2 hn')⟩) ?_
  conv => whnf
  refine And.intro (by (conv => whnf); exact Nat.le_trans (m := 8) (Nat.le_of_ble_eq_true rfl) hn') ?_
  conv => whnf
  refine And.intro (fun h => absurd (show (n : Int) < 8 from of_decide_eq_true h) (by omega)) (fun h => ?_)
  conv => whnf
  refine And.intro (by (conv => whnf); exact ⟨by decide, Int.le_trans (b := (8 : Int)) (by decide) (Int.ofNat_le.2 hn'), Int.le_refl _⟩) ?_
  conv => whnf
  refine And.intro (by
    (conv => whnf)
    refine ⟨Nat.le_sub_of_add_le (Nat.le_trans (m := 8) (Nat.le_of_ble_eq_true rfl) hn'), Nat.le_of_eq (Nat.add_sub_of_le (Nat.le_trans (m := 8) (Nat.le_of_ble_eq_true rfl) hn')), rowK_G hk hb _ _ (Nat.le_of_eq (Nat.add_sub_of_le (Nat.le_trans (m := 8) (Nat.le_of_ble_eq_true rfl) hn'))), Nat.le_trans (Nat.sub_le _ _) hm⟩) ?_
  conv => whnf
  refine And.intro (by (conv => whnf); exact ⟨by decide, Int.le_trans (b := (8 : Int)) (by decide) (Int.ofNat_le.2 hn'), Int.le_refl _⟩) ?_
  conv => whnf
  refine And.intro (by
    (conv => whnf)
    refine ⟨Nat.le_sub_of_add_le (Nat.le_trans (m := 8) (Nat.le_of_ble_eq_true rfl) hn'), Nat.le_of_eq (Nat.add_sub_of_le (Nat.le_trans (m := 8) (Nat.le_of_ble_eq_true rfl) hn')), rowK_G hk hb _ _ (Nat.le_of_eq (Nat.add_sub_of_le (Nat.le_trans (m := 8) (Nat.le_of_ble_eq_true rfl) hn'))), Nat.le_trans (Nat.sub_le _ _) hm⟩) ?_
  conv => whnf
  refine And.intro (by (conv => whnf); exact ⟨by decide, Int.lt_of_lt_of_le (b := (8 : Int)) (by decide) (Int.ofNat_le.2 hn')⟩) ?_
  conv => whnf
  refine And.intro (by (conv => whnf); exact Nat.le_trans (m := 8) (Nat.le_of_ble_eq_true rfl) hn') ?_
  conv => whnf
  refine And.intro (by (conv => whnf); exact ⟨by decide, Int.le_trans (b := (8 : Int)) (by decide) (Int.ofNat_le.2 hn'), Int.le_refl _⟩) ?_
  conv => whnf
  refine And.intro (by
    (conv => whnf)
    refine ⟨Nat.le_sub_of_add_le (Nat.le_trans (m := 8) (Nat.le_of_ble_eq_true rfl) hn'), Nat.le_of_eq (Nat.add_sub_of_le (Nat.le_trans (m := 8) (Nat.le_of_ble_eq_true rfl) hn')), rowK_G hk hb _ _ (Nat.le_of_eq (Nat.add_sub_of_le (Nat.le_trans (m := 8) (Nat.le_of_ble_eq_true rfl) hn'))), Nat.le_trans (Nat.sub_le _ _) hm⟩) ?_
  conv => whnf
  have hnv : (0 : Int) = (rdE 4 g).n := rfl
  refine And.intro (by (conv => whnf); show EvT (refEv 4 g 0); rw [refEv_eq (by decide) (by decide) hk hn hb hnv]; exact rdE_T (k := 4) (by decide) (by decide) hn hb) ?_
  conv => whnf
  refine And.intro (fun h => ?_) (fun h => ?_)
  · have h : (!evOk (refEv 4 g 0)) = true := h
    rw [refEv_eq (by decide) (by decide) hk hn hb hnv, Bool.not_eq_true'] at h
    rw [h]
    conv => whnf
    rfl
  · have h : (!evOk (refEv 4 g 0)) = false := h
    rw [refEv_eq (by decide) (by decide) hk hn hb hnv, Bool.not_eq_false'] at h
    rw [h, ← refEv_eq (by decide) (by decide) hk hn hb hnv]
    conv => whnf
    rfl
theorem refReadL4_c (g : Nat → Int) (n : Nat) (hb : ∀ i, i < n → 0 ≤ g i ∧ g i < 256) (h1 : 1 ≤ n) (hn : n < many 4) (hm : n ≤ maxLen) (hk : g 0 = 4) (x : Value) (w : World) (hx : RowV w 1 n (rowB g) x) : Calls Tryd.prog 11 #[x] w fun e w' => e = .returned (noV 110) ∧ Below w.heap.size w w' := by
  have hn' : n < 8 := hn
  refine calls_row tabQ_ok Tryd.func11 rfl [] rfl Tryd.ntmps11 rfl _ (wpx_ok tabQ_ok (CI_ok tabQ_ok 8) _ ?_) w (rowK_V hk hx)
  conv => whnf
  refine And.intro (fun h => absurd (of_decide_eq_true h) (by omega)) (fun h => ?_)
  conv => whnf
  refine And.intro (by (conv => whnf); exact ⟨by decide, Int.ofNat_lt.2 h1⟩) ?_
  conv => whnf
  refine And.intro (by (conv => whnf); exact h1) ?_
  conv => whnf
  refine And.intro (fun h => ?_) (fun h => absurd (show ¬ (n : Int) < 8 from of_decide_eq_false h) (by omega))
  conv => whnf
  rfl

theorem refReadS5_c (g : Nat → Int) (n : Nat) (hb : ∀ i, i < n → 0 ≤ g i ∧ g i < 256) (hn : many 5 ≤ n) (hm : n ≤ maxLen) (hk : g 0 = 5) (x : Value) (w : World) (hx : RowV w 1 n (rowB g) x) : Calls Tryd.prog 11 #[x] w fun e w' => e = .returned (bif evOk (rdE 5 g) then yesV (rdE 5 g) (many 5) else noV 260) ∧ Below w.heap.size w w' := by
  have hn' : 7 ≤ n := hn
  refine calls_row tabQ_ok Tryd.func11 rfl [] rfl Tryd.ntmps11 rfl _ (wpx_ok tabQ_ok (CI_ok tabQ_ok 8) _ ?_) w (rowK_V hk hx)
  conv => whnf
  refine And.intro (fun h => absurd (of_decide_eq_true h) (by omega)) (fun h => ?_)
  conv => whnf
  refine And.intro (by (conv => whnf); exact ⟨by decide, Int.lt_of_lt_of_le (b := (7 : Int)) (by decide) (Int.ofNat_le.2 hn')⟩) ?_
  conv => whnf
  refine And.intro (by (conv => whnf); exact Nat.le_trans (m := 7) (Nat.le_of_ble_eq_true rfl) hn') ?_
  conv => whnf
  refine And.intro (fun h => absurd (show (n : Int) < 7 from of_decide_eq_true h) (by omega)) (fun h => ?_)
  conv => whnf
  refine And.intro (by (conv => whnf); exact ⟨by decide, Int.le_trans (b := (7 : Int)) (by decide) (Int.ofNat_le.2 hn'), Int.le_refl _⟩) ?_
  conv => whnf
  refine And.intro (by
    (conv => whnf)
    refine ⟨Nat.le_sub_of_add_le (Nat.le_trans (m := 7) (Nat.le_of_ble_eq_true rfl) hn'), Nat.le_of_eq (Nat.add_sub_of_le (Nat.le_trans (m := 7) (Nat.le_of_ble_eq_true rfl) hn')), rowK_G hk hb _ _ (Nat.le_of_eq (Nat.add_sub_of_le (Nat.le_trans (m := 7) (Nat.le_of_ble_eq_true rfl) hn'))), Nat.le_trans (Nat.sub_le _ _) hm⟩) ?_
  conv => whnf
  refine And.intro (by (conv => whnf); exact ⟨by decide, Int.le_trans (b := (7 : Int)) (by decide) (Int.ofNat_le.2 hn'), Int.le_refl _⟩) ?_
  conv => whnf
  refine And.intro (by
    (conv => whnf)
    refine ⟨Nat.le_sub_of_add_le (Nat.le_trans (m := 7) (Nat.le_of_ble_eq_true rfl) hn'), Nat.le_of_eq (Nat.add_sub_of_le (Nat.le_trans (m := 7) (Nat.le_of_ble_eq_true rfl) hn')), rowK_G hk hb _ _ (Nat.le_of_eq (Nat.add_sub_of_le (Nat.le_trans (m := 7) (Nat.le_of_ble_eq_true rfl) hn'))), Nat.le_trans (Nat.sub_le _ _) hm⟩) ?_
  conv => whnf
  refine And.intro (by (conv => whnf); exact ⟨by decide, Int.lt_of_lt_of_le (b := (7 : Int)) (by decide) (Int.ofNat_le.2 hn')⟩) ?_
  conv => whnf
  refine And.intro (by (conv => whnf); exact Nat.le_trans (m := 7) (Nat.le_of_ble_eq_true rfl) hn') ?_
  conv => whnf
  refine And.intro (by (conv => whnf); exact ⟨by decide, Int.lt_of_lt_of_le (b := (7 : Int)) (by decide) (Int.ofNat_le.2 hn')⟩) ?_
  conv => whnf
  refine And.intro (by (conv => whnf); exact Nat.le_trans (m := 7) (Nat.le_of_ble_eq_true rfl) hn') ?_
  conv => whnf
  have hnv : (0 : Int) = (rdE 5 g).n := rfl
  refine And.intro (by (conv => whnf); show EvT (refEv 5 g 0); rw [refEv_eq (by decide) (by decide) hk hn hb hnv]; exact rdE_T (k := 5) (by decide) (by decide) hn hb) ?_
  conv => whnf
  refine And.intro (fun h => ?_) (fun h => ?_)
  · have h : (!evOk (refEv 5 g 0)) = true := h
    rw [refEv_eq (by decide) (by decide) hk hn hb hnv, Bool.not_eq_true'] at h
    rw [h]
    conv => whnf
    rfl
  · have h : (!evOk (refEv 5 g 0)) = false := h
    rw [refEv_eq (by decide) (by decide) hk hn hb hnv, Bool.not_eq_false'] at h
    rw [h, ← refEv_eq (by decide) (by decide) hk hn hb hnv]
    conv => whnf
    rfl
theorem refReadL5_c (g : Nat → Int) (n : Nat) (hb : ∀ i, i < n → 0 ≤ g i ∧ g i < 256) (h1 : 1 ≤ n) (hn : n < many 5) (hm : n ≤ maxLen) (hk : g 0 = 5) (x : Value) (w : World) (hx : RowV w 1 n (rowB g) x) : Calls Tryd.prog 11 #[x] w fun e w' => e = .returned (noV 110) ∧ Below w.heap.size w w' := by
  have hn' : n < 7 := hn
  refine calls_row tabQ_ok Tryd.func11 rfl [] rfl Tryd.ntmps11 rfl _ (wpx_ok tabQ_ok (CI_ok tabQ_ok 8) _ ?_) w (rowK_V hk hx)
  conv => whnf
  refine And.intro (fun h => absurd (of_decide_eq_true h) (by omega)) (fun h => ?_)
  conv => whnf
  refine And.intro (by (conv => whnf); exact ⟨by decide, Int.ofNat_lt.2 h1⟩) ?_
  conv => whnf
  refine And.intro (by (conv => whnf); exact h1) ?_
  conv => whnf
  refine And.intro (fun h => ?_) (fun h => absurd (show ¬ (n : Int) < 7 from of_decide_eq_false h) (by omega))
  conv => whnf
  rfl

theorem refReadS6_c (g : Nat → Int) (n : Nat) (hb : ∀ i, i < n → 0 ≤ g i ∧ g i < 256) (hn : many 6 ≤ n) (hm : n ≤ maxLen) (hk : g 0 = 6) (x : Value) (w : World) (hx : RowV w 1 n (rowB g) x) : Calls Tryd.prog 11 #[x] w fun e w' => e = .returned (bif evOk (rdE 6 g) then yesV (rdE 6 g) (many 6) else noV 260) ∧ Below w.heap.size w w' := by
  have hn' : 7 ≤ n := hn
  refine calls_row tabQ_ok Tryd.func11 rfl [] rfl Tryd.ntmps11 rfl _ (wpx_ok tabQ_ok (CI_ok tabQ_ok 8) _ ?_) w (rowK_V hk hx)
  conv => whnf
  refine And.intro (fun h => absurd (of_decide_eq_true h) (by omega)) (fun h => ?_)
  conv => whnf
  refine And.intro (by (conv => whnf); exact ⟨by decide, Int.lt_of_lt_of_le (b := (7 : Int)) (by decide) (Int.ofNat_le.2 hn')⟩) ?_
  conv => whnf
  refine And.intro (by (conv => whnf); exact Nat.le_trans (m := 7) (Nat.le_of_ble_eq_true rfl) hn') ?_
  conv => whnf
  refine And.intro (fun h => absurd (show (n : Int) < 7 from of_decide_eq_true h) (by omega)) (fun h => ?_)
  conv => whnf
  refine And.intro (by (conv => whnf); exact ⟨by decide, Int.le_trans (b := (7 : Int)) (by decide) (Int.ofNat_le.2 hn'), Int.le_refl _⟩) ?_
  conv => whnf
  refine And.intro (by
    (conv => whnf)
    refine ⟨Nat.le_sub_of_add_le (Nat.le_trans (m := 7) (Nat.le_of_ble_eq_true rfl) hn'), Nat.le_of_eq (Nat.add_sub_of_le (Nat.le_trans (m := 7) (Nat.le_of_ble_eq_true rfl) hn')), rowK_G hk hb _ _ (Nat.le_of_eq (Nat.add_sub_of_le (Nat.le_trans (m := 7) (Nat.le_of_ble_eq_true rfl) hn'))), Nat.le_trans (Nat.sub_le _ _) hm⟩) ?_
  conv => whnf
  refine And.intro (by (conv => whnf); exact ⟨by decide, Int.le_trans (b := (7 : Int)) (by decide) (Int.ofNat_le.2 hn'), Int.le_refl _⟩) ?_
  conv => whnf
  refine And.intro (by
    (conv => whnf)
    refine ⟨Nat.le_sub_of_add_le (Nat.le_trans (m := 7) (Nat.le_of_ble_eq_true rfl) hn'), Nat.le_of_eq (Nat.add_sub_of_le (Nat.le_trans (m := 7) (Nat.le_of_ble_eq_true rfl) hn')), rowK_G hk hb _ _ (Nat.le_of_eq (Nat.add_sub_of_le (Nat.le_trans (m := 7) (Nat.le_of_ble_eq_true rfl) hn'))), Nat.le_trans (Nat.sub_le _ _) hm⟩) ?_
  conv => whnf
  refine And.intro (by (conv => whnf); exact ⟨by decide, Int.lt_of_lt_of_le (b := (7 : Int)) (by decide) (Int.ofNat_le.2 hn')⟩) ?_
  conv => whnf
  refine And.intro (by (conv => whnf); exact Nat.le_trans (m := 7) (Nat.le_of_ble_eq_true rfl) hn') ?_
  conv => whnf
  refine And.intro (by (conv => whnf); exact ⟨by decide, Int.lt_of_lt_of_le (b := (7 : Int)) (by decide) (Int.ofNat_le.2 hn')⟩) ?_
  conv => whnf
  refine And.intro (by (conv => whnf); exact Nat.le_trans (m := 7) (Nat.le_of_ble_eq_true rfl) hn') ?_
  conv => whnf
  have hnv : (0 : Int) = (rdE 6 g).n := rfl
  refine And.intro (by (conv => whnf); show EvT (refEv 6 g 0); rw [refEv_eq (by decide) (by decide) hk hn hb hnv]; exact rdE_T (k := 6) (by decide) (by decide) hn hb) ?_
  conv => whnf
  refine And.intro (fun h => ?_) (fun h => ?_)
  · have h : (!evOk (refEv 6 g 0)) = true := h
    rw [refEv_eq (by decide) (by decide) hk hn hb hnv, Bool.not_eq_true'] at h
    rw [h]
    conv => whnf
    rfl
  · have h : (!evOk (refEv 6 g 0)) = false := h
    rw [refEv_eq (by decide) (by decide) hk hn hb hnv, Bool.not_eq_false'] at h
    rw [h, ← refEv_eq (by decide) (by decide) hk hn hb hnv]
    conv => whnf
    rfl
theorem refReadL6_c (g : Nat → Int) (n : Nat) (hb : ∀ i, i < n → 0 ≤ g i ∧ g i < 256) (h1 : 1 ≤ n) (hn : n < many 6) (hm : n ≤ maxLen) (hk : g 0 = 6) (x : Value) (w : World) (hx : RowV w 1 n (rowB g) x) : Calls Tryd.prog 11 #[x] w fun e w' => e = .returned (noV 110) ∧ Below w.heap.size w w' := by
  have hn' : n < 7 := hn
  refine calls_row tabQ_ok Tryd.func11 rfl [] rfl Tryd.ntmps11 rfl _ (wpx_ok tabQ_ok (CI_ok tabQ_ok 8) _ ?_) w (rowK_V hk hx)
  conv => whnf
  refine And.intro (fun h => absurd (of_decide_eq_true h) (by omega)) (fun h => ?_)
  conv => whnf
  refine And.intro (by (conv => whnf); exact ⟨by decide, Int.ofNat_lt.2 h1⟩) ?_
  conv => whnf
  refine And.intro (by (conv => whnf); exact h1) ?_
  conv => whnf
  refine And.intro (fun h => ?_) (fun h => absurd (show ¬ (n : Int) < 7 from of_decide_eq_false h) (by omega))
  conv => whnf
  rfl

theorem refReadS7_c (g : Nat → Int) (n : Nat) (hb : ∀ i, i < n → 0 ≤ g i ∧ g i < 256) (hn : many 7 ≤ n) (hm : n ≤ maxLen) (hk : g 0 = 7) (x : Value) (w : World) (hx : RowV w 1 n (rowB g) x) : Calls Tryd.prog 11 #[x] w fun e w' => e = .returned (bif evOk (rdE 7 g) then yesV (rdE 7 g) (many 7) else noV 260) ∧ Below w.heap.size w w' := by
  have hn' : 7 ≤ n := hn
  refine calls_row tabQ_ok Tryd.func11 rfl [] rfl Tryd.ntmps11 rfl _ (wpx_ok tabQ_ok (CI_ok tabQ_ok 8) _ ?_) w (rowK_V hk hx)
  conv => whnf
  refine And.intro (fun h => absurd (of_decide_eq_true h) (by omega)) (fun h => ?_)
  conv => whnf
  refine And.intro (by (conv => whnf); exact ⟨by decide, Int.lt_of_lt_of_le (b := (7 : Int)) (by decide) (Int.ofNat_le.2 hn')⟩) ?_
  conv => whnf
  refine And.intro (by (conv => whnf); exact Nat.le_trans (m := 7) (Nat.le_of_ble_eq_true rfl) hn') ?_
  conv => whnf
  refine And.intro (fun h => absurd (show (n : Int) < 7 from of_decide_eq_true h) (by omega)) (fun h => ?_)
  conv => whnf
  refine And.intro (by (conv => whnf); exact ⟨by decide, Int.le_trans (b := (7 : Int)) (by decide) (Int.ofNat_le.2 hn'), Int.le_refl _⟩) ?_
  conv => whnf
  refine And.intro (by
    (conv => whnf)
    refine ⟨Nat.le_sub_of_add_le (Nat.le_trans (m := 7) (Nat.le_of_ble_eq_true rfl) hn'), Nat.le_of_eq (Nat.add_sub_of_le (Nat.le_trans (m := 7) (Nat.le_of_ble_eq_true rfl) hn')), rowK_G hk hb _ _ (Nat.le_of_eq (Nat.add_sub_of_le (Nat.le_trans (m := 7) (Nat.le_of_ble_eq_true rfl) hn'))), Nat.le_trans (Nat.sub_le _ _) hm⟩) ?_
  conv => whnf
  refine And.intro (by (conv => whnf); exact ⟨by decide, Int.le_trans (b := (7 : Int)) (by decide) (Int.ofNat_le.2 hn'), Int.le_refl _⟩) ?_
  conv => whnf
  refine And.intro (by
    (conv => whnf)
    refine ⟨Nat.le_sub_of_add_le (Nat.le_trans (m := 7) (Nat.le_of_ble_eq_true rfl) hn'), Nat.le_of_eq (Nat.add_sub_of_le (Nat.le_trans (m := 7) (Nat.le_of_ble_eq_true rfl) hn')), rowK_G hk hb _ _ (Nat.le_of_eq (Nat.add_sub_of_le (Nat.le_trans (m := 7) (Nat.le_of_ble_eq_true rfl) hn'))), Nat.le_trans (Nat.sub_le _ _) hm⟩) ?_
  conv => whnf
  refine And.intro (by (conv => whnf); exact ⟨by decide, Int.lt_of_lt_of_le (b := (7 : Int)) (by decide) (Int.ofNat_le.2 hn')⟩) ?_
  conv => whnf
  refine And.intro (by (conv => whnf); exact Nat.le_trans (m := 7) (Nat.le_of_ble_eq_true rfl) hn') ?_
  conv => whnf
  refine And.intro (by (conv => whnf); exact ⟨by decide, Int.lt_of_lt_of_le (b := (7 : Int)) (by decide) (Int.ofNat_le.2 hn')⟩) ?_
  conv => whnf
  refine And.intro (by (conv => whnf); exact Nat.le_trans (m := 7) (Nat.le_of_ble_eq_true rfl) hn') ?_
  conv => whnf
  have hnv : (0 : Int) = (rdE 7 g).n := rfl
  refine And.intro (by (conv => whnf); show EvT (refEv 7 g 0); rw [refEv_eq (by decide) (by decide) hk hn hb hnv]; exact rdE_T (k := 7) (by decide) (by decide) hn hb) ?_
  conv => whnf
  refine And.intro (fun h => ?_) (fun h => ?_)
  · have h : (!evOk (refEv 7 g 0)) = true := h
    rw [refEv_eq (by decide) (by decide) hk hn hb hnv, Bool.not_eq_true'] at h
    rw [h]
    conv => whnf
    rfl
  · have h : (!evOk (refEv 7 g 0)) = false := h
    rw [refEv_eq (by decide) (by decide) hk hn hb hnv, Bool.not_eq_false'] at h
    rw [h, ← refEv_eq (by decide) (by decide) hk hn hb hnv]
    conv => whnf
    rfl
theorem refReadL7_c (g : Nat → Int) (n : Nat) (hb : ∀ i, i < n → 0 ≤ g i ∧ g i < 256) (h1 : 1 ≤ n) (hn : n < many 7) (hm : n ≤ maxLen) (hk : g 0 = 7) (x : Value) (w : World) (hx : RowV w 1 n (rowB g) x) : Calls Tryd.prog 11 #[x] w fun e w' => e = .returned (noV 110) ∧ Below w.heap.size w w' := by
  have hn' : n < 7 := hn
  refine calls_row tabQ_ok Tryd.func11 rfl [] rfl Tryd.ntmps11 rfl _ (wpx_ok tabQ_ok (CI_ok tabQ_ok 8) _ ?_) w (rowK_V hk hx)
  conv => whnf
  refine And.intro (fun h => absurd (of_decide_eq_true h) (by omega)) (fun h => ?_)
  conv => whnf
  refine And.intro (by (conv => whnf); exact ⟨by decide, Int.ofNat_lt.2 h1⟩) ?_
  conv => whnf
  refine And.intro (by (conv => whnf); exact h1) ?_
  conv => whnf
  refine And.intro (fun h => ?_) (fun h => absurd (show ¬ (n : Int) < 7 from of_decide_eq_false h) (by omega))
  conv => whnf
  rfl

theorem refReadS8_c (g : Nat → Int) (n : Nat) (hb : ∀ i, i < n → 0 ≤ g i ∧ g i < 256) (hn : many 8 ≤ n) (hm : n ≤ maxLen) (hk : g 0 = 8) (x : Value) (w : World) (hx : RowV w 1 n (rowB g) x) : Calls Tryd.prog 11 #[x] w fun e w' => e = .returned (bif evOk (rdE 8 g) then yesV (rdE 8 g) (many 8) else noV 260) ∧ Below w.heap.size w w' := by
  have hn' : 7 ≤ n := hn
  refine calls_row tabQ_ok Tryd.func11 rfl [] rfl Tryd.ntmps11 rfl _ (wpx_ok tabQ_ok (CI_ok tabQ_ok 8) _ ?_) w (rowK_V hk hx)
  conv => whnf
  refine And.intro (fun h => absurd (of_decide_eq_true h) (by omega)) (fun h => ?_)
  conv => whnf
  refine And.intro (by (conv => whnf); exact ⟨by decide, Int.lt_of_lt_of_le (b := (7 : Int)) (by decide) (Int.ofNat_le.2 hn')⟩) ?_
  conv => whnf
  refine And.intro (by (conv => whnf); exact Nat.le_trans (m := 7) (Nat.le_of_ble_eq_true rfl) hn') ?_
  conv => whnf
  refine And.intro (fun h => absurd (show (n : Int) < 7 from of_decide_eq_true h) (by omega)) (fun h => ?_)
  conv => whnf
  refine And.intro (by (conv => whnf); exact ⟨by decide, Int.le_trans (b := (7 : Int)) (by decide) (Int.ofNat_le.2 hn'), Int.le_refl _⟩) ?_
  conv => whnf
  refine And.intro (by
    (conv => whnf)
    refine ⟨Nat.le_sub_of_add_le (Nat.le_trans (m := 7) (Nat.le_of_ble_eq_true rfl) hn'), Nat.le_of_eq (Nat.add_sub_of_le (Nat.le_trans (m := 7) (Nat.le_of_ble_eq_true rfl) hn')), rowK_G hk hb _ _ (Nat.le_of_eq (Nat.add_sub_of_le (Nat.le_trans (m := 7) (Nat.le_of_ble_eq_true rfl) hn'))), Nat.le_trans (Nat.sub_le _ _) hm⟩) ?_
  conv => whnf
  refine And.intro (by (conv => whnf); exact ⟨by decide, Int.le_trans (b := (7 : Int)) (by decide) (Int.ofNat_le.2 hn'), Int.le_refl _⟩) ?_
  conv => whnf
  refine And.intro (by
    (conv => whnf)
    refine ⟨Nat.le_sub_of_add_le (Nat.le_trans (m := 7) (Nat.le_of_ble_eq_true rfl) hn'), Nat.le_of_eq (Nat.add_sub_of_le (Nat.le_trans (m := 7) (Nat.le_of_ble_eq_true rfl) hn')), rowK_G hk hb _ _ (Nat.le_of_eq (Nat.add_sub_of_le (Nat.le_trans (m := 7) (Nat.le_of_ble_eq_true rfl) hn'))), Nat.le_trans (Nat.sub_le _ _) hm⟩) ?_
  conv => whnf
  refine And.intro (by (conv => whnf); exact ⟨by decide, Int.lt_of_lt_of_le (b := (7 : Int)) (by decide) (Int.ofNat_le.2 hn')⟩) ?_
  conv => whnf
  refine And.intro (by (conv => whnf); exact Nat.le_trans (m := 7) (Nat.le_of_ble_eq_true rfl) hn') ?_
  conv => whnf
  refine And.intro (by (conv => whnf); exact ⟨by decide, Int.lt_of_lt_of_le (b := (7 : Int)) (by decide) (Int.ofNat_le.2 hn')⟩) ?_
  conv => whnf
  refine And.intro (by (conv => whnf); exact Nat.le_trans (m := 7) (Nat.le_of_ble_eq_true rfl) hn') ?_
  conv => whnf
  have hnv : (0 : Int) = (rdE 8 g).n := rfl
  refine And.intro (by (conv => whnf); show EvT (refEv 8 g 0); rw [refEv_eq (by decide) (by decide) hk hn hb hnv]; exact rdE_T (k := 8) (by decide) (by decide) hn hb) ?_
  conv => whnf
  refine And.intro (fun h => ?_) (fun h => ?_)
  · have h : (!evOk (refEv 8 g 0)) = true := h
    rw [refEv_eq (by decide) (by decide) hk hn hb hnv, Bool.not_eq_true'] at h
    rw [h]
    conv => whnf
    rfl
  · have h : (!evOk (refEv 8 g 0)) = false := h
    rw [refEv_eq (by decide) (by decide) hk hn hb hnv, Bool.not_eq_false'] at h
    rw [h, ← refEv_eq (by decide) (by decide) hk hn hb hnv]
    conv => whnf
    rfl
theorem refReadL8_c (g : Nat → Int) (n : Nat) (hb : ∀ i, i < n → 0 ≤ g i ∧ g i < 256) (h1 : 1 ≤ n) (hn : n < many 8) (hm : n ≤ maxLen) (hk : g 0 = 8) (x : Value) (w : World) (hx : RowV w 1 n (rowB g) x) : Calls Tryd.prog 11 #[x] w fun e w' => e = .returned (noV 110) ∧ Below w.heap.size w w' := by
  have hn' : n < 7 := hn
  refine calls_row tabQ_ok Tryd.func11 rfl [] rfl Tryd.ntmps11 rfl _ (wpx_ok tabQ_ok (CI_ok tabQ_ok 8) _ ?_) w (rowK_V hk hx)
  conv => whnf
  refine And.intro (fun h => absurd (of_decide_eq_true h) (by omega)) (fun h => ?_)
  conv => whnf
  refine And.intro (by (conv => whnf); exact ⟨by decide, Int.ofNat_lt.2 h1⟩) ?_
  conv => whnf
  refine And.intro (by (conv => whnf); exact h1) ?_
  conv => whnf
  refine And.intro (fun h => ?_) (fun h => absurd (show ¬ (n : Int) < 7 from of_decide_eq_false h) (by omega))
  conv => whnf
  rfl

theorem refReadS9_c (g : Nat → Int) (n : Nat) (hb : ∀ i, i < n → 0 ≤ g i ∧ g i < 256) (hn : many 9 ≤ n) (hm : n ≤ maxLen) (hk : g 0 = 9) (x : Value) (w : World) (hx : RowV w 1 n (rowB g) x) : Calls Tryd.prog 11 #[x] w fun e w' => e = .returned (bif evOk (rdE 9 g) then yesV (rdE 9 g) (many 9) else noV 260) ∧ Below w.heap.size w w' := by
  have hn' : 7 ≤ n := hn
  refine calls_row tabQ_ok Tryd.func11 rfl [] rfl Tryd.ntmps11 rfl _ (wpx_ok tabQ_ok (CI_ok tabQ_ok 8) _ ?_) w (rowK_V hk hx)
  conv => whnf
  refine And.intro (fun h => absurd (of_decide_eq_true h) (by omega)) (fun h => ?_)
  conv => whnf
  refine And.intro (by (conv => whnf); exact ⟨by decide, Int.lt_of_lt_of_le (b := (7 : Int)) (by decide) (Int.ofNat_le.2 hn')⟩) ?_
  conv => whnf
  refine And.intro (by (conv => whnf); exact Nat.le_trans (m := 7) (Nat.le_of_ble_eq_true rfl) hn') ?_
  conv => whnf
  refine And.intro (fun h => absurd (show (n : Int) < 7 from of_decide_eq_true h) (by omega)) (fun h => ?_)
  conv => whnf
  refine And.intro (by (conv => whnf); exact ⟨by decide, Int.le_trans (b := (7 : Int)) (by decide) (Int.ofNat_le.2 hn'), Int.le_refl _⟩) ?_
  conv => whnf
  refine And.intro (by
    (conv => whnf)
    refine ⟨Nat.le_sub_of_add_le (Nat.le_trans (m := 7) (Nat.le_of_ble_eq_true rfl) hn'), Nat.le_of_eq (Nat.add_sub_of_le (Nat.le_trans (m := 7) (Nat.le_of_ble_eq_true rfl) hn')), rowK_G hk hb _ _ (Nat.le_of_eq (Nat.add_sub_of_le (Nat.le_trans (m := 7) (Nat.le_of_ble_eq_true rfl) hn'))), Nat.le_trans (Nat.sub_le _ _) hm⟩) ?_
  conv => whnf
  refine And.intro (by (conv => whnf); exact ⟨by decide, Int.le_trans (b := (7 : Int)) (by decide) (Int.ofNat_le.2 hn'), Int.le_refl _⟩) ?_
  conv => whnf
  refine And.intro (by
    (conv => whnf)
    refine ⟨Nat.le_sub_of_add_le (Nat.le_trans (m := 7) (Nat.le_of_ble_eq_true rfl) hn'), Nat.le_of_eq (Nat.add_sub_of_le (Nat.le_trans (m := 7) (Nat.le_of_ble_eq_true rfl) hn')), rowK_G hk hb _ _ (Nat.le_of_eq (Nat.add_sub_of_le (Nat.le_trans (m := 7) (Nat.le_of_ble_eq_true rfl) hn'))), Nat.le_trans (Nat.sub_le _ _) hm⟩) ?_
  conv => whnf
  refine And.intro (by (conv => whnf); exact ⟨by decide, Int.lt_of_lt_of_le (b := (7 : Int)) (by decide) (Int.ofNat_le.2 hn')⟩) ?_
  conv => whnf
  refine And.intro (by (conv => whnf); exact Nat.le_trans (m := 7) (Nat.le_of_ble_eq_true rfl) hn') ?_
  conv => whnf
  refine And.intro (by (conv => whnf); exact ⟨by decide, Int.lt_of_lt_of_le (b := (7 : Int)) (by decide) (Int.ofNat_le.2 hn')⟩) ?_
  conv => whnf
  refine And.intro (by (conv => whnf); exact Nat.le_trans (m := 7) (Nat.le_of_ble_eq_true rfl) hn') ?_
  conv => whnf
  have hnv : (0 : Int) = (rdE 9 g).n := rfl
  refine And.intro (by (conv => whnf); show EvT (refEv 9 g 0); rw [refEv_eq (by decide) (by decide) hk hn hb hnv]; exact rdE_T (k := 9) (by decide) (by decide) hn hb) ?_
  conv => whnf
  refine And.intro (fun h => ?_) (fun h => ?_)
  · have h : (!evOk (refEv 9 g 0)) = true := h
    rw [refEv_eq (by decide) (by decide) hk hn hb hnv, Bool.not_eq_true'] at h
    rw [h]
    conv => whnf
    rfl
  · have h : (!evOk (refEv 9 g 0)) = false := h
    rw [refEv_eq (by decide) (by decide) hk hn hb hnv, Bool.not_eq_false'] at h
    rw [h, ← refEv_eq (by decide) (by decide) hk hn hb hnv]
    conv => whnf
    rfl
theorem refReadL9_c (g : Nat → Int) (n : Nat) (hb : ∀ i, i < n → 0 ≤ g i ∧ g i < 256) (h1 : 1 ≤ n) (hn : n < many 9) (hm : n ≤ maxLen) (hk : g 0 = 9) (x : Value) (w : World) (hx : RowV w 1 n (rowB g) x) : Calls Tryd.prog 11 #[x] w fun e w' => e = .returned (noV 110) ∧ Below w.heap.size w w' := by
  have hn' : n < 7 := hn
  refine calls_row tabQ_ok Tryd.func11 rfl [] rfl Tryd.ntmps11 rfl _ (wpx_ok tabQ_ok (CI_ok tabQ_ok 8) _ ?_) w (rowK_V hk hx)
  conv => whnf
  refine And.intro (fun h => absurd (of_decide_eq_true h) (by omega)) (fun h => ?_)
  conv => whnf
  refine And.intro (by (conv => whnf); exact ⟨by decide, Int.ofNat_lt.2 h1⟩) ?_
  conv => whnf
  refine And.intro (by (conv => whnf); exact h1) ?_
  conv => whnf
  refine And.intro (fun h => ?_) (fun h => absurd (show ¬ (n : Int) < 7 from of_decide_eq_false h) (by omega))
  conv => whnf
  rfl

theorem refReadS10_c (g : Nat → Int) (n : Nat) (hb : ∀ i, i < n → 0 ≤ g i ∧ g i < 256) (hn : many 10 ≤ n) (hm : n ≤ maxLen) (hk : g 0 = 10) (x : Value) (w : World) (hx : RowV w 1 n (rowB g) x) : Calls Tryd.prog 11 #[x] w fun e w' => e = .returned (bif evOk (rdE 10 g) then yesV (rdE 10 g) (many 10) else noV 260) ∧ Below w.heap.size w w' := by
  have hn' : 7 ≤ n := hn
  refine calls_row tabQ_ok Tryd.func11 rfl [] rfl Tryd.ntmps11 rfl _ (wpx_ok tabQ_ok (CI_ok tabQ_ok 8) _ ?_) w (rowK_V hk hx)
  conv => whnf
  refine And.intro (fun h => absurd (of_decide_eq_true h) (by omega)) (fun h => ?_)
  conv => whnf
  refine And.intro (by (conv => whnf); exact ⟨by decide, Int.lt_of_lt_of_le (b := (7 : Int)) (by decide) (Int.ofNat_le.2 hn')⟩) ?_
  conv => whnf
  refine And.intro (by (conv => whnf); exact Nat.le_trans (m := 7) (Nat.le_of_ble_eq_true rfl) hn') ?_
  conv => whnf
  refine And.intro (fun h => absurd (show (n : Int) < 7 from of_decide_eq_true h) (by omega)) (fun h => ?_)
  conv => whnf
  refine And.intro (by (conv => whnf); exact ⟨by decide, Int.le_trans (b := (7 : Int)) (by decide) (Int.ofNat_le.2 hn'), Int.le_refl _⟩) ?_
  conv => whnf
  refine And.intro (by
    (conv => whnf)
    refine ⟨Nat.le_sub_of_add_le (Nat.le_trans (m := 7) (Nat.le_of_ble_eq_true rfl) hn'), Nat.le_of_eq (Nat.add_sub_of_le (Nat.le_trans (m := 7) (Nat.le_of_ble_eq_true rfl) hn')), rowK_G hk hb _ _ (Nat.le_of_eq (Nat.add_sub_of_le (Nat.le_trans (m := 7) (Nat.le_of_ble_eq_true rfl) hn'))), Nat.le_trans (Nat.sub_le _ _) hm⟩) ?_
  conv => whnf
  refine And.intro (by (conv => whnf); exact ⟨by decide, Int.le_trans (b := (7 : Int)) (by decide) (Int.ofNat_le.2 hn'), Int.le_refl _⟩) ?_
  conv => whnf
  refine And.intro (by
    (conv => whnf)
    refine ⟨Nat.le_sub_of_add_le (Nat.le_trans (m := 7) (Nat.le_of_ble_eq_true rfl) hn'), Nat.le_of_eq (Nat.add_sub_of_le (Nat.le_trans (m := 7) (Nat.le_of_ble_eq_true rfl) hn')), rowK_G hk hb _ _ (Nat.le_of_eq (Nat.add_sub_of_le (Nat.le_trans (m := 7) (Nat.le_of_ble_eq_true rfl) hn'))), Nat.le_trans (Nat.sub_le _ _) hm⟩) ?_
  conv => whnf
  refine And.intro (by (conv => whnf); exact ⟨by decide, Int.lt_of_lt_of_le (b := (7 : Int)) (by decide) (Int.ofNat_le.2 hn')⟩) ?_
  conv => whnf
  refine And.intro (by (conv => whnf); exact Nat.le_trans (m := 7) (Nat.le_of_ble_eq_true rfl) hn') ?_
  conv => whnf
  refine And.intro (by (conv => whnf); exact ⟨by decide, Int.lt_of_lt_of_le (b := (7 : Int)) (by decide) (Int.ofNat_le.2 hn')⟩) ?_
  conv => whnf
  refine And.intro (by (conv => whnf); exact Nat.le_trans (m := 7) (Nat.le_of_ble_eq_true rfl) hn') ?_
  conv => whnf
  have hnv : (0 : Int) = (rdE 10 g).n := rfl
  refine And.intro (by (conv => whnf); show EvT (refEv 10 g 0); rw [refEv_eq (by decide) (by decide) hk hn hb hnv]; exact rdE_T (k := 10) (by decide) (by decide) hn hb) ?_
  conv => whnf
  refine And.intro (fun h => ?_) (fun h => ?_)
  · have h : (!evOk (refEv 10 g 0)) = true := h
    rw [refEv_eq (by decide) (by decide) hk hn hb hnv, Bool.not_eq_true'] at h
    rw [h]
    conv => whnf
    rfl
  · have h : (!evOk (refEv 10 g 0)) = false := h
    rw [refEv_eq (by decide) (by decide) hk hn hb hnv, Bool.not_eq_false'] at h
    rw [h, ← refEv_eq (by decide) (by decide) hk hn hb hnv]
    conv => whnf
    rfl
theorem refReadL10_c (g : Nat → Int) (n : Nat) (hb : ∀ i, i < n → 0 ≤ g i ∧ g i < 256) (h1 : 1 ≤ n) (hn : n < many 10) (hm : n ≤ maxLen) (hk : g 0 = 10) (x : Value) (w : World) (hx : RowV w 1 n (rowB g) x) : Calls Tryd.prog 11 #[x] w fun e w' => e = .returned (noV 110) ∧ Below w.heap.size w w' := by
  have hn' : n < 7 := hn
  refine calls_row tabQ_ok Tryd.func11 rfl [] rfl Tryd.ntmps11 rfl _ (wpx_ok tabQ_ok (CI_ok tabQ_ok 8) _ ?_) w (rowK_V hk hx)
  conv => whnf
  refine And.intro (fun h => absurd (of_decide_eq_true h) (by omega)) (fun h => ?_)
  conv => whnf
  refine And.intro (by (conv => whnf); exact ⟨by decide, Int.ofNat_lt.2 h1⟩) ?_
  conv => whnf
  refine And.intro (by (conv => whnf); exact h1) ?_
  conv => whnf
  refine And.intro (fun h => ?_) (fun h => absurd (show ¬ (n : Int) < 7 from of_decide_eq_false h) (by omega))
  conv => whnf
  rfl

theorem refReadS11_c (g : Nat → Int) (n : Nat) (hb : ∀ i, i < n → 0 ≤ g i ∧ g i < 256) (hn : many 11 ≤ n) (hm : n ≤ maxLen) (hk : g 0 = 11) (x : Value) (w : World) (hx : RowV w 1 n (rowB g) x) : Calls Tryd.prog 11 #[x] w fun e w' => e = .returned (bif evOk (rdE 11 g) then yesV (rdE 11 g) (many 11) else noV 260) ∧ Below w.heap.size w w' := by
  have hn' : 11 ≤ n := hn
  refine calls_row tabQ_ok Tryd.func11 rfl [] rfl Tryd.ntmps11 rfl _ (wpx_ok tabQ_ok (CI_ok tabQ_ok 8) _ ?_) w (rowK_V hk hx)
  conv => whnf
  refine And.intro (fun h => absurd (of_decide_eq_true h) (by omega)) (fun h => ?_)
  conv => whnf
  refine And.intro (by (conv => whnf); exact ⟨by decide, Int.lt_of_lt_of_le (b := (11 : Int)) (by decide) (Int.ofNat_le.2 hn')⟩) ?_
  conv => whnf
  refine And.intro (by (conv => whnf); exact Nat.le_trans (m := 11) (Nat.le_of_ble_eq_true rfl) hn') ?_
  conv => whnf
  refine And.intro (fun h => absurd (show (n : Int) < 11 from of_decide_eq_true h) (by omega)) (fun h => ?_)
  conv => whnf
  refine And.intro (by (conv => whnf); exact ⟨by decide, Int.le_trans (b := (11 : Int)) (by decide) (Int.ofNat_le.2 hn'), Int.le_refl _⟩) ?_
  conv => whnf
  refine And.intro (by
    (conv => whnf)
    refine ⟨Nat.le_sub_of_add_le (Nat.le_trans (m := 11) (Nat.le_of_ble_eq_true rfl) hn'), Nat.le_of_eq (Nat.add_sub_of_le (Nat.le_trans (m := 11) (Nat.le_of_ble_eq_true rfl) hn')), rowK_G hk hb _ _ (Nat.le_of_eq (Nat.add_sub_of_le (Nat.le_trans (m := 11) (Nat.le_of_ble_eq_true rfl) hn'))), Nat.le_trans (Nat.sub_le _ _) hm⟩) ?_
  conv => whnf
  refine And.intro (by (conv => whnf); exact ⟨by decide, Int.le_trans (b := (11 : Int)) (by decide) (Int.ofNat_le.2 hn'), Int.le_refl _⟩) ?_
  conv => whnf
  refine And.intro (by
    (conv => whnf)
    refine ⟨Nat.le_sub_of_add_le (Nat.le_trans (m := 11) (Nat.le_of_ble_eq_true rfl) hn'), Nat.le_of_eq (Nat.add_sub_of_le (Nat.le_trans (m := 11) (Nat.le_of_ble_eq_true rfl) hn')), rowK_G hk hb _ _ (Nat.le_of_eq (Nat.add_sub_of_le (Nat.le_trans (m := 11) (Nat.le_of_ble_eq_true rfl) hn'))), Nat.le_trans (Nat.sub_le _ _) hm⟩) ?_
  conv => whnf
  refine And.intro (by (conv => whnf); exact ⟨by decide, Int.lt_of_lt_of_le (b := (11 : Int)) (by decide) (Int.ofNat_le.2 hn')⟩) ?_
  conv => whnf
  refine And.intro (by (conv => whnf); exact Nat.le_trans (m := 11) (Nat.le_of_ble_eq_true rfl) hn') ?_
  conv => whnf
  refine And.intro (by (conv => whnf); exact ⟨by decide, Int.lt_of_lt_of_le (b := (11 : Int)) (by decide) (Int.ofNat_le.2 hn')⟩) ?_
  conv => whnf
  refine And.intro (by (conv => whnf); exact Nat.le_trans (m := 11) (Nat.le_of_ble_eq_true rfl) hn') ?_
  conv => whnf
  refine And.intro (by (conv => whnf); exact ⟨by decide, Int.le_trans (b := (11 : Int)) (by decide) (Int.ofNat_le.2 hn'), Int.le_refl _⟩) ?_
  conv => whnf
  refine And.intro (by
    (conv => whnf)
    refine ⟨Nat.le_sub_of_add_le (Nat.le_trans (m := 11) (Nat.le_of_ble_eq_true rfl) hn'), Nat.le_of_eq (Nat.add_sub_of_le (Nat.le_trans (m := 11) (Nat.le_of_ble_eq_true rfl) hn')), rowK_G hk hb _ _ (Nat.le_of_eq (Nat.add_sub_of_le (Nat.le_trans (m := 11) (Nat.le_of_ble_eq_true rfl) hn'))), Nat.le_trans (Nat.sub_le _ _) hm⟩) ?_
  conv => whnf
  have b7 := hb 7 (by omega); have b8 := hb 8 (by omega); have b9 := hb 9 (by omega); have b10 := hb 10 (by omega)
  have hv : leN (gI fun i => rowK 11 g (7 + i)) 4 = g 7 + g 8 * 256 + g 9 * 65536 + g 10 * 16777216 := by rw [rowK_gI hk, le4]
  have hu : (rdE 11 g).n = IntKind.i64.wrap (IntKind.i32.wrap (IntKind.u32.wrap (g 7 + g 8 * 256 + g 9 * 65536 + g 10 * 16777216))) := by
    show IntKind.i64.wrap (IntKind.i32.wrap (IntKind.u32.wrap (leN (fun i => g (7 + i)) 4))) = _
    rw [le4]
  refine And.intro (fun h => ?_) (fun h => ?_)
  · have h : (2147483647 : Int) < IntKind.i64.wrap (leN (gI fun i => rowK 11 g (7 + i)) 4) := of_decide_eq_true h
    have hnv : IntKind.i64.wrap (IntKind.i64.wrap (leN (gI fun i => rowK 11 g (7 + i)) 4) - 4294967296) = (rdE 11 g).n := by
      rw [hv] at h ⊢
      rw [hu]
      simp only [IntKind.wrap_i64, IntKind.wrap_i32, IntKind.wrap_u32] at h ⊢
      omega
    conv => whnf
    refine And.intro (by (conv => whnf); show EvT (refEv 11 g (IntKind.i64.wrap (IntKind.i64.wrap (leN (gI fun i => rowK 11 g (7 + i)) 4) - 4294967296))); rw [refEv_eq (by decide) (by decide) hk hn hb hnv]; exact rdE_T (k := 11) (by decide) (by decide) hn hb) ?_
    conv => whnf
    refine And.intro (fun h => ?_) (fun h => ?_)
    · have h : (!evOk (refEv 11 g (IntKind.i64.wrap (IntKind.i64.wrap (leN (gI fun i => rowK 11 g (7 + i)) 4) - 4294967296)))) = true := h
      rw [refEv_eq (by decide) (by decide) hk hn hb hnv, Bool.not_eq_true'] at h
      rw [h]
      conv => whnf
      rfl
    · have h : (!evOk (refEv 11 g (IntKind.i64.wrap (IntKind.i64.wrap (leN (gI fun i => rowK 11 g (7 + i)) 4) - 4294967296)))) = false := h
      rw [refEv_eq (by decide) (by decide) hk hn hb hnv, Bool.not_eq_false'] at h
      rw [h, ← refEv_eq (by decide) (by decide) hk hn hb hnv]
      conv => whnf
      rfl
  · have h : ¬ (2147483647 : Int) < IntKind.i64.wrap (leN (gI fun i => rowK 11 g (7 + i)) 4) := of_decide_eq_false h
    have hnv : IntKind.i64.wrap (leN (gI fun i => rowK 11 g (7 + i)) 4) = (rdE 11 g).n := by
      rw [hv] at h ⊢
      rw [hu]
      simp only [IntKind.wrap_i64, IntKind.wrap_i32, IntKind.wrap_u32] at h ⊢
      omega
    conv => whnf
    refine And.intro (by (conv => whnf); show EvT (refEv 11 g (IntKind.i64.wrap (leN (gI fun i => rowK 11 g (7 + i)) 4))); rw [refEv_eq (by decide) (by decide) hk hn hb hnv]; exact rdE_T (k := 11) (by decide) (by decide) hn hb) ?_
    conv => whnf
    refine And.intro (fun h => ?_) (fun h => ?_)
    · have h : (!evOk (refEv 11 g (IntKind.i64.wrap (leN (gI fun i => rowK 11 g (7 + i)) 4)))) = true := h
      rw [refEv_eq (by decide) (by decide) hk hn hb hnv, Bool.not_eq_true'] at h
      rw [h]
      conv => whnf
      rfl
    · have h : (!evOk (refEv 11 g (IntKind.i64.wrap (leN (gI fun i => rowK 11 g (7 + i)) 4)))) = false := h
      rw [refEv_eq (by decide) (by decide) hk hn hb hnv, Bool.not_eq_false'] at h
      rw [h, ← refEv_eq (by decide) (by decide) hk hn hb hnv]
      conv => whnf
      rfl
theorem refReadL11_c (g : Nat → Int) (n : Nat) (hb : ∀ i, i < n → 0 ≤ g i ∧ g i < 256) (h1 : 1 ≤ n) (hn : n < many 11) (hm : n ≤ maxLen) (hk : g 0 = 11) (x : Value) (w : World) (hx : RowV w 1 n (rowB g) x) : Calls Tryd.prog 11 #[x] w fun e w' => e = .returned (noV 110) ∧ Below w.heap.size w w' := by
  have hn' : n < 11 := hn
  refine calls_row tabQ_ok Tryd.func11 rfl [] rfl Tryd.ntmps11 rfl _ (wpx_ok tabQ_ok (CI_ok tabQ_ok 8) _ ?_) w (rowK_V hk hx)
  conv => whnf
  refine And.intro (fun h => absurd (of_decide_eq_true h) (by omega)) (fun h => ?_)
  conv => whnf
  refine And.intro (by (conv => whnf); exact ⟨by decide, Int.ofNat_lt.2 h1⟩) ?_
  conv => whnf
  refine And.intro (by (conv => whnf); exact h1) ?_
  conv => whnf
  refine And.intro (fun h => ?_) (fun h => absurd (show ¬ (n : Int) < 11 from of_decide_eq_false h) (by omega))
  conv => whnf
  rfl

theorem refReadS12_c (g : Nat → Int) (n : Nat) (hb : ∀ i, i < n → 0 ≤ g i ∧ g i < 256) (hn : many 12 ≤ n) (hm : n ≤ maxLen) (hk : g 0 = 12) (x : Value) (w : World) (hx : RowV w 1 n (rowB g) x) : Calls Tryd.prog 11 #[x] w fun e w' => e = .returned (bif evOk (rdE 12 g) then yesV (rdE 12 g) (many 12) else noV 260) ∧ Below w.heap.size w w' := by
  have hn' : 7 ≤ n := hn
  refine calls_row tabQ_ok Tryd.func11 rfl [] rfl Tryd.ntmps11 rfl _ (wpx_ok tabQ_ok (CI_ok tabQ_ok 8) _ ?_) w (rowK_V hk hx)
  conv => whnf
  refine And.intro (fun h => absurd (of_decide_eq_true h) (by omega)) (fun h => ?_)
  conv => whnf
  refine And.intro (by (conv => whnf); exact ⟨by decide, Int.lt_of_lt_of_le (b := (7 : Int)) (by decide) (Int.ofNat_le.2 hn')⟩) ?_
  conv => whnf
  refine And.intro (by (conv => whnf); exact Nat.le_trans (m := 7) (Nat.le_of_ble_eq_true rfl) hn') ?_
  conv => whnf
  refine And.intro (fun h => absurd (show (n : Int) < 7 from of_decide_eq_true h) (by omega)) (fun h => ?_)
  conv => whnf
  refine And.intro (by (conv => whnf); exact ⟨by decide, Int.le_trans (b := (7 : Int)) (by decide) (Int.ofNat_le.2 hn'), Int.le_refl _⟩) ?_
  conv => whnf
  refine And.intro (by
    (conv => whnf)
    refine ⟨Nat.le_sub_of_add_le (Nat.le_trans (m := 7) (Nat.le_of_ble_eq_true rfl) hn'), Nat.le_of_eq (Nat.add_sub_of_le (Nat.le_trans (m := 7) (Nat.le_of_ble_eq_true rfl) hn')), rowK_G hk hb _ _ (Nat.le_of_eq (Nat.add_sub_of_le (Nat.le_trans (m := 7) (Nat.le_of_ble_eq_true rfl) hn'))), Nat.le_trans (Nat.sub_le _ _) hm⟩) ?_
  conv => whnf
  refine And.intro (by (conv => whnf); exact ⟨by decide, Int.le_trans (b := (7 : Int)) (by decide) (Int.ofNat_le.2 hn'), Int.le_refl _⟩) ?_
  conv => whnf
  refine And.intro (by
    (conv => whnf)
    refine ⟨Nat.le_sub_of_add_le (Nat.le_trans (m := 7) (Nat.le_of_ble_eq_true rfl) hn'), Nat.le_of_eq (Nat.add_sub_of_le (Nat.le_trans (m := 7) (Nat.le_of_ble_eq_true rfl) hn')), rowK_G hk hb _ _ (Nat.le_of_eq (Nat.add_sub_of_le (Nat.le_trans (m := 7) (Nat.le_of_ble_eq_true rfl) hn'))), Nat.le_trans (Nat.sub_le _ _) hm⟩) ?_
  conv => whnf
  refine And.intro (by (conv => whnf); exact ⟨by decide, Int.lt_of_lt_of_le (b := (7 : Int)) (by decide) (Int.ofNat_le.2 hn')⟩) ?_
  conv => whnf
  refine And.intro (by (conv => whnf); exact Nat.le_trans (m := 7) (Nat.le_of_ble_eq_true rfl) hn') ?_
  conv => whnf
  refine And.intro (by (conv => whnf); exact ⟨by decide, Int.lt_of_lt_of_le (b := (7 : Int)) (by decide) (Int.ofNat_le.2 hn')⟩) ?_
  conv => whnf
  refine And.intro (by (conv => whnf); exact Nat.le_trans (m := 7) (Nat.le_of_ble_eq_true rfl) hn') ?_
  conv => whnf
  have hnv : (0 : Int) = (rdE 12 g).n := rfl
  refine And.intro (by (conv => whnf); show EvT (refEv 12 g 0); rw [refEv_eq (by decide) (by decide) hk hn hb hnv]; exact rdE_T (k := 12) (by decide) (by decide) hn hb) ?_
  conv => whnf
  refine And.intro (fun h => ?_) (fun h => ?_)
  · have h : (!evOk (refEv 12 g 0)) = true := h
    rw [refEv_eq (by decide) (by decide) hk hn hb hnv, Bool.not_eq_true'] at h
    rw [h]
    conv => whnf
    rfl
  · have h : (!evOk (refEv 12 g 0)) = false := h
    rw [refEv_eq (by decide) (by decide) hk hn hb hnv, Bool.not_eq_false'] at h
    rw [h, ← refEv_eq (by decide) (by decide) hk hn hb hnv]
    conv => whnf
    rfl
theorem refReadL12_c (g : Nat → Int) (n : Nat) (hb : ∀ i, i < n → 0 ≤ g i ∧ g i < 256) (h1 : 1 ≤ n) (hn : n < many 12) (hm : n ≤ maxLen) (hk : g 0 = 12) (x : Value) (w : World) (hx : RowV w 1 n (rowB g) x) : Calls Tryd.prog 11 #[x] w fun e w' => e = .returned (noV 110) ∧ Below w.heap.size w w' := by
  have hn' : n < 7 := hn
  refine calls_row tabQ_ok Tryd.func11 rfl [] rfl Tryd.ntmps11 rfl _ (wpx_ok tabQ_ok (CI_ok tabQ_ok 8) _ ?_) w (rowK_V hk hx)
  conv => whnf
  refine And.intro (fun h => absurd (of_decide_eq_true h) (by omega)) (fun h => ?_)
  conv => whnf
  refine And.intro (by (conv => whnf); exact ⟨by decide, Int.ofNat_lt.2 h1⟩) ?_
  conv => whnf
  refine And.intro (by (conv => whnf); exact h1) ?_
  conv => whnf
  refine And.intro (fun h => ?_) (fun h => absurd (show ¬ (n : Int) < 7 from of_decide_eq_false h) (by omega))
  conv => whnf
  rfl

theorem refReadS13_c (g : Nat → Int) (n : Nat) (hb : ∀ i, i < n → 0 ≤ g i ∧ g i < 256) (hn : many 13 ≤ n) (hm : n ≤ maxLen) (hk : g 0 = 13) (x : Value) (w : World) (hx : RowV w 1 n (rowB g) x) : Calls Tryd.prog 11 #[x] w fun e w' => e = .returned (bif evOk (rdE 13 g) then yesV (rdE 13 g) (many 13) else noV 260) ∧ Below w.heap.size w w' := by
  have hn' : 6 ≤ n := hn
  refine calls_row tabQ_ok Tryd.func11 rfl [] rfl Tryd.ntmps11 rfl _ (wpx_ok tabQ_ok (CI_ok tabQ_ok 8) _ ?_) w (rowK_V hk hx)
  conv => whnf
  refine And.intro (fun h => absurd (of_decide_eq_true h) (by omega)) (fun h => ?_)
  conv => whnf
  refine And.intro (by (conv => whnf); exact ⟨by decide, Int.lt_of_lt_of_le (b := (6 : Int)) (by decide) (Int.ofNat_le.2 hn')⟩) ?_
  conv => whnf
  refine And.intro (by (conv => whnf); exact Nat.le_trans (m := 6) (Nat.le_of_ble_eq_true rfl) hn') ?_
  conv => whnf
  refine And.intro (fun h => absurd (show (n : Int) < 6 from of_decide_eq_true h) (by omega)) (fun h => ?_)
  conv => whnf
  refine And.intro (by (conv => whnf); exact ⟨by decide, Int.le_trans (b := (6 : Int)) (by decide) (Int.ofNat_le.2 hn'), Int.le_refl _⟩) ?_
  conv => whnf
  refine And.intro (by
    (conv => whnf)
    refine ⟨Nat.le_sub_of_add_le (Nat.le_trans (m := 6) (Nat.le_of_ble_eq_true rfl) hn'), Nat.le_of_eq (Nat.add_sub_of_le (Nat.le_trans (m := 6) (Nat.le_of_ble_eq_true rfl) hn')), rowK_G hk hb _ _ (Nat.le_of_eq (Nat.add_sub_of_le (Nat.le_trans (m := 6) (Nat.le_of_ble_eq_true rfl) hn'))), Nat.le_trans (Nat.sub_le _ _) hm⟩) ?_
  conv => whnf
  refine And.intro (by (conv => whnf); exact ⟨by decide, Int.le_trans (b := (6 : Int)) (by decide) (Int.ofNat_le.2 hn'), Int.le_refl _⟩) ?_
  conv => whnf
  refine And.intro (by
    (conv => whnf)
    refine ⟨Nat.le_sub_of_add_le (Nat.le_trans (m := 6) (Nat.le_of_ble_eq_true rfl) hn'), Nat.le_of_eq (Nat.add_sub_of_le (Nat.le_trans (m := 6) (Nat.le_of_ble_eq_true rfl) hn')), rowK_G hk hb _ _ (Nat.le_of_eq (Nat.add_sub_of_le (Nat.le_trans (m := 6) (Nat.le_of_ble_eq_true rfl) hn'))), Nat.le_trans (Nat.sub_le _ _) hm⟩) ?_
  conv => whnf
  refine And.intro (by (conv => whnf); exact ⟨by decide, Int.lt_of_lt_of_le (b := (6 : Int)) (by decide) (Int.ofNat_le.2 hn')⟩) ?_
  conv => whnf
  refine And.intro (by (conv => whnf); exact Nat.le_trans (m := 6) (Nat.le_of_ble_eq_true rfl) hn') ?_
  conv => whnf
  have hnv : (0 : Int) = (rdE 13 g).n := rfl
  refine And.intro (by (conv => whnf); show EvT (refEv 13 g 0); rw [refEv_eq (by decide) (by decide) hk hn hb hnv]; exact rdE_T (k := 13) (by decide) (by decide) hn hb) ?_
  conv => whnf
  refine And.intro (fun h => ?_) (fun h => ?_)
  · have h : (!evOk (refEv 13 g 0)) = true := h
    rw [refEv_eq (by decide) (by decide) hk hn hb hnv, Bool.not_eq_true'] at h
    rw [h]
    conv => whnf
    rfl
  · have h : (!evOk (refEv 13 g 0)) = false := h
    rw [refEv_eq (by decide) (by decide) hk hn hb hnv, Bool.not_eq_false'] at h
    rw [h, ← refEv_eq (by decide) (by decide) hk hn hb hnv]
    conv => whnf
    rfl
theorem refReadL13_c (g : Nat → Int) (n : Nat) (hb : ∀ i, i < n → 0 ≤ g i ∧ g i < 256) (h1 : 1 ≤ n) (hn : n < many 13) (hm : n ≤ maxLen) (hk : g 0 = 13) (x : Value) (w : World) (hx : RowV w 1 n (rowB g) x) : Calls Tryd.prog 11 #[x] w fun e w' => e = .returned (noV 110) ∧ Below w.heap.size w w' := by
  have hn' : n < 6 := hn
  refine calls_row tabQ_ok Tryd.func11 rfl [] rfl Tryd.ntmps11 rfl _ (wpx_ok tabQ_ok (CI_ok tabQ_ok 8) _ ?_) w (rowK_V hk hx)
  conv => whnf
  refine And.intro (fun h => absurd (of_decide_eq_true h) (by omega)) (fun h => ?_)
  conv => whnf
  refine And.intro (by (conv => whnf); exact ⟨by decide, Int.ofNat_lt.2 h1⟩) ?_
  conv => whnf
  refine And.intro (by (conv => whnf); exact h1) ?_
  conv => whnf
  refine And.intro (fun h => ?_) (fun h => absurd (show ¬ (n : Int) < 6 from of_decide_eq_false h) (by omega))
  conv => whnf
  rfl

theorem refReadS14_c (g : Nat → Int) (n : Nat) (hb : ∀ i, i < n → 0 ≤ g i ∧ g i < 256) (hn : many 14 ≤ n) (hm : n ≤ maxLen) (hk : g 0 = 14) (x : Value) (w : World) (hx : RowV w 1 n (rowB g) x) : Calls Tryd.prog 11 #[x] w fun e w' => e = .returned (bif evOk (rdE 14 g) then yesV (rdE 14 g) (many 14) else noV 260) ∧ Below w.heap.size w w' := by
  have hn' : 7 ≤ n := hn
  refine calls_row tabQ_ok Tryd.func11 rfl [] rfl Tryd.ntmps11 rfl _ (wpx_ok tabQ_ok (CI_ok tabQ_ok 8) _ ?_) w (rowK_V hk hx)
  conv => whnf
  refine And.intro (fun h => absurd (of_decide_eq_true h) (by omega)) (fun h => ?_)
  conv => whnf
  refine And.intro (by (conv => whnf); exact ⟨by decide, Int.lt_of_lt_of_le (b := (7 : Int)) (by decide) (Int.ofNat_le.2 hn')⟩) ?_
  conv => whnf
  refine And.intro (by (conv => whnf); exact Nat.le_trans (m := 7) (Nat.le_of_ble_eq_true rfl) hn') ?_
  conv => whnf
  refine And.intro (fun h => absurd (show (n : Int) < 7 from of_decide_eq_true h) (by omega)) (fun h => ?_)
  conv => whnf
  refine And.intro (by (conv => whnf); exact ⟨by decide, Int.le_trans (b := (7 : Int)) (by decide) (Int.ofNat_le.2 hn'), Int.le_refl _⟩) ?_
  conv => whnf
  refine And.intro (by
    (conv => whnf)
    refine ⟨Nat.le_sub_of_add_le (Nat.le_trans (m := 7) (Nat.le_of_ble_eq_true rfl) hn'), Nat.le_of_eq (Nat.add_sub_of_le (Nat.le_trans (m := 7) (Nat.le_of_ble_eq_true rfl) hn')), rowK_G hk hb _ _ (Nat.le_of_eq (Nat.add_sub_of_le (Nat.le_trans (m := 7) (Nat.le_of_ble_eq_true rfl) hn'))), Nat.le_trans (Nat.sub_le _ _) hm⟩) ?_
  conv => whnf
  refine And.intro (by (conv => whnf); exact ⟨by decide, Int.le_trans (b := (7 : Int)) (by decide) (Int.ofNat_le.2 hn'), Int.le_refl _⟩) ?_
  conv => whnf
  refine And.intro (by
    (conv => whnf)
    refine ⟨Nat.le_sub_of_add_le (Nat.le_trans (m := 7) (Nat.le_of_ble_eq_true rfl) hn'), Nat.le_of_eq (Nat.add_sub_of_le (Nat.le_trans (m := 7) (Nat.le_of_ble_eq_true rfl) hn')), rowK_G hk hb _ _ (Nat.le_of_eq (Nat.add_sub_of_le (Nat.le_trans (m := 7) (Nat.le_of_ble_eq_true rfl) hn'))), Nat.le_trans (Nat.sub_le _ _) hm⟩) ?_
  conv => whnf
  refine And.intro (by (conv => whnf); exact ⟨by decide, Int.lt_of_lt_of_le (b := (7 : Int)) (by decide) (Int.ofNat_le.2 hn')⟩) ?_
  conv => whnf
  refine And.intro (by (conv => whnf); exact Nat.le_trans (m := 7) (Nat.le_of_ble_eq_true rfl) hn') ?_
  conv => whnf
  refine And.intro (by (conv => whnf); exact ⟨by decide, Int.lt_of_lt_of_le (b := (7 : Int)) (by decide) (Int.ofNat_le.2 hn')⟩) ?_
  conv => whnf
  refine And.intro (by (conv => whnf); exact Nat.le_trans (m := 7) (Nat.le_of_ble_eq_true rfl) hn') ?_
  conv => whnf
  have hnv : (0 : Int) = (rdE 14 g).n := rfl
  refine And.intro (by (conv => whnf); show EvT (refEv 14 g 0); rw [refEv_eq (by decide) (by decide) hk hn hb hnv]; exact rdE_T (k := 14) (by decide) (by decide) hn hb) ?_
  conv => whnf
  refine And.intro (fun h => ?_) (fun h => ?_)
  · have h : (!evOk (refEv 14 g 0)) = true := h
    rw [refEv_eq (by decide) (by decide) hk hn hb hnv, Bool.not_eq_true'] at h
    rw [h]
    conv => whnf
    rfl
  · have h : (!evOk (refEv 14 g 0)) = false := h
    rw [refEv_eq (by decide) (by decide) hk hn hb hnv, Bool.not_eq_false'] at h
    rw [h, ← refEv_eq (by decide) (by decide) hk hn hb hnv]
    conv => whnf
    rfl
theorem refReadL14_c (g : Nat → Int) (n : Nat) (hb : ∀ i, i < n → 0 ≤ g i ∧ g i < 256) (h1 : 1 ≤ n) (hn : n < many 14) (hm : n ≤ maxLen) (hk : g 0 = 14) (x : Value) (w : World) (hx : RowV w 1 n (rowB g) x) : Calls Tryd.prog 11 #[x] w fun e w' => e = .returned (noV 110) ∧ Below w.heap.size w w' := by
  have hn' : n < 7 := hn
  refine calls_row tabQ_ok Tryd.func11 rfl [] rfl Tryd.ntmps11 rfl _ (wpx_ok tabQ_ok (CI_ok tabQ_ok 8) _ ?_) w (rowK_V hk hx)
  conv => whnf
  refine And.intro (fun h => absurd (of_decide_eq_true h) (by omega)) (fun h => ?_)
  conv => whnf
  refine And.intro (by (conv => whnf); exact ⟨by decide, Int.ofNat_lt.2 h1⟩) ?_
  conv => whnf
  refine And.intro (by (conv => whnf); exact h1) ?_
  conv => whnf
  refine And.intro (fun h => ?_) (fun h => absurd (show ¬ (n : Int) < 7 from of_decide_eq_false h) (by omega))
  conv => whnf
  rfl
end Go.Proofs.YtiibmnoikgfcbaaDoor
