/- The reference's numbers out of bytes (functions 36, 35). The bytes are bytes. -/
import Derived.Test.YtiibmnoikgfcbaaDoorQ1
namespace Go.Proofs.YtiibmnoikgfcbaaDoor
open Go Go.Sx Go.RowKit
set_option maxRecDepth 100000
set_option maxHeartbeats 1000000
set_option linter.unusedVariables false
set_option linter.unusedSimpArgs false

theorem horner2 {g : Nat → Int} (h : ∀ i, i < 2 → 0 ≤ g i ∧ g i < 256) : IntKind.u64.wrap (IntKind.u64.wrap (256 * IntKind.u64.wrap (IntKind.u64.wrap (256 * (0 : Int)) + IntKind.u64.wrap (g 1))) + IntKind.u64.wrap (g 0)) = leN g 2 := by
  have hw : ∀ y : Int, 0 ≤ y → y < 18446744073709551616 → IntKind.u64.wrap y = y := fun y h1 h2 => by rw [IntKind.wrap_u64]; omega
  have h0 := h 0 (by decide)
  have h1 := h 1 (by decide)
  rw [le2]
  simp only [IntKind.wrap_u64]
  omega
theorem refRead2_c (g : Nat → Int) (m : Nat) (hb : ∀ i, i < m → 0 ≤ g i ∧ g i < 256) (hw : 2 ≤ m) (x : Value) (w : World) (hx : RowV w 1 m (rowB g) x) : Calls Tryd.prog 36 #[x, .int .i64 2] w fun e w' => e = .returned (.tuple #[.int .u64 (leN g 2), .int .i64 0]) ∧ Below w.heap.size w w' := by
  refine calls_row tabF_ok Tryd.func36 rfl [.n .i64 2] rfl Tryd.ntmps36 rfl _ (wpx_ok tabF_ok (CI_ok tabF_ok 8) _ ?_) w hx
  conv => whnf
  refine And.intro (fun h => ?_) (fun h => ?_)
  · have hm : (m : Int) < 2 := of_decide_eq_true h
    omega
  conv => whnf
  refine And.intro (by (conv => whnf); exact ⟨by decide, Int.lt_of_lt_of_le (b := (2 : Int)) (by decide) (Int.ofNat_le.2 hw)⟩) ?_
  conv => whnf
  refine And.intro (by (conv => whnf); exact Nat.le_trans (m := 2) (Nat.le_of_ble_eq_true rfl) hw) ?_
  conv => whnf
  refine And.intro (by (conv => whnf); exact ⟨by decide, Int.lt_of_lt_of_le (b := (2 : Int)) (by decide) (Int.ofNat_le.2 hw)⟩) ?_
  conv => whnf
  refine And.intro (by (conv => whnf); exact Nat.le_trans (m := 2) (Nat.le_of_ble_eq_true rfl) hw) ?_
  conv => whnf
  exact congrArg (fun z => some (Value.tuple #[.int .u64 z, .int .i64 0])) (horner2 fun i hi => hb i (by omega))

theorem horner4 {g : Nat → Int} (h : ∀ i, i < 4 → 0 ≤ g i ∧ g i < 256) : IntKind.u64.wrap (IntKind.u64.wrap (256 * IntKind.u64.wrap (IntKind.u64.wrap (256 * IntKind.u64.wrap (IntKind.u64.wrap (256 * IntKind.u64.wrap (IntKind.u64.wrap (256 * (0 : Int)) + IntKind.u64.wrap (g 3))) + IntKind.u64.wrap (g 2))) + IntKind.u64.wrap (g 1))) + IntKind.u64.wrap (g 0)) = leN g 4 := by
  have hw : ∀ y : Int, 0 ≤ y → y < 18446744073709551616 → IntKind.u64.wrap y = y := fun y h1 h2 => by rw [IntKind.wrap_u64]; omega
  have h0 := h 0 (by decide)
  have h1 := h 1 (by decide)
  have h2 := h 2 (by decide)
  have h3 := h 3 (by decide)
  rw [le4]
  simp only [IntKind.wrap_u64]
  omega
theorem refRead4_c (g : Nat → Int) (m : Nat) (hb : ∀ i, i < m → 0 ≤ g i ∧ g i < 256) (hw : 4 ≤ m) (x : Value) (w : World) (hx : RowV w 1 m (rowB g) x) : Calls Tryd.prog 36 #[x, .int .i64 4] w fun e w' => e = .returned (.tuple #[.int .u64 (leN g 4), .int .i64 0]) ∧ Below w.heap.size w w' := by
  refine calls_row tabF_ok Tryd.func36 rfl [.n .i64 4] rfl Tryd.ntmps36 rfl _ (wpx_ok tabF_ok (CI_ok tabF_ok 8) _ ?_) w hx
  conv => whnf
  refine And.intro (fun h => ?_) (fun h => ?_)
  · have hm : (m : Int) < 4 := of_decide_eq_true h
    omega
  conv => whnf
  refine And.intro (by (conv => whnf); exact ⟨by decide, Int.lt_of_lt_of_le (b := (4 : Int)) (by decide) (Int.ofNat_le.2 hw)⟩) ?_
  conv => whnf
  refine And.intro (by (conv => whnf); exact Nat.le_trans (m := 4) (Nat.le_of_ble_eq_true rfl) hw) ?_
  conv => whnf
  refine And.intro (by (conv => whnf); exact ⟨by decide, Int.lt_of_lt_of_le (b := (4 : Int)) (by decide) (Int.ofNat_le.2 hw)⟩) ?_
  conv => whnf
  refine And.intro (by (conv => whnf); exact Nat.le_trans (m := 4) (Nat.le_of_ble_eq_true rfl) hw) ?_
  conv => whnf
  refine And.intro (by (conv => whnf); exact ⟨by decide, Int.lt_of_lt_of_le (b := (4 : Int)) (by decide) (Int.ofNat_le.2 hw)⟩) ?_
  conv => whnf
  refine And.intro (by (conv => whnf); exact Nat.le_trans (m := 4) (Nat.le_of_ble_eq_true rfl) hw) ?_
  conv => whnf
  refine And.intro (by (conv => whnf); exact ⟨by decide, Int.lt_of_lt_of_le (b := (4 : Int)) (by decide) (Int.ofNat_le.2 hw)⟩) ?_
  conv => whnf
  refine And.intro (by (conv => whnf); exact Nat.le_trans (m := 4) (Nat.le_of_ble_eq_true rfl) hw) ?_
  conv => whnf
  exact congrArg (fun z => some (Value.tuple #[.int .u64 z, .int .i64 0])) (horner4 fun i hi => hb i (by omega))

def sumRefRd : Sum := fun args H _ => match args with
  | [v, .n .i64 (.ofNat k)] => match src2 H v with
    | some (p, m, g) => match Nat.beq k 2 || Nat.beq k 4 with
      | true => some (.ob (k ≤ m ∧ p ∧ BytesG m g ∧ m ≤ maxLen) (.val (.tu [.i .u64 (leN (gI g) k), .n .i64 0])))
      | false => none
    | _ => none
  | _ => none
theorem sumRefRd_ok : SumOk1 Tryd.prog 36 sumRefRd := by
  intro args H nx out ho ρ w xs hH hd hn
  unfold sumRefRd at ho
  split at ho
  case h_2 => cases ho
  rename_i v k
  split at ho
  case h_2 => cases ho
  rename_i p m g hs
  split at ho
  case h_2 => cases ho
  rename_i hk
  cases ho
  rintro ⟨hkm, hp, hb, hm⟩
  obtain ⟨x, r, rfl, h1, h2⟩ := denL_cons hd
  cases h2
  have hrow := src_row hH h1 hs hp hb hm
  have hb' : ∀ i, i < m → 0 ≤ gI g i ∧ gI g i < 256 := fun i hi => (bytesG_num hb i hi).2
  simp only [Bool.or_eq_true] at hk
  rcases hk with hk | hk
  · have := Nat.eq_of_beq_eq_true hk
    subst this
    exact (refRead2_c (gI g) m hb' hkm x w hrow).mono fun e w' ⟨q1, q2⟩ => ⟨_, q1, rfl, q2⟩
  · have := Nat.eq_of_beq_eq_true hk
    subst this
    exact (refRead4_c (gI g) m hb' hkm x w hrow).mono fun e w' ⟨q1, q2⟩ => ⟨_, q1, rfl, q2⟩
noncomputable def inlM : List (Nat × Func) := [(67, Tryd.f67)]
theorem inlM_ok : inlAll Tryd.prog inlM := ⟨Tryd.func67, trivial⟩
noncomputable def tabM : Tab := mkTab tiRows eqL fnsL [] inlM 20 []
theorem tabM_ok : TabOk Tryd.prog tabM := mkTab_ok (by kernel_rfl) tiRows_ok eqL_ok fnsL_ok inlM_ok trivial
theorem many1_c (w : World) : Calls Tryd.prog 35 #[.int .i64 1] w fun e w' => e = .returned (.int .i64 ((manyN 1 : Nat) : Int)) ∧ Below w.heap.size w w' := by
  refine calls_pure tabM_ok Tryd.func35 rfl [.n .i64 1] rfl Tryd.ntmps35 rfl _ (wpx_ok tabM_ok (CI_ok tabM_ok 8) _ ?_) w
  conv => whnf
  rfl
theorem many2_c (w : World) : Calls Tryd.prog 35 #[.int .i64 2] w fun e w' => e = .returned (.int .i64 ((manyN 2 : Nat) : Int)) ∧ Below w.heap.size w w' := by
  refine calls_pure tabM_ok Tryd.func35 rfl [.n .i64 2] rfl Tryd.ntmps35 rfl _ (wpx_ok tabM_ok (CI_ok tabM_ok 8) _ ?_) w
  conv => whnf
  rfl
theorem many3_c (w : World) : Calls Tryd.prog 35 #[.int .i64 3] w fun e w' => e = .returned (.int .i64 ((manyN 3 : Nat) : Int)) ∧ Below w.heap.size w w' := by
  refine calls_pure tabM_ok Tryd.func35 rfl [.n .i64 3] rfl Tryd.ntmps35 rfl _ (wpx_ok tabM_ok (CI_ok tabM_ok 8) _ ?_) w
  conv => whnf
  rfl
theorem many4_c (w : World) : Calls Tryd.prog 35 #[.int .i64 4] w fun e w' => e = .returned (.int .i64 ((manyN 4 : Nat) : Int)) ∧ Below w.heap.size w w' := by
  refine calls_pure tabM_ok Tryd.func35 rfl [.n .i64 4] rfl Tryd.ntmps35 rfl _ (wpx_ok tabM_ok (CI_ok tabM_ok 8) _ ?_) w
  conv => whnf
  rfl
theorem many5_c (w : World) : Calls Tryd.prog 35 #[.int .i64 5] w fun e w' => e = .returned (.int .i64 ((manyN 5 : Nat) : Int)) ∧ Below w.heap.size w w' := by
  refine calls_pure tabM_ok Tryd.func35 rfl [.n .i64 5] rfl Tryd.ntmps35 rfl _ (wpx_ok tabM_ok (CI_ok tabM_ok 8) _ ?_) w
  conv => whnf
  rfl
theorem many6_c (w : World) : Calls Tryd.prog 35 #[.int .i64 6] w fun e w' => e = .returned (.int .i64 ((manyN 6 : Nat) : Int)) ∧ Below w.heap.size w w' := by
  refine calls_pure tabM_ok Tryd.func35 rfl [.n .i64 6] rfl Tryd.ntmps35 rfl _ (wpx_ok tabM_ok (CI_ok tabM_ok 8) _ ?_) w
  conv => whnf
  rfl
theorem many7_c (w : World) : Calls Tryd.prog 35 #[.int .i64 7] w fun e w' => e = .returned (.int .i64 ((manyN 7 : Nat) : Int)) ∧ Below w.heap.size w w' := by
  refine calls_pure tabM_ok Tryd.func35 rfl [.n .i64 7] rfl Tryd.ntmps35 rfl _ (wpx_ok tabM_ok (CI_ok tabM_ok 8) _ ?_) w
  conv => whnf
  rfl
theorem many8_c (w : World) : Calls Tryd.prog 35 #[.int .i64 8] w fun e w' => e = .returned (.int .i64 ((manyN 8 : Nat) : Int)) ∧ Below w.heap.size w w' := by
  refine calls_pure tabM_ok Tryd.func35 rfl [.n .i64 8] rfl Tryd.ntmps35 rfl _ (wpx_ok tabM_ok (CI_ok tabM_ok 8) _ ?_) w
  conv => whnf
  rfl
theorem many9_c (w : World) : Calls Tryd.prog 35 #[.int .i64 9] w fun e w' => e = .returned (.int .i64 ((manyN 9 : Nat) : Int)) ∧ Below w.heap.size w w' := by
  refine calls_pure tabM_ok Tryd.func35 rfl [.n .i64 9] rfl Tryd.ntmps35 rfl _ (wpx_ok tabM_ok (CI_ok tabM_ok 8) _ ?_) w
  conv => whnf
  rfl
theorem many10_c (w : World) : Calls Tryd.prog 35 #[.int .i64 10] w fun e w' => e = .returned (.int .i64 ((manyN 10 : Nat) : Int)) ∧ Below w.heap.size w w' := by
  refine calls_pure tabM_ok Tryd.func35 rfl [.n .i64 10] rfl Tryd.ntmps35 rfl _ (wpx_ok tabM_ok (CI_ok tabM_ok 8) _ ?_) w
  conv => whnf
  rfl
theorem many11_c (w : World) : Calls Tryd.prog 35 #[.int .i64 11] w fun e w' => e = .returned (.int .i64 ((manyN 11 : Nat) : Int)) ∧ Below w.heap.size w w' := by
  refine calls_pure tabM_ok Tryd.func35 rfl [.n .i64 11] rfl Tryd.ntmps35 rfl _ (wpx_ok tabM_ok (CI_ok tabM_ok 8) _ ?_) w
  conv => whnf
  rfl
theorem many12_c (w : World) : Calls Tryd.prog 35 #[.int .i64 12] w fun e w' => e = .returned (.int .i64 ((manyN 12 : Nat) : Int)) ∧ Below w.heap.size w w' := by
  refine calls_pure tabM_ok Tryd.func35 rfl [.n .i64 12] rfl Tryd.ntmps35 rfl _ (wpx_ok tabM_ok (CI_ok tabM_ok 8) _ ?_) w
  conv => whnf
  rfl
theorem many13_c (w : World) : Calls Tryd.prog 35 #[.int .i64 13] w fun e w' => e = .returned (.int .i64 ((manyN 13 : Nat) : Int)) ∧ Below w.heap.size w w' := by
  refine calls_pure tabM_ok Tryd.func35 rfl [.n .i64 13] rfl Tryd.ntmps35 rfl _ (wpx_ok tabM_ok (CI_ok tabM_ok 8) _ ?_) w
  conv => whnf
  rfl
theorem many14_c (w : World) : Calls Tryd.prog 35 #[.int .i64 14] w fun e w' => e = .returned (.int .i64 ((manyN 14 : Nat) : Int)) ∧ Below w.heap.size w w' := by
  refine calls_pure tabM_ok Tryd.func35 rfl [.n .i64 14] rfl Tryd.ntmps35 rfl _ (wpx_ok tabM_ok (CI_ok tabM_ok 8) _ ?_) w
  conv => whnf
  rfl

def sumMany : Sum := fun args _ _ => match args with
  | [.n .i64 (.ofNat k)] => match Nat.ble 1 k && Nat.ble k 14 with
    | true => some (.val (.n .i64 (.ofNat (manyN k))))
    | false => none
  | _ => none
theorem sumMany_ok : SumOk1 Tryd.prog 35 sumMany := by
  intro args H nx out ho ρ w xs hH hd hn
  unfold sumMany at ho
  split at ho
  case h_2 => cases ho
  rename_i k
  split at ho
  case h_2 => cases ho
  rename_i hk
  cases ho
  cases hd
  simp only [Bool.and_eq_true] at hk
  have h1 := Nat.le_of_ble_eq_true hk.1
  have h2 := Nat.le_of_ble_eq_true hk.2
  have fin : ∀ {k : Nat}, (Calls Tryd.prog 35 #[.int .i64 (k : Int)] w fun e w' => e = .returned (.int .i64 ((manyN k : Nat) : Int)) ∧ Below w.heap.size w w') → SumRes Tryd.prog 35 [.int .i64 (k : Int)] ρ w H nx (.val (.n .i64 (.ofNat (manyN k)))) := fun h => h.mono fun e w' ⟨q1, q2⟩ => ⟨_, q1, rfl, q2⟩
  obtain rfl | rfl | rfl | rfl | rfl | rfl | rfl | rfl | rfl | rfl | rfl | rfl | rfl | rfl : k = 1 ∨ k = 2 ∨ k = 3 ∨ k = 4 ∨ k = 5 ∨ k = 6 ∨ k = 7 ∨ k = 8 ∨ k = 9 ∨ k = 10 ∨ k = 11 ∨ k = 12 ∨ k = 13 ∨ k = 14 := by omega
  · exact fin (many1_c w)
  · exact fin (many2_c w)
  · exact fin (many3_c w)
  · exact fin (many4_c w)
  · exact fin (many5_c w)
  · exact fin (many6_c w)
  · exact fin (many7_c w)
  · exact fin (many8_c w)
  · exact fin (many9_c w)
  · exact fin (many10_c w)
  · exact fin (many11_c w)
  · exact fin (many12_c w)
  · exact fin (many13_c w)
  · exact fin (many14_c w)
end Go.Proofs.YtiibmnoikgfcbaaDoor
