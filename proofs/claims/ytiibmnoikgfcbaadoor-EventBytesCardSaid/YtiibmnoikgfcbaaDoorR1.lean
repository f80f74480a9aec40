/- Numbers read out of bytes (functions 66, 65, 36). The bytes are bytes. -/
import Derived.Test.YtiibmnoikgfcbaaDoorX12
import Derived.Test.YtiibmnoikgfcbaaDoorS6
namespace Go.Proofs.YtiibmnoikgfcbaaDoor
open Go Go.Sx Go.RowKit
set_option maxRecDepth 100000
set_option maxHeartbeats 1000000
set_option linter.unusedVariables false
set_option linter.unusedSimpArgs false

/-- A number of some bytes, the first one least. -/
def leN (g : Nat → Int) : Nat → Int
  | 0 => 0
  | n + 1 => leN g n + g n * 256 ^ n
def shortB (m w : Nat) : Bool := decide (m < w)
theorem leN_lt {g : Nat → Int} : ∀ {n : Nat}, (∀ i, i < n → 0 ≤ g i ∧ g i < 256) → 0 ≤ leN g n ∧ leN g n < 256 ^ n
  | 0, _ => by simp [leN]
  | n + 1, h => by
    obtain ⟨h1, h2⟩ := leN_lt (n := n) fun i hi => h i (by omega)
    obtain ⟨h3, h4⟩ := h n (by omega)
    have hp : (0 : Int) < 256 ^ n := Int.pow_pos (by decide)
    simp only [leN, Int.pow_succ]
    have h5 : 0 ≤ g n * 256 ^ n := Int.mul_nonneg h3 (by omega)
    have h6 : g n * 256 ^ n ≤ 255 * 256 ^ n := Int.mul_le_mul_of_nonneg_right (by omega) (by omega)
    omega
theorem orL {a c : Int} (i : Nat) (hi : i ≤ 3) (h0 : 0 ≤ a) (h1 : a < 256 ^ i) (h2 : 0 ≤ c) (h3 : c < 256) : bitI .or .u64 a (IntKind.u64.wrap (IntKind.u64.wrap c * 2 ^ (8 * i))) = a + c * 256 ^ i := by
  have hw : ∀ y : Int, IntKind.u64.wrap y = y % 18446744073709551616 := fun y => IntKind.wrap_u64 y
  have e256 : (256 : Int) ^ i = 2 ^ (8 * i) := by rw [Int.pow_mul]; rfl
  have hp : (0 : Int) < 256 ^ i := Int.pow_pos (by decide)
  have hple : (256 : Int) ^ i ≤ 16777216 := by
    rcases i with _ | _ | _ | _ | i
    all_goals first | omega | decide
  have hc : IntKind.u64.wrap c = c := by rw [hw]; omega
  have hm : 0 ≤ c * 256 ^ i := Int.mul_nonneg h2 (by omega)
  have hm2 : c * 256 ^ i ≤ 255 * 256 ^ i := Int.mul_le_mul_of_nonneg_right (by omega) (by omega)
  rw [hc, ← e256, show IntKind.u64.wrap (c * 256 ^ i) = c * 256 ^ i by rw [hw]; omega]
  simp only [bitI]
  rw [hw]
  have hb : IntKind.u64.bits = 64 := rfl
  rw [hb]
  have key : (BitVec.ofInt 64 a ||| BitVec.ofInt 64 (c * 256 ^ i)).toNat = (a + c * 256 ^ i).toNat := by
    rw [BitVec.toNat_or, BitVec.toNat_ofInt, BitVec.toNat_ofInt]
    have a1 : (a % ((2 ^ 64 : Nat) : Int)).toNat = a.toNat := by
      congr 1
      exact Int.emod_eq_of_lt h0 (by have : ((2 ^ 64 : Nat) : Int) = 18446744073709551616 := rfl; omega)
    have a2 : ((c * 256 ^ i) % ((2 ^ 64 : Nat) : Int)).toNat = c.toNat <<< (8 * i) := by
      rw [Int.emod_eq_of_lt hm (by have : ((2 ^ 64 : Nat) : Int) = 18446744073709551616 := rfl; omega), Nat.shiftLeft_eq, Int.toNat_mul h2 (by omega), e256, Int.toNat_pow_of_nonneg (by decide)]
      rfl
    rw [a1, a2, Nat.or_comm, ← Nat.shiftLeft_add_eq_or_of_lt]
    · rw [Nat.shiftLeft_eq]
      have : ((c.toNat * 2 ^ (8 * i) + a.toNat : Nat) : Int) = a + c * 256 ^ i := by
        push_cast
        rw [Int.toNat_of_nonneg h2, Int.toNat_of_nonneg h0, e256]
        omega
      omega
    · have : ((2 ^ (8 * i) : Nat) : Int) = 256 ^ i := by rw [e256]; push_cast; rfl
      omega
  rw [key, Int.toNat_of_nonneg (by omega)]
  omega
theorem ors1 {g : Nat → Int} (h : ∀ i, i < 1 → 0 ≤ g i ∧ g i < 256) : (bitI .or .u64 0 (IntKind.u64.wrap (IntKind.u64.wrap (g 0) * 2 ^ 0))) = leN g 1 := by
  have h0 := h 0 (by decide)
  have l0 := leN_lt (g := g) (n := 0) fun j hj => h j (by omega)
  rw [show (0 : Int) = leN g 0 from rfl]
  rw [show (2 : Int) ^ 0 = 2 ^ (8 * 0) from rfl, orL 0 (by decide) l0.1 l0.2 h0.1 h0.2, show leN g 0 + g 0 * 256 ^ 0 = leN g 1 from rfl]
theorem readFixed1_c (g : Nat → Int) (m : Nat) (hb : ∀ i, i < m → 0 ≤ g i ∧ g i < 256) (x : Value) (w : World) (hx : RowV w 1 m (rowB g) x) : Calls Tryd.prog 66 #[x, .int .i64 1] w fun e w' => e = .returned (.tuple #[.int .u64 (bif shortB m 1 then 0 else leN g 1), .int .i64 (bif shortB m 1 then 110 else 0)]) ∧ Below w.heap.size w w' := by
  refine calls_row tabF_ok Tryd.func66 rfl [.n .i64 1] rfl Tryd.ntmps66 rfl _ (wpx_ok tabF_ok (CI_ok tabF_ok 8) _ ?_) w hx
  conv => whnf
  refine And.intro (fun h => ?_) (fun h => ?_)
  · have hm : (m : Int) < 1 := of_decide_eq_true h
    have hs : shortB m 1 = true := by simp only [shortB, decide_eq_true_eq]; omega
    rw [hs]
    conv => whnf
    rfl
  have hm : ¬ ((m : Int) < 1) := of_decide_eq_false h
  have hs : shortB m 1 = false := by simp only [shortB, decide_eq_false_iff_not]; omega
  rw [hs]
  conv => whnf
  refine And.intro (by (conv => whnf); exact ⟨by decide, by decide, by show (1 : Int) ≤ (m : Int); omega⟩) ?_
  conv => whnf
  refine And.intro (fun _ => ?_) (fun h => absurd h (by decide))
  conv => whnf
  refine And.intro (by (conv => whnf); exact ⟨by decide, by decide, by show (0 : Int) < (m : Int); omega⟩) ?_
  conv => whnf
  refine And.intro (by (conv => whnf); show 0 < m; omega) ?_
  conv => whnf
  refine And.intro (fun h => absurd h (by decide)) (fun _ => ?_)
  conv => whnf
  exact congrArg (fun z => some (Value.tuple #[.int .u64 z, .int .i64 0])) (ors1 fun i hi => hb i (by omega))
theorem ors2 {g : Nat → Int} (h : ∀ i, i < 2 → 0 ≤ g i ∧ g i < 256) : (bitI .or .u64 (bitI .or .u64 0 (IntKind.u64.wrap (IntKind.u64.wrap (g 0) * 2 ^ 0))) (IntKind.u64.wrap (IntKind.u64.wrap (g 1) * 2 ^ 8))) = leN g 2 := by
  have h0 := h 0 (by decide)
  have l0 := leN_lt (g := g) (n := 0) fun j hj => h j (by omega)
  have h1 := h 1 (by decide)
  have l1 := leN_lt (g := g) (n := 1) fun j hj => h j (by omega)
  rw [show (0 : Int) = leN g 0 from rfl]
  rw [show (2 : Int) ^ 0 = 2 ^ (8 * 0) from rfl, orL 0 (by decide) l0.1 l0.2 h0.1 h0.2, show leN g 0 + g 0 * 256 ^ 0 = leN g 1 from rfl]
  rw [show (2 : Int) ^ 8 = 2 ^ (8 * 1) from rfl, orL 1 (by decide) l1.1 l1.2 h1.1 h1.2, show leN g 1 + g 1 * 256 ^ 1 = leN g 2 from rfl]
theorem readFixed2_c (g : Nat → Int) (m : Nat) (hb : ∀ i, i < m → 0 ≤ g i ∧ g i < 256) (x : Value) (w : World) (hx : RowV w 1 m (rowB g) x) : Calls Tryd.prog 66 #[x, .int .i64 2] w fun e w' => e = .returned (.tuple #[.int .u64 (bif shortB m 2 then 0 else leN g 2), .int .i64 (bif shortB m 2 then 110 else 0)]) ∧ Below w.heap.size w w' := by
  refine calls_row tabF_ok Tryd.func66 rfl [.n .i64 2] rfl Tryd.ntmps66 rfl _ (wpx_ok tabF_ok (CI_ok tabF_ok 8) _ ?_) w hx
  conv => whnf
  refine And.intro (fun h => ?_) (fun h => ?_)
  · have hm : (m : Int) < 2 := of_decide_eq_true h
    have hs : shortB m 2 = true := by simp only [shortB, decide_eq_true_eq]; omega
    rw [hs]
    conv => whnf
    rfl
  have hm : ¬ ((m : Int) < 2) := of_decide_eq_false h
  have hs : shortB m 2 = false := by simp only [shortB, decide_eq_false_iff_not]; omega
  rw [hs]
  conv => whnf
  refine And.intro (by (conv => whnf); exact ⟨by decide, by decide, by show (2 : Int) ≤ (m : Int); omega⟩) ?_
  conv => whnf
  refine And.intro (fun _ => ?_) (fun h => absurd h (by decide))
  conv => whnf
  refine And.intro (by (conv => whnf); exact ⟨by decide, by decide, by show (0 : Int) < (m : Int); omega⟩) ?_
  conv => whnf
  refine And.intro (by (conv => whnf); show 0 < m; omega) ?_
  conv => whnf
  refine And.intro (fun _ => ?_) (fun h => absurd h (by decide))
  conv => whnf
  refine And.intro (by (conv => whnf); exact ⟨by decide, by decide, by show (1 : Int) < (m : Int); omega⟩) ?_
  conv => whnf
  refine And.intro (by (conv => whnf); show 1 < m; omega) ?_
  conv => whnf
  refine And.intro (fun h => absurd h (by decide)) (fun _ => ?_)
  conv => whnf
  exact congrArg (fun z => some (Value.tuple #[.int .u64 z, .int .i64 0])) (ors2 fun i hi => hb i (by omega))
theorem ors4 {g : Nat → Int} (h : ∀ i, i < 4 → 0 ≤ g i ∧ g i < 256) : (bitI .or .u64 (bitI .or .u64 (bitI .or .u64 (bitI .or .u64 0 (IntKind.u64.wrap (IntKind.u64.wrap (g 0) * 2 ^ 0))) (IntKind.u64.wrap (IntKind.u64.wrap (g 1) * 2 ^ 8))) (IntKind.u64.wrap (IntKind.u64.wrap (g 2) * 2 ^ 16))) (IntKind.u64.wrap (IntKind.u64.wrap (g 3) * 2 ^ 24))) = leN g 4 := by
  have h0 := h 0 (by decide)
  have l0 := leN_lt (g := g) (n := 0) fun j hj => h j (by omega)
  have h1 := h 1 (by decide)
  have l1 := leN_lt (g := g) (n := 1) fun j hj => h j (by omega)
  have h2 := h 2 (by decide)
  have l2 := leN_lt (g := g) (n := 2) fun j hj => h j (by omega)
  have h3 := h 3 (by decide)
  have l3 := leN_lt (g := g) (n := 3) fun j hj => h j (by omega)
  rw [show (0 : Int) = leN g 0 from rfl]
  rw [show (2 : Int) ^ 0 = 2 ^ (8 * 0) from rfl, orL 0 (by decide) l0.1 l0.2 h0.1 h0.2, show leN g 0 + g 0 * 256 ^ 0 = leN g 1 from rfl]
  rw [show (2 : Int) ^ 8 = 2 ^ (8 * 1) from rfl, orL 1 (by decide) l1.1 l1.2 h1.1 h1.2, show leN g 1 + g 1 * 256 ^ 1 = leN g 2 from rfl]
  rw [show (2 : Int) ^ 16 = 2 ^ (8 * 2) from rfl, orL 2 (by decide) l2.1 l2.2 h2.1 h2.2, show leN g 2 + g 2 * 256 ^ 2 = leN g 3 from rfl]
  rw [show (2 : Int) ^ 24 = 2 ^ (8 * 3) from rfl, orL 3 (by decide) l3.1 l3.2 h3.1 h3.2, show leN g 3 + g 3 * 256 ^ 3 = leN g 4 from rfl]
theorem readFixed4_c (g : Nat → Int) (m : Nat) (hb : ∀ i, i < m → 0 ≤ g i ∧ g i < 256) (x : Value) (w : World) (hx : RowV w 1 m (rowB g) x) : Calls Tryd.prog 66 #[x, .int .i64 4] w fun e w' => e = .returned (.tuple #[.int .u64 (bif shortB m 4 then 0 else leN g 4), .int .i64 (bif shortB m 4 then 110 else 0)]) ∧ Below w.heap.size w w' := by
  refine calls_row tabF_ok Tryd.func66 rfl [.n .i64 4] rfl Tryd.ntmps66 rfl _ (wpx_ok tabF_ok (CI_ok tabF_ok 8) _ ?_) w hx
  conv => whnf
  refine And.intro (fun h => ?_) (fun h => ?_)
  · have hm : (m : Int) < 4 := of_decide_eq_true h
    have hs : shortB m 4 = true := by simp only [shortB, decide_eq_true_eq]; omega
    rw [hs]
    conv => whnf
    rfl
  have hm : ¬ ((m : Int) < 4) := of_decide_eq_false h
  have hs : shortB m 4 = false := by simp only [shortB, decide_eq_false_iff_not]; omega
  rw [hs]
  conv => whnf
  refine And.intro (by (conv => whnf); exact ⟨by decide, by decide, by show (4 : Int) ≤ (m : Int); omega⟩) ?_
  conv => whnf
  refine And.intro (fun _ => ?_) (fun h => absurd h (by decide))
  conv => whnf
  refine And.intro (by (conv => whnf); exact ⟨by decide, by decide, by show (0 : Int) < (m : Int); omega⟩) ?_
  conv => whnf
  refine And.intro (by (conv => whnf); show 0 < m; omega) ?_
  conv => whnf
  refine And.intro (fun _ => ?_) (fun h => absurd h (by decide))
  conv => whnf
  refine And.intro (by (conv => whnf); exact ⟨by decide, by decide, by show (1 : Int) < (m : Int); omega⟩) ?_
  conv => whnf
  refine And.intro (by (conv => whnf); show 1 < m; omega) ?_
  conv => whnf
  refine And.intro (fun _ => ?_) (fun h => absurd h (by decide))
  conv => whnf
  refine And.intro (by (conv => whnf); exact ⟨by decide, by decide, by show (2 : Int) < (m : Int); omega⟩) ?_
  conv => whnf
  refine And.intro (by (conv => whnf); show 2 < m; omega) ?_
  conv => whnf
  refine And.intro (fun _ => ?_) (fun h => absurd h (by decide))
  conv => whnf
  refine And.intro (by (conv => whnf); exact ⟨by decide, by decide, by show (3 : Int) < (m : Int); omega⟩) ?_
  conv => whnf
  refine And.intro (by (conv => whnf); show 3 < m; omega) ?_
  conv => whnf
  refine And.intro (fun h => absurd h (by decide)) (fun _ => ?_)
  conv => whnf
  exact congrArg (fun z => some (Value.tuple #[.int .u64 z, .int .i64 0])) (ors4 fun i hi => hb i (by omega))
end Go.Proofs.YtiibmnoikgfcbaaDoor
