/- A number read by the reader's closure (function 65); bytes from a place on (function 91). -/
import Derived.Test.YtiibmnoikgfcbaaDoorR1
namespace Go.Proofs.YtiibmnoikgfcbaaDoor
open Go Go.Sx Go.RowKit
set_option maxRecDepth 100000
set_option maxHeartbeats 1000000
set_option linter.unusedVariables false
set_option linter.unusedSimpArgs false

theorem num65_c (k : Int) (x : Value) (b : Nat) (w : World) (hc : w.cell? ⟨b, 0, none⟩ = some (.int .i64 k)) (u v : Value)
    (h66 : Calls Tryd.prog 66 #[x, .int .i64 k] w fun e w' => e = .returned (.tuple #[u, v]) ∧ Below w.heap.size w w') :
    Calls Tryd.prog 65 #[x, .pointer (some ⟨b, 0, none⟩)] w fun e w' => e = .returned (.tuple #[u, v]) ∧ Below w.heap.size w w' := by
  go_enter Tryd.func65, Tryd.ntmps65
  go_wp2_with (go_at_fn 66; fail)
  refine h66.mono ?_
  rintro e w' ⟨rfl, hb⟩
  go_wp2
  go_ret2
  exact ⟨rfl, hb⟩
theorem from91_c (a : Option Addr) (n c k : Nat) (hk : k ≤ n) (hc : n ≤ c) (w : World) : Calls Tryd.prog 91 #[.agg #[.slice a n c], .int .i64 k] w fun e w' => e = .returned (.slice (if c = k then a else a.map (·.add (k * 1))) (n - k) (c - k)) ∧ Below w.heap.size w w' := by
  go_enter Tryd.func91, Tryd.ntmps91
  go_wp2
  all_goals go_ret
  all_goals exact ⟨by simp [*], (Below.refl _ w).alloc (Nat.le_refl _) _⟩

/-! ### summaries -/
def sum91 : Sum := fun args H _ => match args with
  | [.ag [.r h], .n .i64 (.ofNat k)] => match (lk h H).bind rowOf with
    | some (1, n, _) => some (.ob (k ≤ n) (.val (.rs h k (n - k) 1)))
    | _ => none
  | _ => none
theorem sum91_ok : SumOk1 Tryd.prog 91 sum91 := by
  intro args H nx out ho ρ w xs hH hd hn
  unfold sum91 at ho
  split at ho
  case h_2 => cases ho
  rename_i h k
  split at ho
  case h_2 => cases ho
  rename_i n g hl
  cases ho
  intro hk
  obtain ⟨a, c, hr, hrow⟩ := row_lk hH hl
  have e : xs = [.agg #[.slice a n c], .int .i64 (k : Int)] := by
    simp only [denL, den, hr, Option.some.injEq] at hd
    exact hd.symm
  subst e
  exact (from91_c a n c k hk hrow.le w).mono fun e w' ⟨q1, q2⟩ => ⟨_, q1, by simp only [den, hr], q2⟩

def sum65 : Sum := fun args H _ => match args with
  | [v, .p h 0] => match lk h H, src2 H v with
    | some (.cells [.n .i64 (.ofNat 1)] _), some (p, m, g) => some (.ob (p ∧ BytesG m g ∧ m ≤ maxLen) (.val (.tu [.i .u64 (bif shortB m 1 then 0 else leN (gI g) 1), .i .i64 (bif shortB m 1 then 110 else 0)])))
    | some (.cells [.n .i64 (.ofNat 2)] _), some (p, m, g) => some (.ob (p ∧ BytesG m g ∧ m ≤ maxLen) (.val (.tu [.i .u64 (bif shortB m 2 then 0 else leN (gI g) 2), .i .i64 (bif shortB m 2 then 110 else 0)])))
    | some (.cells [.n .i64 (.ofNat 4)] _), some (p, m, g) => some (.ob (p ∧ BytesG m g ∧ m ≤ maxLen) (.val (.tu [.i .u64 (bif shortB m 4 then 0 else leN (gI g) 4), .i .i64 (bif shortB m 4 then 110 else 0)])))
    | _, _ => none
  | _ => none
theorem sum65_ok : SumOk1 Tryd.prog 65 sum65 := by
  intro args H nx out ho ρ w xs hH hd hn
  unfold sum65 at ho
  split at ho
  case h_2 => cases ho
  rename_i v h
  obtain ⟨x, r, rfl, h1, h2⟩ := denL_cons hd
  obtain ⟨y, r, rfl, h3, h4⟩ := denL_cons h2
  cases h4
  have cell : ∀ k t, lk h H = some (.cells [.n .i64 (.ofNat k)] t) → ∃ b, y = .pointer (some ⟨b, 0, none⟩) ∧ w.cell? ⟨b, 0, none⟩ = some (.int .i64 (k : Int)) := fun k t hl => by
    obtain ⟨hv, hr, hrep⟩ := hH h _ hl
    cases hv with
    | rw a n c => exact hrep.elim
    | blk b =>
      obtain ⟨cs, q1, q2⟩ := hrep
      cases q1
      simp only [den, hr, Option.some.injEq] at h3
      exact ⟨b, h3.symm, by simp [World.cell?, q2]⟩
  split at ho
  case h_4 => cases ho
  all_goals
    rename_i t p m g hl hs
    cases ho
    rintro ⟨hp, hb, hm⟩
    have hrow := src_row hH h1 hs hp hb hm
    obtain ⟨b, rfl, hc⟩ := cell _ _ hl
    have hb' : ∀ i, i < m → 0 ≤ gI g i ∧ gI g i < 256 := fun i hi => (bytesG_num hb i hi).2
  · exact (num65_c 1 x b w hc _ _ (readFixed1_c (gI g) m hb' x w hrow)).mono fun e w' ⟨q1, q2⟩ => ⟨_, q1, rfl, q2⟩
  · exact (num65_c 2 x b w hc _ _ (readFixed2_c (gI g) m hb' x w hrow)).mono fun e w' ⟨q1, q2⟩ => ⟨_, q1, rfl, q2⟩
  · exact (num65_c 4 x b w hc _ _ (readFixed4_c (gI g) m hb' x w hrow)).mono fun e w' ⟨q1, q2⟩ => ⟨_, q1, rfl, q2⟩
end Go.Proofs.YtiibmnoikgfcbaaDoor
