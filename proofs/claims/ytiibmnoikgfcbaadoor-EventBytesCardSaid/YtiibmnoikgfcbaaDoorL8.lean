/- The law EventBytes (function 3) answers true, for any bytes. The table of powers stands; the event's parts lie in their types; the bytes are bytes. -/
import Derived.Test.YtiibmnoikgfcbaaDoorL7
namespace Go.Proofs.YtiibmnoikgfcbaaDoor
open Go Go.Sx Go.RowKit
set_option linter.unusedVariables false

theorem law3_c (a : Ev) (ha : EvT a) (g : Nat → Int) (n : Nat) (hb : ∀ i, i < n → 0 ≤ g i ∧ g i < 256) (hm : n ≤ maxLen) (x : Value) (w : World) (hA : powA.rep w (.blk 0)) (hx : RowV w 1 n (rowB g) x) : Calls Tryd.prog 3 #[evV a, x] w fun e w' => e = .returned (.bool true) ∧ Below w.heap.size w w' := by
  by_cases h0 : n = 0
  · exact law3_no a ha g n hb hm 110 (by decide) (by unfold rdVal; rw [if_pos h0]) x w hA hx
  by_cases hk : g 0 = 0 ∨ 14 < g 0
  · exact law3_no a ha g n hb hm 260 (by decide) (by unfold rdVal; rw [if_neg h0, if_pos hk]) x w hA hx
  by_cases hl : n < many (g 0)
  · exact law3_no a ha g n hb hm 110 (by decide) (by unfold rdVal; rw [if_neg h0, if_neg hk, if_pos hl]) x w hA hx
  have hr : rdVal n g = bif evOk (rdE (g 0) g) then yesV (rdE (g 0) g) (many (g 0)) else noV 260 := by unfold rdVal; rw [if_neg h0, if_neg hk, if_neg hl]
  have h1 := hb 0 (by omega)
  have hk1 : 1 ≤ g 0 := by omega
  have hk2 : g 0 ≤ 14 := by omega
  cases ho : evOk (rdE (g 0) g) with
  | false =>
    rw [ho] at hr
    exact law3_no a ha g n hb hm 260 (by decide) hr x w hA hx
  | true =>
    rw [ho] at hr
    have hmn : many (g 0) ≤ n := by omega
    have t1 := rdE_T hk1 hk2 hmn hb
    have hl1 := bytesL_len (rdE (g 0) g) hk1 hk2
    have hb1 := bytes_rd hk1 hk2 rfl hmn hb
    have hr : rdVal n g = yesV (rdE (g 0) g) (many (g 0)) := hr
    have hl1 : (bytesL (rdE (g 0) g)).length = many (g 0) := hl1
    have hm5 : many (g 0) = 6 ∨ many (g 0) = 7 ∨ many (g 0) = 8 ∨ many (g 0) = 10 ∨ many (g 0) = 11 := by
      rcases kinds hk1 hk2 with e | e | e | e | e | e | e | e | e | e | e | e | e | e <;> rw [e] <;> decide
    generalize many (g 0) = m at *
    rcases hm5 with rfl | rfl | rfl | rfl | rfl
    · exact law3_yes6 a ha g n hb hm _ t1 ho hmn hl1 hb1 hr x w hA hx
    · exact law3_yes7 a ha g n hb hm _ t1 ho hmn hl1 hb1 hr x w hA hx
    · exact law3_yes8 a ha g n hb hm _ t1 ho hmn hl1 hb1 hr x w hA hx
    · exact law3_yes10 a ha g n hb hm _ t1 ho hmn hl1 hb1 hr x w hA hx
    · exact law3_yes11 a ha g n hb hm _ t1 ho hmn hl1 hb1 hr x w hA hx
end Go.Proofs.YtiibmnoikgfcbaaDoor
