/- Read and the reference's Read (functions 10, 11), whole. The bytes are bytes. -/
import Derived.Test.YtiibmnoikgfcbaaDoorR10
import Derived.Test.YtiibmnoikgfcbaaDoorR11
namespace Go.Proofs.YtiibmnoikgfcbaaDoor
open Go Go.Sx Go.RowKit
set_option maxRecDepth 100000
set_option maxHeartbeats 1000000
set_option linter.unusedVariables false
set_option linter.unusedSimpArgs false

/-- What reading tells. -/
def rdVal (n : Nat) (g : Nat → Int) : Value :=
  if n = 0 then noV 110 else if g 0 = 0 ∨ 14 < g 0 then noV 260 else if n < many (g 0) then noV 110 else bif evOk (rdE (g 0) g) then yesV (rdE (g 0) g) (many (g 0)) else noV 260
theorem read_c (g : Nat → Int) (n : Nat) (hb : ∀ i, i < n → 0 ≤ g i ∧ g i < 256) (hm : n ≤ maxLen) (x : Value) (w : World) (hx : RowV w 1 n (rowB g) x) : Calls Tryd.prog 10 #[x] w fun e w' => e = .returned (rdVal n g) ∧ Below w.heap.size w w' := by
  unfold rdVal
  split
  · rename_i h; subst h
    exact row0_c 0 g x w hx
  rename_i h0
  split
  · rename_i hk
    exact readNone_c g n hb (by omega) hm hk x w hx
  rename_i hk
  have h1 := hb 0 (by omega)
  have hk1 : 1 ≤ g 0 := by omega
  have hk2 : g 0 ≤ 14 := by omega
  split
  · rename_i hl
    rcases kinds hk1 hk2 with hk | hk | hk | hk | hk | hk | hk | hk | hk | hk | hk | hk | hk | hk <;> rw [hk] at hl
    · exact readL1_c g n hb (by omega) hl hm hk x w hx
    · exact readL2_c g n hb (by omega) hl hm hk x w hx
    · exact readL3_c g n hb (by omega) hl hm hk x w hx
    · exact readL4_c g n hb (by omega) hl hm hk x w hx
    · exact readL5_c g n hb (by omega) hl hm hk x w hx
    · exact readL6_c g n hb (by omega) hl hm hk x w hx
    · exact readL7_c g n hb (by omega) hl hm hk x w hx
    · exact readL8_c g n hb (by omega) hl hm hk x w hx
    · exact readL9_c g n hb (by omega) hl hm hk x w hx
    · exact readL10_c g n hb (by omega) hl hm hk x w hx
    · exact readL11_c g n hb (by omega) hl hm hk x w hx
    · exact readL12_c g n hb (by omega) hl hm hk x w hx
    · exact readL13_c g n hb (by omega) hl hm hk x w hx
    · exact readL14_c g n hb (by omega) hl hm hk x w hx
  · rename_i hl
    rcases kinds hk1 hk2 with hk | hk | hk | hk | hk | hk | hk | hk | hk | hk | hk | hk | hk | hk <;> rw [hk] at hl ⊢
    · exact readS1_c g n hb (by omega) hm hk x w hx
    · exact readS2_c g n hb (by omega) hm hk x w hx
    · exact readS3_c g n hb (by omega) hm hk x w hx
    · exact readS4_c g n hb (by omega) hm hk x w hx
    · exact readS5_c g n hb (by omega) hm hk x w hx
    · exact readS6_c g n hb (by omega) hm hk x w hx
    · exact readS7_c g n hb (by omega) hm hk x w hx
    · exact readS8_c g n hb (by omega) hm hk x w hx
    · exact readS9_c g n hb (by omega) hm hk x w hx
    · exact readS10_c g n hb (by omega) hm hk x w hx
    · exact readS11_c g n hb (by omega) hm hk x w hx
    · exact readS12_c g n hb (by omega) hm hk x w hx
    · exact readS13_c g n hb (by omega) hm hk x w hx
    · exact readS14_c g n hb (by omega) hm hk x w hx
theorem refRead_c (g : Nat → Int) (n : Nat) (hb : ∀ i, i < n → 0 ≤ g i ∧ g i < 256) (hm : n ≤ maxLen) (x : Value) (w : World) (hx : RowV w 1 n (rowB g) x) : Calls Tryd.prog 11 #[x] w fun e w' => e = .returned (rdVal n g) ∧ Below w.heap.size w w' := by
  unfold rdVal
  split
  · rename_i h; subst h
    exact refZero_c g x w hx
  rename_i h0
  split
  · rename_i hk
    exact refNone_c g n hb (by omega) hm hk x w hx
  rename_i hk
  have h1 := hb 0 (by omega)
  have hk1 : 1 ≤ g 0 := by omega
  have hk2 : g 0 ≤ 14 := by omega
  split
  · rename_i hl
    rcases kinds hk1 hk2 with hk | hk | hk | hk | hk | hk | hk | hk | hk | hk | hk | hk | hk | hk <;> rw [hk] at hl
    · exact refReadL1_c g n hb (by omega) hl hm hk x w hx
    · exact refReadL2_c g n hb (by omega) hl hm hk x w hx
    · exact refReadL3_c g n hb (by omega) hl hm hk x w hx
    · exact refReadL4_c g n hb (by omega) hl hm hk x w hx
    · exact refReadL5_c g n hb (by omega) hl hm hk x w hx
    · exact refReadL6_c g n hb (by omega) hl hm hk x w hx
    · exact refReadL7_c g n hb (by omega) hl hm hk x w hx
    · exact refReadL8_c g n hb (by omega) hl hm hk x w hx
    · exact refReadL9_c g n hb (by omega) hl hm hk x w hx
    · exact refReadL10_c g n hb (by omega) hl hm hk x w hx
    · exact refReadL11_c g n hb (by omega) hl hm hk x w hx
    · exact refReadL12_c g n hb (by omega) hl hm hk x w hx
    · exact refReadL13_c g n hb (by omega) hl hm hk x w hx
    · exact refReadL14_c g n hb (by omega) hl hm hk x w hx
  · rename_i hl
    rcases kinds hk1 hk2 with hk | hk | hk | hk | hk | hk | hk | hk | hk | hk | hk | hk | hk | hk <;> rw [hk] at hl ⊢
    · exact refReadS1_c g n hb (by omega) hm hk x w hx
    · exact refReadS2_c g n hb (by omega) hm hk x w hx
    · exact refReadS3_c g n hb (by omega) hm hk x w hx
    · exact refReadS4_c g n hb (by omega) hm hk x w hx
    · exact refReadS5_c g n hb (by omega) hm hk x w hx
    · exact refReadS6_c g n hb (by omega) hm hk x w hx
    · exact refReadS7_c g n hb (by omega) hm hk x w hx
    · exact refReadS8_c g n hb (by omega) hm hk x w hx
    · exact refReadS9_c g n hb (by omega) hm hk x w hx
    · exact refReadS10_c g n hb (by omega) hm hk x w hx
    · exact refReadS11_c g n hb (by omega) hm hk x w hx
    · exact refReadS12_c g n hb (by omega) hm hk x w hx
    · exact refReadS13_c g n hb (by omega) hm hk x w hx
    · exact refReadS14_c g n hb (by omega) hm hk x w hx

def isR1 : SV → Bool
  | .r h => Nat.beq h 1
  | _ => false
/-- What reading the row 1 tells is o1; of any other, o2. -/
def sumRd (o1 o2 : SV) : Sum := fun args H _ => match args with
  | [v] => match src2 H v with
    | some (p, n, g) => match isR1 v with
      | true => some (.ob (p ∧ BytesG n g ∧ n ≤ maxLen ∧ shut o1 = some (rdVal n (gI g))) (.val o1))
      | false => some (.ob (p ∧ BytesG n g ∧ n ≤ maxLen ∧ shut o2 = some (rdVal n (gI g))) (.val o2))
    | none => none
  | _ => none
theorem sumRd_ok {f : FuncId} (hf : ∀ (g : Nat → Int) (n : Nat), (∀ i, i < n → 0 ≤ g i ∧ g i < 256) → n ≤ maxLen → ∀ (x : Value) (w : World), RowV w 1 n (rowB g) x → Calls Tryd.prog f #[x] w fun e w' => e = .returned (rdVal n g) ∧ Below w.heap.size w w') (o1 o2 : SV) : SumOk1 Tryd.prog f (sumRd o1 o2) := by
  intro args H nx out ho ρ w xs hH hd hn
  unfold sumRd at ho
  split at ho
  case h_2 => cases ho
  rename_i v
  split at ho
  case h_2 => cases ho
  rename_i p n g hs
  obtain ⟨x, r, rfl, h1, h2⟩ := denL_cons hd
  cases h2
  split at ho
  · cases ho
    rintro ⟨hp, hb, hm, hk⟩
    exact (hf (gI g) n (fun i hi => (bytesG_num hb i hi).2) hm x w (src_row hH h1 hs hp hb hm)).mono fun e w' ⟨q1, q2⟩ => ⟨_, q1, den_mono (Vl.none_le ρ) _ _ hk, q2⟩
  · cases ho
    rintro ⟨hp, hb, hm, hk⟩
    exact (hf (gI g) n (fun i hi => (bytesG_num hb i hi).2) hm x w (src_row hH h1 hs hp hb hm)).mono fun e w' ⟨q1, q2⟩ => ⟨_, q1, den_mono (Vl.none_le ρ) _ _ hk, q2⟩
theorem sumRead_ok (o1 o2 : SV) : SumOk1 Tryd.prog 10 (sumRd o1 o2) := sumRd_ok read_c o1 o2
theorem sumRefRead_ok (o1 o2 : SV) : SumOk1 Tryd.prog 11 (sumRd o1 o2) := sumRd_ok refRead_c o1 o2
end Go.Proofs.YtiibmnoikgfcbaaDoor
