/- What bytes tell of an event, in plain Lean. The bytes are bytes. -/
import Derived.Test.YtiibmnoikgfcbaaDoorR1
import Derived.Test.YtiibmnoikgfcbaaDoorM1
namespace Go.Proofs.YtiibmnoikgfcbaaDoor
open Go Go.Sx Go.RowKit
set_option maxRecDepth 100000
set_option maxHeartbeats 1000000
set_option linter.unusedVariables false
set_option linter.unusedSimpArgs false

def manyN : Nat → Nat
  | 2 => 10
  | 3 => 10
  | 4 => 8
  | 11 => 11
  | 1 => 6
  | 13 => 6
  | _ => 7
def many (k : Int) : Nat := manyN k.toNat
/-- The event that bytes of a kind tell. -/
def rdE (k : Int) (g : Nat → Int) : Ev :=
  ⟨leN (fun i => g (1 + i)) 2, k, leN (fun i => g (3 + i)) 1, leN (fun i => g (4 + i)) 2,
   if k = 2 ∨ k = 3 then IntKind.u32.wrap (leN (fun i => g (6 + i)) 4) else 0,
   if k = 4 then leN (fun i => g (6 + i)) 2 else 0,
   if 5 ≤ k ∧ k ≤ 12 then leN (fun i => g (6 + i)) 1 else 0,
   if k = 11 then IntKind.i64.wrap (IntKind.i32.wrap (IntKind.u32.wrap (leN (fun i => g (7 + i)) 4))) else 0,
   if k = 14 then leN (fun i => g (6 + i)) 1 else 0⟩
theorem le1 (g : Nat → Int) : leN g 1 = g 0 := by simp [leN]
theorem le2 (g : Nat → Int) : leN g 2 = g 0 + g 1 * 256 := by simp [leN]
theorem le4 (g : Nat → Int) : leN g 4 = g 0 + g 1 * 256 + g 2 * 65536 + g 3 * 16777216 := by simp [leN]
theorem kinds {k : Int} (h1 : 1 ≤ k) (h2 : k ≤ 14) : k = 1 ∨ k = 2 ∨ k = 3 ∨ k = 4 ∨ k = 5 ∨ k = 6 ∨ k = 7 ∨ k = 8 ∨ k = 9 ∨ k = 10 ∨ k = 11 ∨ k = 12 ∨ k = 13 ∨ k = 14 := by omega
theorem rdE_T {k : Int} (h1 : 1 ≤ k) (h2 : k ≤ 14) {g : Nat → Int} {n : Nat} (hn : many k ≤ n) (hb : ∀ i, i < n → 0 ≤ g i ∧ g i < 256) : EvT (rdE k g) := by
  have B : ∀ i, i < many k → 0 ≤ g i ∧ g i < 256 := fun i hi => hb i (by omega)
  have w32 : ∀ z, 0 ≤ IntKind.u32.wrap z ∧ IntKind.u32.wrap z ≤ 4294967295 := fun z => by rw [IntKind.wrap_u32]; omega
  have w64 : ∀ z, in64 (IntKind.i64.wrap z) := fun z => by rw [IntKind.wrap_i64]; unfold in64; omega
  have z64 : in64 0 := by unfold in64; omega
  have h6 : 6 ≤ many k := by rcases kinds h1 h2 with rfl | rfl | rfl | rfl | rfl | rfl | rfl | rfl | rfl | rfl | rfl | rfl | rfl | rfl <;> decide
  have b1 := B 1 (by omega); have b2 := B 2 (by omega); have b3 := B 3 (by omega); have b4 := B 4 (by omega); have b5 := B 5 (by omega)
  refine ⟨?_, ?_, ?_, ?_, ?_, ?_, ?_, ?_, ?_⟩
  · show in64 (leN _ 2); rw [le2]; show -9223372036854775808 ≤ g 1 + g 2 * 256 ∧ g 1 + g 2 * 256 ≤ 9223372036854775807; omega
  · show in64 k; unfold in64; omega
  · show in64 (leN _ 1); rw [le1]; show -9223372036854775808 ≤ g 3 ∧ g 3 ≤ 9223372036854775807; omega
  · show in64 (leN _ 2); rw [le2]; show -9223372036854775808 ≤ g 4 + g 5 * 256 ∧ g 4 + g 5 * 256 ≤ 9223372036854775807; omega
  · show 0 ≤ ite _ _ _ ∧ ite _ _ _ ≤ (4294967295 : Int)
    split
    · exact w32 _
    · omega
  · show in64 (ite _ _ _)
    split
    · rename_i h; subst h
      have c6 := B 6 (by decide); have c7 := B 7 (by decide)
      rw [le2]; show -9223372036854775808 ≤ g 6 + g 7 * 256 ∧ g 6 + g 7 * 256 ≤ 9223372036854775807; omega
    · exact z64
  · show in64 (ite _ _ _)
    split
    · rename_i h
      have c6 := B 6 (by rcases kinds h1 h2 with rfl | rfl | rfl | rfl | rfl | rfl | rfl | rfl | rfl | rfl | rfl | rfl | rfl | rfl <;> first | decide | omega)
      rw [le1]; show -9223372036854775808 ≤ g 6 ∧ g 6 ≤ 9223372036854775807; omega
    · exact z64
  · show in64 (ite _ _ _)
    split
    · exact w64 _
    · exact z64
  · show in64 (ite _ _ _)
    split
    · rename_i h; subst h
      have c6 := B 6 (by decide)
      rw [le1]; show -9223372036854775808 ≤ g 6 ∧ g 6 ≤ 9223372036854775807; omega
    · exact z64

theorem b8_byte {z : Int} (h : 0 ≤ z ∧ z < 256) : b8 z 0 = z := by simp only [b8]; omega
theorem b8_add2 {x y : Int} (hx : 0 ≤ x ∧ x < 256) (hy : 0 ≤ y ∧ y < 256) : b8 (x + y * 256) 0 = x ∧ b8 (x + y * 256) 1 = y := by simp only [b8]; omega
theorem b8_add4 {x y z u : Int} (hx : 0 ≤ x ∧ x < 256) (hy : 0 ≤ y ∧ y < 256) (hz : 0 ≤ z ∧ z < 256) (hu : 0 ≤ u ∧ u < 256) : b8 (x + y * 256 + z * 65536 + u * 16777216) 0 = x ∧ b8 (x + y * 256 + z * 65536 + u * 16777216) 1 = y ∧ b8 (x + y * 256 + z * 65536 + u * 16777216) 2 = z ∧ b8 (x + y * 256 + z * 65536 + u * 16777216) 3 = u := by simp only [b8]; omega

theorem bytesL_len (e : Ev) (h1 : 1 ≤ e.k) (h2 : e.k ≤ 14) : (bytesL e).length = many e.k := by
  obtain ⟨g, k, f, p, ad, ch, ob, n, tr⟩ := e
  simp only at h1 h2
  rcases kinds h1 h2 with rfl | rfl | rfl | rfl | rfl | rfl | rfl | rfl | rfl | rfl | rfl | rfl | rfl | rfl <;> rfl
/-- What was read, as bytes. -/
theorem bytes_rd {k : Int} (h1 : 1 ≤ k) (h2 : k ≤ 14) {g : Nat → Int} (h0 : g 0 = k) {n : Nat} (hn : many k ≤ n) (hb : ∀ i, i < n → 0 ≤ g i ∧ g i < 256) : ∀ i, i < many k → (bytesL (rdE k g)).getD i 0 = g i := by
  have B : ∀ i, i < many k → 0 ≤ g i ∧ g i < 256 := fun i hi => hb i (by omega)
  have h6 : 6 ≤ many k := by rcases kinds h1 h2 with rfl | rfl | rfl | rfl | rfl | rfl | rfl | rfl | rfl | rfl | rfl | rfl | rfl | rfl <;> decide
  have b1 := B 1 (by omega); have b2 := B 2 (by omega); have b3 := B 3 (by omega); have b4 := B 4 (by omega); have b5 := B 5 (by omega)
  have e0 : b8 k 0 = g 0 := by rw [h0]; exact b8_byte ⟨by omega, by omega⟩
  have e12 : b8 (leN (fun i => g (1 + i)) 2) 0 = g 1 ∧ b8 (leN (fun i => g (1 + i)) 2) 1 = g 2 := by rw [le2]; exact b8_add2 b1 b2
  have e3 : b8 (leN (fun i => g (3 + i)) 1) 0 = g 3 := by rw [le1]; exact b8_byte b3
  have e45 : b8 (leN (fun i => g (4 + i)) 2) 0 = g 4 ∧ b8 (leN (fun i => g (4 + i)) 2) 1 = g 5 := by rw [le2]; exact b8_add2 b4 b5
  have hd : ∀ l : List Int, ∀ i, i < 6 → (([b8 k 0, b8 (leN (fun i => g (1 + i)) 2) 0, b8 (leN (fun i => g (1 + i)) 2) 1, b8 (leN (fun i => g (3 + i)) 1) 0, b8 (leN (fun i => g (4 + i)) 2) 0, b8 (leN (fun i => g (4 + i)) 2) 1] : List Int) ++ l).getD i 0 = g i := fun l i hi => by
    rw [e0, e12.1, e12.2, e3, e45.1, e45.2]
    rcases i with _ | _ | _ | _ | _ | _ | i
    · rfl
    · rfl
    · rfl
    · rfl
    · rfl
    · rfl
    · omega
  intro i hi
  by_cases hi6 : i < 6
  · exact hd _ i hi6
  obtain ⟨j, rfl⟩ : ∃ j, i = 6 + j := ⟨i - 6, by omega⟩
  have tail : ∀ l : List Int, (([b8 k 0, b8 (leN (fun i => g (1 + i)) 2) 0, b8 (leN (fun i => g (1 + i)) 2) 1, b8 (leN (fun i => g (3 + i)) 1) 0, b8 (leN (fun i => g (4 + i)) 2) 0, b8 (leN (fun i => g (4 + i)) 2) 1] : List Int) ++ l).getD (6 + j) 0 = l.getD j 0 := fun l => by rw [Nat.add_comm 6 j]; rfl
  refine (tail _).trans ?_
  have w32 : ∀ z, 0 ≤ z → z < 4294967296 → IntKind.u32.wrap z = z := fun z h h' => by rw [IntKind.wrap_u32]; omega
  have k4 : ∀ o, o + 4 = many k → IntKind.u32.wrap (leN (fun i => g (o + i)) 4) = g o + g (o + 1) * 256 + g (o + 2) * 65536 + g (o + 3) * 16777216 := fun o ho => by
    have := B o (by omega); have := B (o + 1) (by omega); have := B (o + 2) (by omega); have := B (o + 3) (by omega)
    rw [le4]
    exact w32 _ (by simp only [Nat.add_zero]; omega) (by simp only [Nat.add_zero]; omega)
  rcases kinds h1 h2 with rfl | rfl | rfl | rfl | rfl | rfl | rfl | rfl | rfl | rfl | rfl | rfl | rfl | rfl
  · exact absurd hi (by show ¬ (6 + j < 6); omega)
  · have c := b8_add4 (B 6 (by decide)) (B 7 (by decide)) (B 8 (by decide)) (B 9 (by decide))
    show ([b8 (IntKind.u32.wrap (leN (fun i => g (6 + i)) 4)) 0, b8 (IntKind.u32.wrap (leN (fun i => g (6 + i)) 4)) 1, b8 (IntKind.u32.wrap (leN (fun i => g (6 + i)) 4)) 2, b8 (IntKind.u32.wrap (leN (fun i => g (6 + i)) 4)) 3] : List Int).getD j 0 = _
    rw [k4 6 rfl, c.1, c.2.1, c.2.2.1, c.2.2.2]
    rcases j with _ | _ | _ | _ | j
    · rfl
    · rfl
    · rfl
    · rfl
    · exact absurd hi (by show ¬ (6 + (j + 1 + 1 + 1 + 1) < 10); omega)
  · have c := b8_add4 (B 6 (by decide)) (B 7 (by decide)) (B 8 (by decide)) (B 9 (by decide))
    show ([b8 (IntKind.u32.wrap (leN (fun i => g (6 + i)) 4)) 0, b8 (IntKind.u32.wrap (leN (fun i => g (6 + i)) 4)) 1, b8 (IntKind.u32.wrap (leN (fun i => g (6 + i)) 4)) 2, b8 (IntKind.u32.wrap (leN (fun i => g (6 + i)) 4)) 3] : List Int).getD j 0 = _
    rw [k4 6 rfl, c.1, c.2.1, c.2.2.1, c.2.2.2]
    rcases j with _ | _ | _ | _ | j
    · rfl
    · rfl
    · rfl
    · rfl
    · exact absurd hi (by show ¬ (6 + (j + 1 + 1 + 1 + 1) < 10); omega)
  · have c := b8_add2 (B 6 (by decide)) (B 7 (by decide))
    show ([b8 (leN (fun i => g (6 + i)) 2) 0, b8 (leN (fun i => g (6 + i)) 2) 1] : List Int).getD j 0 = _
    rw [le2, c.1, c.2]
    rcases j with _ | _ | j
    · rfl
    · rfl
    · exact absurd hi (by show ¬ (6 + (j + 1 + 1) < 8); omega)
  case inr.inr.inr.inr.inr.inr.inr.inr.inr.inr.inl =>
    have c := b8_byte (B 6 (by decide))
    have d := b8_add4 (B 7 (by decide)) (B 8 (by decide)) (B 9 (by decide)) (B 10 (by decide))
    have d' : ∀ i, i < 4 → b8 (IntKind.i64.wrap (IntKind.i32.wrap (IntKind.u32.wrap (leN (fun i => g (7 + i)) 4)))) i = b8 (g 7 + g 8 * 256 + g 9 * 65536 + g 10 * 16777216) i := fun i hi => by
      rw [k4 7 rfl]
      have := B 7 (by decide); have := B 8 (by decide); have := B 9 (by decide); have := B 10 (by decide)
      simp only [Nat.reduceAdd]
      rw [IntKind.wrap_i64, IntKind.wrap_i32]
      rcases i with _ | _ | _ | _ | i
      · simp only [b8]; omega
      · simp only [b8]; omega
      · simp only [b8]; omega
      · simp only [b8]; omega
      · omega
    show ([b8 (leN (fun i => g (6 + i)) 1) 0, b8 (IntKind.i64.wrap (IntKind.i32.wrap (IntKind.u32.wrap (leN (fun i => g (7 + i)) 4)))) 0, b8 (IntKind.i64.wrap (IntKind.i32.wrap (IntKind.u32.wrap (leN (fun i => g (7 + i)) 4)))) 1, b8 (IntKind.i64.wrap (IntKind.i32.wrap (IntKind.u32.wrap (leN (fun i => g (7 + i)) 4)))) 2, b8 (IntKind.i64.wrap (IntKind.i32.wrap (IntKind.u32.wrap (leN (fun i => g (7 + i)) 4)))) 3] : List Int).getD j 0 = _
    rw [d' 0 (by decide), d' 1 (by decide), d' 2 (by decide), d' 3 (by decide), d.1, d.2.1, d.2.2.1, d.2.2.2, le1, c]
    rcases j with _ | _ | _ | _ | _ | j
    · rfl
    · rfl
    · rfl
    · rfl
    · rfl
    · exact absurd hi (by show ¬ (6 + (j + 1 + 1 + 1 + 1 + 1) < 11); omega)
  case inr.inr.inr.inr.inr.inr.inr.inr.inr.inr.inr.inr.inl => exact absurd hi (by show ¬ (6 + j < 6); omega)
  all_goals
    have c := b8_byte (B 6 (by decide))
    show ([b8 (leN (fun i => g (6 + i)) 1) 0] : List Int).getD j 0 = _
    rw [le1, c]
    rcases j with _ | j
    · rfl
    · exact absurd hi (by show ¬ (6 + (j + 1) < 7); omega)

/-- An event's bytes, read. -/
theorem rd_bytes {e : Ev} (ht : EvT e) (ho : evOk e = true) {g : Nat → Int} (hg : ∀ i, i < (bytesL e).length → g i = (bytesL e).getD i 0) : g 0 = e.k ∧ rdE e.k g = e := by
  have z := evOk_Z ho
  have had := ht.ad
  obtain ⟨zk, zg, zf, zp, zad, zch, zob, zn, ztr, zch4, zobB, znB, ztr14⟩ := z
  obtain ⟨eg, k, f, p, ad, ch, ob, n, tr⟩ := e
  simp only at zk zg zf zp zad zch zob zn ztr zch4 zobB znB ztr14 had
  have hl := bytesL_len ⟨eg, k, f, p, ad, ch, ob, n, tr⟩ zk.1 zk.2
  have G : ∀ i, i < many k → g i = (bytesL ⟨eg, k, f, p, ad, ch, ob, n, tr⟩).getD i 0 := fun i hi => hg i (by rw [hl]; exact hi)
  have h6 : 6 ≤ many k := by rcases kinds zk.1 zk.2 with rfl | rfl | rfl | rfl | rfl | rfl | rfl | rfl | rfl | rfl | rfl | rfl | rfl | rfl <;> decide
  have g0 : g 0 = b8 k 0 := G 0 (by omega)
  have g1 : g 1 = b8 eg 0 := G 1 (by omega)
  have g2 : g 2 = b8 eg 1 := G 2 (by omega)
  have g3 : g 3 = b8 f 0 := G 3 (by omega)
  have g4 : g 4 = b8 p 0 := G 4 (by omega)
  have g5 : g 5 = b8 p 1 := G 5 (by omega)
  have ek : g 0 = k := by rw [g0]; exact b8_byte ⟨by omega, by omega⟩
  refine ⟨ek, ?_⟩
  have e2 : ∀ z, 0 ≤ z ∧ z < 65536 → b8 z 0 + b8 z 1 * 256 = z := fun z hz => by simp only [b8]; omega
  have eG : leN (fun i => g (1 + i)) 2 = eg := by rw [le2]; show g 1 + g 2 * 256 = eg; rw [g1, g2, e2 eg zg]
  have eF : leN (fun i => g (3 + i)) 1 = f := by rw [le1]; show g 3 = f; rw [g3, b8_byte zf]
  have eP : leN (fun i => g (4 + i)) 2 = p := by rw [le2]; show g 4 + g 5 * 256 = p; rw [g4, g5, e2 p zp]
  unfold rdE
  simp only
  rw [eG, eF, eP]
  have fin : ∀ {a a' b b' c c' d d' t t' : Int}, a = a' → b = b' → c = c' → d = d' → t = t' → (⟨eg, k, f, p, a, b, c, d, t⟩ : Ev) = ⟨eg, k, f, p, a', b', c', d', t'⟩ := by rintro _ _ _ _ _ _ _ _ _ _ rfl rfl rfl rfl rfl; rfl
  have A : k = 2 ∨ k = 3 → IntKind.u32.wrap (leN (fun i => g (6 + i)) 4) = ad := fun h => by
    have r : g 6 = b8 ad 0 ∧ g 7 = b8 ad 1 ∧ g 8 = b8 ad 2 ∧ g 9 = b8 ad 3 := by
      rcases h with rfl | rfl <;> exact ⟨G 6 (by decide), G 7 (by decide), G 8 (by decide), G 9 (by decide)⟩
    rw [le4]
    show IntKind.u32.wrap (g 6 + g 7 * 256 + g 8 * 65536 + g 9 * 16777216) = ad
    rw [r.1, r.2.1, r.2.2.1, r.2.2.2, IntKind.wrap_u32]
    simp only [b8]; omega
  have C : k = 4 → leN (fun i => g (6 + i)) 2 = ch := fun h => by
    have hc := zch4 h
    have r : g 6 = b8 ch 0 ∧ g 7 = b8 ch 1 := by
      subst h; exact ⟨G 6 (by decide), G 7 (by decide)⟩
    rw [le2]; show g 6 + g 7 * 256 = ch
    rw [r.1, r.2, e2 ch hc]
  have O : 5 ≤ k ∧ k ≤ 12 → leN (fun i => g (6 + i)) 1 = ob := fun h => by
    have r : g 6 = b8 ob 0 := by
      obtain rfl | rfl | rfl | rfl | rfl | rfl | rfl | rfl : k = 5 ∨ k = 6 ∨ k = 7 ∨ k = 8 ∨ k = 9 ∨ k = 10 ∨ k = 11 ∨ k = 12 := by omega
      all_goals exact G 6 (by decide)
    rw [le1]; show g 6 = ob
    rw [r, b8_byte zobB]
  have N : k = 11 → IntKind.i64.wrap (IntKind.i32.wrap (IntKind.u32.wrap (leN (fun i => g (7 + i)) 4))) = n := fun h => by
    have r : g 7 = b8 n 0 ∧ g 8 = b8 n 1 ∧ g 9 = b8 n 2 ∧ g 10 = b8 n 3 := by
      subst h; exact ⟨G 7 (by decide), G 8 (by decide), G 9 (by decide), G 10 (by decide)⟩
    rw [le4]
    show IntKind.i64.wrap (IntKind.i32.wrap (IntKind.u32.wrap (g 7 + g 8 * 256 + g 9 * 65536 + g 10 * 16777216))) = n
    rw [r.1, r.2.1, r.2.2.1, r.2.2.2, IntKind.wrap_i64, IntKind.wrap_i32, IntKind.wrap_u32]
    simp only [b8]; omega
  have R : k = 14 → leN (fun i => g (6 + i)) 1 = tr := fun h => by
    have hr := ztr14 h
    have r : g 6 = b8 tr 0 := by
      subst h; exact G 6 (by decide)
    rw [le1]; show g 6 = tr
    rw [r, b8_byte ⟨by omega, by omega⟩]
  refine fin ?_ ?_ ?_ ?_ ?_
  · split
    · rename_i h; exact A h
    · rename_i h; exact (zad (fun e => h (.inl e)) (fun e => h (.inr e))).symm
  · split
    · rename_i h; exact C h
    · rename_i h; exact (zch h).symm
  · split
    · rename_i h; exact O h
    · rename_i h; exact (zob (by omega)).symm
  · split
    · rename_i h; exact N h
    · rename_i h; exact (zn h).symm
  · split
    · rename_i h; exact R h
    · rename_i h; exact (ztr h).symm
end Go.Proofs.YtiibmnoikgfcbaaDoor
