/- No two events that may be have the same bytes. No condition but that they may be. -/
import Derived.Test.YtiibmnoikgfcbaaDoorW1
namespace Go.Proofs.YtiibmnoikgfcbaaDoor
open Go Go.Sx Go.RowKit
set_option maxRecDepth 100000
set_option maxHeartbeats 1000000
set_option linter.unusedVariables false
set_option linter.unusedSimpArgs false

theorem mkT_toList (l : List UInt8) : (mkT l).toList = l := by rw [ByteArray.toList_eq]; simp [mkT]
theorem toList_inj {a b : ByteArray} (h : a.toList = b.toList) : a = b := by
  rw [ByteArray.toList_eq, ByteArray.toList_eq] at h
  exact ByteArray.ext (Array.toList_inj.1 h)
def u8 (z : Int) : UInt8 := UInt8.ofNat z.toNat
theorem u8_inj {x y : Int} (hx : 0 ≤ x ∧ x < 256) (hy : 0 ≤ y ∧ y < 256) (h : u8 x = u8 y) : x = y := by
  have h := congrArg UInt8.toNat h
  simp only [u8, UInt8.toNat_ofNat'] at h
  omega
theorem map_u8_inj : ∀ {l l' : List Int}, (∀ z ∈ l, 0 ≤ z ∧ z < 256) → (∀ z ∈ l', 0 ≤ z ∧ z < 256) → l.map u8 = l'.map u8 → l = l'
  | [], [], _, _, _ => rfl
  | [], _ :: _, _, _, h => by cases h
  | _ :: _, [], _, _, h => by cases h
  | x :: l, y :: l', h1, h2, h => by
    simp only [List.map_cons, List.cons.injEq] at h
    rw [u8_inj (h1 x (List.mem_cons_self ..)) (h2 y (List.mem_cons_self ..)) h.1, map_u8_inj (fun z hz => h1 z (List.mem_cons_of_mem _ hz)) (fun z hz => h2 z (List.mem_cons_of_mem _ hz)) h.2]
theorem bytesOf_rowS (l : List Int) : (bytesOf l.length (rowS l)).toList = l.map u8 := by
  rw [ByteArray.toList_eq]
  show ((List.range l.length).map fun i => byteAt (rowS l i)).toArray.toList = _
  rw [List.toList_toArray]
  apply List.ext_getElem
  · simp
  · intro i h1 h2
    simp at h1
    simp [rowS, byteAt, u8, h1]

theorem b8_2 {x y : Int} (hx : 0 ≤ x ∧ x < 65536) (hy : 0 ≤ y ∧ y < 65536) (h0 : b8 x 0 = b8 y 0) (h1 : b8 x 1 = b8 y 1) : x = y := by
  simp only [b8] at h0 h1
  omega
theorem b8_1 {x y : Int} (hx : 0 ≤ x ∧ x < 256) (hy : 0 ≤ y ∧ y < 256) (h0 : b8 x 0 = b8 y 0) : x = y := by
  simp only [b8] at h0
  omega
theorem b8_4 {x y : Int} (hx : 0 ≤ x ∧ x < 4294967296) (hy : 0 ≤ y ∧ y < 4294967296) (h0 : b8 x 0 = b8 y 0) (h1 : b8 x 1 = b8 y 1) (h2 : b8 x 2 = b8 y 2) (h3 : b8 x 3 = b8 y 3) : x = y := by
  simp only [b8] at h0 h1 h2 h3
  omega
theorem b8_n {x y : Int} (hx : -2147483648 ≤ x ∧ x ≤ 2147483647) (hy : -2147483648 ≤ y ∧ y ≤ 2147483647) (h0 : b8 x 0 = b8 y 0) (h1 : b8 x 1 = b8 y 1) (h2 : b8 x 2 = b8 y 2) (h3 : b8 x 3 = b8 y 3) : x = y := by
  simp only [b8] at h0 h1 h2 h3
  omega

/-- What an event that may be owes. -/
structure EvZ (e : Ev) : Prop where
  k : 1 ≤ e.k ∧ e.k ≤ 14
  g : 0 ≤ e.g ∧ e.g < 65536
  f : 0 ≤ e.f ∧ e.f < 256
  p : 0 ≤ e.p ∧ e.p < 65536
  ad : e.k ≠ 2 → e.k ≠ 3 → e.ad = 0
  ch : e.k ≠ 4 → e.ch = 0
  ob : (e.k < 5 ∨ 12 < e.k) → e.ob = 0
  n : e.k ≠ 11 → e.n = 0
  tr : e.k ≠ 14 → e.tr = 0
  ch4 : e.k = 4 → 0 ≤ e.ch ∧ e.ch < 65536
  obB : 0 ≤ e.ob ∧ e.ob < 256
  nB : -2147483648 ≤ e.n ∧ e.n ≤ 2147483647
  tr14 : e.k = 14 → 1 ≤ e.tr ∧ e.tr ≤ 6
theorem evOk_Z {e : Ev} (h : evOk e = true) : EvZ e := by
  have hs := site_lt (evOk_site h)
  simp only [evOk, Bool.and_eq_true, decide_eq_true_eq] at h
  obtain ⟨⟨h1, h2, h3, h4⟩, h5, h6, h7, h8, h9, h10, h11, h12, h13, h14, h15, h16⟩ := h
  exact ⟨⟨h1, h2⟩, ⟨h3, by omega⟩, ⟨hs.1, by omega⟩, ⟨hs.2.2.1, by omega⟩, h6, h7, h8, h9, h10, fun hk => ⟨by have := (h11 hk).1; omega, by have := (h11 hk).2.1; omega⟩, ⟨h12, by omega⟩, ⟨h14, h15⟩, h16⟩
theorem bytesL_inj {a b : Ev} (za : EvZ a) (zb : EvZ b) (ada : 0 ≤ a.ad ∧ a.ad < 4294967296) (adb : 0 ≤ b.ad ∧ b.ad < 4294967296) (h : bytesL a = bytesL b) : a = b := by
  obtain ⟨g, k, f, p, ad, ch, ob, n, tr⟩ := a
  obtain ⟨g', k', f', p', ad', ch', ob', n', tr'⟩ := b
  simp only [bytesL, headI, List.cons_append, List.nil_append, List.cons.injEq] at h
  obtain ⟨h1, h2, h3, h4, h5, h6, h7⟩ := h
  have ek : k = k' := b8_1 ⟨by have := za.k.1; simp only at this; omega, by have := za.k.2; simp only at this; omega⟩ ⟨by have := zb.k.1; simp only at this; omega, by have := zb.k.2; simp only at this; omega⟩ h1
  subst ek
  have eg : g = g' := b8_2 za.g zb.g h2 h3
  have ef : f = f' := b8_1 za.f zb.f h4
  have ep : p = p' := b8_2 za.p zb.p h5 h6
  subst eg ef ep
  have A := za.ad; have A' := zb.ad; have C := za.ch; have C' := zb.ch; have O := za.ob; have O' := zb.ob
  have N := za.n; have N' := zb.n; have R := za.tr; have R' := zb.tr
  have C4 := za.ch4; have C4' := zb.ch4; have OB := za.obB; have OB' := zb.obB; have NB := za.nB; have NB' := zb.nB; have R4 := za.tr14; have R4' := zb.tr14
  have K := za.k
  simp only at A A' C C' O O' N N' R R' C4 C4' OB OB' NB NB' R4 R4' K ada adb
  simp only [partI] at h7
  have fin : ad = ad' ∧ ch = ch' ∧ ob = ob' ∧ n = n' ∧ tr = tr' := by
    split at h7
    · rename_i hk
      simp only [List.cons.injEq] at h7
      have e := b8_4 ada adb h7.1 h7.2.1 h7.2.2.1 h7.2.2.2.1
      omega
    rename_i hk1
    split at h7
    · rename_i hk
      simp only [List.cons.injEq] at h7
      have e := b8_2 (C4 hk) (C4' hk) h7.1 h7.2.1
      omega
    rename_i hk2
    split at h7
    · rename_i hk
      simp only [List.cons.injEq] at h7
      have e := b8_1 OB OB' h7.1
      have e2 := b8_n NB NB' h7.2.1 h7.2.2.1 h7.2.2.2.1 h7.2.2.2.2.1
      omega
    rename_i hk3
    split at h7
    · rename_i hk
      simp only [List.cons.injEq] at h7
      have e := b8_1 OB OB' h7.1
      omega
    rename_i hk4
    split at h7
    · rename_i hk
      simp only [List.cons.injEq] at h7
      have t := R4 hk
      have t' := R4' hk
      have e := b8_1 (x := tr) (y := tr') (by omega) (by omega) h7.1
      omega
    · omega
  obtain ⟨rfl, rfl, rfl, rfl, rfl⟩ := fin
  rfl
def sameB (a b : Ev) : Bool := a.g == b.g && (a.k == b.k && (a.f == b.f && (a.p == b.p && (a.ad == b.ad && (a.ch == b.ch && (a.ob == b.ob && (a.n == b.n && (a.tr == b.tr && true))))))))
theorem sameB_iff (a b : Ev) : sameB a b = true ↔ a = b := by
  obtain ⟨g, k, f, p, ad, ch, ob, n, tr⟩ := a
  obtain ⟨g', k', f', p', ad', ch', ob', n', tr'⟩ := b
  simp [sameB]
theorem bytes_same {a b : Ev} (ha : EvT a) (hb : EvT b) (oa : evOk a = true) (ob : evOk b = true) : ((bytesOf (bytesA a).length (rowS (bytesA a))).toList == (bytesOf (bytesA b).length (rowS (bytesA b))).toList) = sameB a b := by
  rw [Bool.eq_iff_iff, beq_iff_eq, sameB_iff, bytesOf_rowS, bytesOf_rowS]
  constructor
  · intro h
    rw [show bytesA a = bytesL a by simp [bytesA, oa], show bytesA b = bytesL b by simp [bytesA, ob]] at h
    exact bytesL_inj (evOk_Z oa) (evOk_Z ob) ⟨ha.ad.1, by have := ha.ad.2; omega⟩ ⟨hb.ad.1, by have := hb.ad.2; omega⟩ (map_u8_inj (bytesL_lt a) (bytesL_lt b) h)
  · intro h; rw [h]
end Go.Proofs.YtiibmnoikgfcbaaDoor
