/- No two events that may be have the same text. No condition but that they may be. -/
import Derived.Test.YtiibmnoikgfcbaaDoorM1
namespace Go.Proofs.YtiibmnoikgfcbaaDoor
open Go Go.Sx Go.RowKit
set_option maxRecDepth 100000
set_option maxHeartbeats 1000000
set_option linter.unusedVariables false
set_option linter.unusedSimpArgs false

theorem dec_chars : ∀ (u : Nat), ∀ c ∈ Lib.decDigits u, 48 ≤ c.toNat ∧ c.toNat ≤ 57 := fun u => by
  induction u using Nat.strongRecOn with
  | _ u ih =>
    intro c hc
    rw [Lib.decDigits] at hc
    split at hc
    · simp only [List.mem_singleton] at hc
      subst hc
      simp only [UInt8.toNat_ofNat']
      omega
    · simp only [List.mem_append, List.mem_singleton] at hc
      rcases hc with hc | rfl
      · exact ih (u / 10) (by omega) c hc
      · simp only [UInt8.toNat_ofNat']
        omega
def decVal (l : List UInt8) : Nat := l.foldl (fun a c => 10 * a + (c.toNat - 48)) 0
theorem decVal_snoc (l : List UInt8) (c : UInt8) : decVal (l ++ [c]) = 10 * decVal l + (c.toNat - 48) := by simp [decVal, List.foldl_append]
theorem decVal_dec : ∀ (u : Nat), decVal (Lib.decDigits u) = u := fun u => by
  induction u using Nat.strongRecOn with
  | _ u ih =>
    rw [Lib.decDigits]
    split
    · simp only [decVal, List.foldl_cons, List.foldl_nil, UInt8.toNat_ofNat']
      omega
    · rw [decVal_snoc, ih (u / 10) (by omega)]
      simp only [UInt8.toNat_ofNat']
      omega
theorem dec_inj {u v : Nat} (h : Lib.decDigits u = Lib.decDigits v) : u = v := by
  rw [← decVal_dec u, h, decVal_dec]
theorem itoa_chars (z : Int) : ∀ c ∈ Lib.itoa z, c ≠ 32 ∧ c ≠ 58 := by
  intro c hc
  have key : ∀ u, c ∈ Lib.decDigits u → c ≠ 32 ∧ c ≠ 58 := fun u h => by
    have := dec_chars u c h
    constructor
    · rintro rfl; exact absurd this.1 (by decide)
    · rintro rfl; exact absurd this.2 (by decide)
  unfold Lib.itoa at hc
  split at hc
  · rcases List.mem_cons.1 hc with rfl | hc
    · decide
    · exact key _ hc
  · exact key _ hc
theorem dec_head {u : Nat} {r : List UInt8} : Lib.decDigits u ≠ 45 :: r := fun h => by
  have := dec_chars u 45 (by rw [h]; exact List.mem_cons_self ..)
  exact absurd this.1 (by decide)
theorem itoa_inj {m n : Int} (h : Lib.itoa m = Lib.itoa n) : m = n := by
  unfold Lib.itoa at h
  split at h
  · split at h
    · simp only [List.cons.injEq, true_and] at h
      have := dec_inj h
      omega
    · exact absurd h.symm dec_head
  · split at h
    · exact absurd h dec_head
    · have := dec_inj h
      omega

theorem split_at : ∀ {a a' r r' : List UInt8} {c : UInt8}, c ∉ a → c ∉ a' → a ++ c :: r = a' ++ c :: r' → a = a' ∧ r = r'
  | [], [], r, r', c, _, _, h => by simpa using h
  | [], x :: a', r, r', c, _, h2, h => by
    simp only [List.nil_append, List.cons_append, List.cons.injEq] at h
    exact absurd (by rw [h.1]; exact List.mem_cons_self ..) h2
  | x :: a, [], r, r', c, h1, _, h => by
    simp only [List.nil_append, List.cons_append, List.cons.injEq] at h
    exact absurd (by rw [← h.1]; exact List.mem_cons_self ..) h1
  | x :: a, y :: a', r, r', c, h1, h2, h => by
    simp only [List.cons_append, List.cons.injEq] at h
    obtain ⟨e1, e2⟩ := split_at (fun hm => h1 (List.mem_cons_of_mem _ hm)) (fun hm => h2 (List.mem_cons_of_mem _ hm)) h.2
    exact ⟨by rw [h.1, e1], e2⟩
def TailLike (t : List UInt8) : Prop := t = [] ∨ ∃ r, t = 32 :: r
theorem split_end : ∀ {a a' t t' : List UInt8}, (32 : UInt8) ∉ a → (32 : UInt8) ∉ a' → TailLike t → TailLike t' → a ++ t = a' ++ t' → a = a' ∧ t = t'
  | [], [], t, t', _, _, _, _, h => ⟨rfl, by simpa using h⟩
  | [], x :: a', t, t', _, h2, ht, _, h => by
    rcases ht with rfl | ⟨r, rfl⟩
    · simp at h
    · simp only [List.nil_append, List.cons_append, List.cons.injEq] at h
      exact absurd (by rw [h.1]; exact List.mem_cons_self ..) h2
  | x :: a, [], t, t', h1, _, _, ht, h => by
    rcases ht with rfl | ⟨r, rfl⟩
    · simp at h
    · simp only [List.nil_append, List.cons_append, List.cons.injEq] at h
      exact absurd (by rw [← h.1]; exact List.mem_cons_self ..) h1
  | x :: a, y :: a', t, t', h1, h2, ht, ht', h => by
    simp only [List.cons_append, List.cons.injEq] at h
    obtain ⟨e1, e2⟩ := split_end (fun hm => h1 (List.mem_cons_of_mem _ hm)) (fun hm => h2 (List.mem_cons_of_mem _ hm)) ht ht' h.2
    exact ⟨by rw [h.1, e1], e2⟩

theorem itoa_no32 (z : Int) : (32 : UInt8) ∉ Lib.itoa z := fun h => (itoa_chars z _ h).1 rfl
theorem itoa_no58 (z : Int) : (58 : UInt8) ∉ Lib.itoa z := fun h => (itoa_chars z _ h).2 rfl
theorem site_no32 (f p : Int) : (32 : UInt8) ∉ siteT f p := by
  intro h
  simp only [siteT, List.mem_cons, List.mem_append] at h
  rcases h with h | h | h | h
  · exact absurd h (by decide)
  · exact itoa_no32 f h
  · exact absurd h (by decide)
  · exact itoa_no32 p h
theorem site_inj {f p f' p' : Int} (h : siteT f p = siteT f' p') : f = f' ∧ p = p' := by
  simp only [siteT, List.cons.injEq, true_and] at h
  obtain ⟨h1, h2⟩ := split_at (itoa_no58 f) (itoa_no58 f') h
  exact ⟨itoa_inj h1, itoa_inj h2⟩
theorem words_inj : ∀ i j : Fin 15, wordsL[i.val]! = wordsL[j.val]! → i = j := by decide
theorem words_no32 : ∀ i : Fin 15, (32 : UInt8) ∉ wordsL[i.val]! := by decide
theorem traps_inj : ∀ i j : Fin 7, trapsL[i.val]! = trapsL[j.val]! → i = j := by decide
theorem tail_like (e : Ev) : TailLike (tailL e) := by
  unfold tailL
  split
  · exact .inr ⟨_, rfl⟩
  split
  · exact .inr ⟨_, rfl⟩
  split
  · exact .inr ⟨_, rfl⟩
  split
  · exact .inr ⟨_, rfl⟩
  split
  · exact .inr ⟨_, rfl⟩
  · exact .inl rfl
theorem textL_inj {a b : Ev} (za : EvZ a) (zb : EvZ b) (h : textL a = textL b) : a = b := by
  obtain ⟨g, k, f, p, ad, ch, ob, n, tr⟩ := a
  obtain ⟨g', k', f', p', ad', ch', ob', n', tr'⟩ := b
  simp only [textL] at h
  obtain ⟨h1, h⟩ := split_at (itoa_no32 g) (itoa_no32 g') h
  obtain ⟨h2, h⟩ := split_at (site_no32 f p) (site_no32 f' p') h
  have K := za.k; have K' := zb.k
  simp only at K K'
  obtain ⟨h3, h7⟩ := split_end (words_no32 ⟨k.toNat, by omega⟩) (words_no32 ⟨k'.toNat, by omega⟩) (tail_like _) (tail_like _) h
  have ek : k = k' := by
    have := congrArg Fin.val (words_inj ⟨k.toNat, by omega⟩ ⟨k'.toNat, by omega⟩ h3)
    simp only at this
    omega
  subst ek
  have eg := itoa_inj h1
  obtain ⟨ef, ep⟩ := site_inj h2
  subst eg ef ep
  have A := za.ad; have A' := zb.ad; have C := za.ch; have C' := zb.ch; have O := za.ob; have O' := zb.ob
  have N := za.n; have N' := zb.n; have R := za.tr; have R' := zb.tr
  have R4 := za.tr14; have R4' := zb.tr14
  simp only at A A' C C' O O' N N' R R' R4 R4'
  simp only [tailL] at h7
  have fin : ad = ad' ∧ ch = ch' ∧ ob = ob' ∧ n = n' ∧ tr = tr' := by
    split at h7
    · rename_i hk
      have e := itoa_inj (List.cons.inj h7).2
      omega
    rename_i hk1
    split at h7
    · rename_i hk
      have e := itoa_inj (List.cons.inj h7).2
      omega
    rename_i hk2
    split at h7
    · rename_i hk
      obtain ⟨e1, e2⟩ := split_at (itoa_no32 ob) (itoa_no32 ob') (List.cons.inj h7).2
      have e1 := itoa_inj e1
      have e2 := itoa_inj e2
      omega
    rename_i hk3
    split at h7
    · rename_i hk
      have e := itoa_inj (List.cons.inj h7).2
      omega
    rename_i hk4
    split at h7
    · rename_i hk
      have t := R4 hk
      have t' := R4' hk
      have e := congrArg Fin.val (traps_inj ⟨tr.toNat, by omega⟩ ⟨tr'.toNat, by omega⟩ (List.cons.inj h7).2)
      simp only at e
      omega
    · omega
  obtain ⟨rfl, rfl, rfl, rfl, rfl⟩ := fin
  rfl
theorem text_same {a b : Ev} (oa : evOk a = true) (ob : evOk b = true) : ((mkT (textA a)).toList == (mkT (textA b)).toList) = sameB a b := by
  rw [Bool.eq_iff_iff, beq_iff_eq, sameB_iff, mkT_toList, mkT_toList]
  constructor
  · intro h
    rw [show textA a = textL a by simp [textA, oa], show textA b = textL b by simp [textA, ob]] at h
    exact textL_inj (evOk_Z oa) (evOk_Z ob) h
  · intro h; rw [h]
end Go.Proofs.YtiibmnoikgfcbaaDoor
