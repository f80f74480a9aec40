/- The law EventBytes (function 3) answers true. The table of powers stands; the event's parts lie in their types; the bytes are bytes. -/
import Derived.Test.YtiibmnoikgfcbaaDoorL4
import Derived.Test.YtiibmnoikgfcbaaDoorR12
import Derived.Test.YtiibmnoikgfcbaaDoorM1
namespace Go.Proofs.YtiibmnoikgfcbaaDoor
open Go Go.Sx Go.RowKit
set_option maxRecDepth 100000
set_option maxHeartbeats 1000000
set_option linter.unusedVariables false
set_option linter.unusedSimpArgs false

theorem HS.startTR (w : World) (A : AO) (h : A.rep w (.blk 0)) {sz n : Nat} {get : Nat → List SV} {a : Option Addr} {c : Nat} (hc : n ≤ c) (hr : RowRep Vl.none w sz n get a) :
    HS ⟨w, fun _ => False, (Vl.none.upd 0 (.blk 0)).upd 1 (.rw a n c), []⟩ ((Vl.none.upd 0 (.blk 0)).upd 1 (.rw a n c)) [(0, .rd A), (1, .row sz n get)] 2 w := by
  have two : ∀ k o, lk k [(0, SO.rd A), (1, SO.row sz n get)] = some o → (k = 0 ∧ o = .rd A) ∨ (k = 1 ∧ o = .row sz n get) := fun k o hk => by
    by_cases e : k = 0
    · subst e; rw [lk_cons_same] at hk; cases hk; exact .inl ⟨rfl, rfl⟩
    · rw [lk_cons_other _ _ e] at hk
      by_cases e2 : k = 1
      · subst e2; rw [lk_cons_same] at hk; cases hk; exact .inr ⟨rfl, rfl⟩
      · rw [lk_cons_other _ _ e2] at hk; cases hk
  have nomine : ∀ k o, lk k [(0, SO.rd A), (1, SO.row sz n get)] = some o → o.mine = true → False := fun k o hk hm => by
    rcases two k o hk with ⟨_, rfl⟩ | ⟨_, rfl⟩ <;> cases hm
  refine { r := { hp := fun k o hk => ?_, dj := fun k k' o o' _ _ _ hk hk' _ _ hne hm => ?_, ow := fun k o _ _ hk hm => (nomine k o hk hm).elim, fr := Upd.refl _ _, ag := Vl.le_refl _ }, nx := fun k hk => by rw [Vl.upd_other _ _ (by omega), Vl.upd_other _ _ (by omega)]; rfl }
  · rcases two k o hk with ⟨rfl, rfl⟩ | ⟨rfl, rfl⟩
    · exact ⟨_, by rw [Vl.upd_other _ _ (by decide)]; exact Vl.upd_same _ _ _, h⟩
    · exact ⟨_, Vl.upd_same _ _ _, ⟨rfl, hc⟩, rowRep_mono (Vl.none_le _) hr⟩
  · first
      | exact (nomine k o hk hm).elim
      | exact (fun _ _ => nomine k o hk hm)
theorem calls_tabrow {P : Program} {tb : Tab} (hP : TabOk P tb) {f : FuncId} {fn : Func} {c : Code} (hf : P.funcs[f]? = some fn) (hb : fn.body = some c) (A : AO) {sz n : Nat} {get : Nat → List SV} {x : Value} (v : SV) {u : Value} (hd : shut v = some u) {m : Nat} (hnt : fn.ntmps = m) (hn : Nat.ble 2 m = true) (y : Value)
    (h : X P c ⟨argsT 0 [v, .r 1], [], [(0, .rd A), (1, .row sz n get)], 2, m⟩ (RetK tb fn.results.toList (fun v _ _ => shut v = some y) (fun _ _ _ => False))) (w : World) (hA : A.rep w (.blk 0)) (hx : RowV w sz n get x) :
    Calls P f #[u, x] w fun e w' => e = .returned y ∧ Below w.heap.size w w' := by
  obtain ⟨a, cc, rfl, hc, hr⟩ := hx.is
  exact enter_ok hP hf hb (HS.startTR w A hA hc hr) (vs := [v, .r 1]) (xs := [u, .slice a n cc]) (denL_mk (den_mono (Vl.none_le _) _ _ hd) (denL_mk (by simp only [den, Vl.upd_same]) rfl)) hnt hn h
    (fun ρ' v H' nx' y' w' hk hs hd' => by
      have := den_mono (Vl.none_le ρ') _ _ hk
      rw [hd'] at this
      cases this
      exact ⟨rfl, hs.fr.below⟩)
    (fun _ _ _ _ _ hk _ => hk.elim)

noncomputable def tabL7 (o1 o2 : SV) : Tab := mkTab tiRows eqL fnsL [] [] 20 [(8, sumWorks), (9, sumBytes), (10, sumRd o1 o2), (11, sumRd o1 o2), (12, sumNum), (13, sumRight), (14, sumRefBytes)]
theorem tabL7_ok (o1 o2 : SV) : TabOk Tryd.prog (tabL7 o1 o2) := mkTab_ok (by kernel_rfl) tiRows_ok eqL_ok fnsL_ok trivial ⟨sumWorks_ok, sumBytes_ok, sumRead_ok o1 o2, sumRefRead_ok o1 o2, sumNum_ok, sumRefRight_ok, sumRefBytes_ok, trivial⟩
def noS (c : Int) : SV := .tu [.ag noEv, .n .i64 0, .i .i64 c]
def yesS (e : Ev) (m : Nat) : SV := .tu [.ag (evS e), .n .i64 (.ofNat m), .n .i64 0]
def yesI (e : Ev) (m : Nat) : SV := .tu [.ag (evS e), .i .i64 (m : Int), .n .i64 0]
theorem cat_at (l : List Int) (X : Nat → List SV) (g : Nat → Int) (i : Nat) : catG (0 + l.length) (catG 0 X (rowS l)) (rowB g) i = [.i .u8 (if i < l.length then l.getD i 0 else g (i - l.length))] := by
  unfold catG
  rw [Nat.zero_add]
  by_cases h : i < l.length
  · rw [if_pos h, show Nat.blt i l.length = true from Nat.ble_eq_true_of_le h]
    rfl
  · rw [if_neg h, show Nat.blt i l.length = false from Bool.eq_false_iff.2 fun e => h (Nat.le_of_ble_eq_true e)]
    rfl
theorem back {a : Ev} (ha : EvT a) (ho : evOk a = true) {g : Nat → Int} {n : Nat} (hb : ∀ i, i < n → 0 ≤ g i ∧ g i < 256) (hn : n ≤ 60) (X : Nat → List SV) :
    BytesG (0 + (bytesA a).length + n) (catG (0 + (bytesA a).length) (catG 0 X (rowS (bytesA a))) (rowB g)) ∧ 0 + (bytesA a).length + n ≤ maxLen ∧
      shut (yesI a (bytesL a).length) = some (rdVal (0 + (bytesA a).length + n) (gI (catG (0 + (bytesA a).length) (catG 0 X (rowS (bytesA a))) (rowB g)))) := by
  have z := evOk_Z ho
  have eA : bytesA a = bytesL a := by simp [bytesA, ho]
  have hl := bytesL_len a z.k.1 z.k.2
  have h6 : 6 ≤ many a.k ∧ many a.k ≤ 11 := by rcases kinds z.k.1 z.k.2 with e | e | e | e | e | e | e | e | e | e | e | e | e | e <;> rw [e] <;> decide
  rw [eA]
  have hG : ∀ i, gI (catG (0 + (bytesL a).length) (catG 0 X (rowS (bytesL a))) (rowB g)) i = if i < (bytesL a).length then (bytesL a).getD i 0 else g (i - (bytesL a).length) := fun i => by
    unfold gI
    rw [cat_at]
    rfl
  refine ⟨fun i hi => ?_, Nat.le_trans (by omega) (show 71 ≤ maxLen by decide), ?_⟩
  · rw [cat_at]
    have hz : 0 ≤ (if i < (bytesL a).length then (bytesL a).getD i 0 else g (i - (bytesL a).length)) ∧ (if i < (bytesL a).length then (bytesL a).getD i 0 else g (i - (bytesL a).length)) < 256 := by
      split
      · rename_i h
        rw [List.getD_eq_getElem?_getD, List.getElem?_eq_getElem h]
        exact bytesL_lt a _ (List.getElem_mem h)
      · exact hb _ (by omega)
    generalize (if i < (bytesL a).length then (bytesL a).getD i 0 else g (i - (bytesL a).length)) = y at hz ⊢
    exact ⟨y.toNat, by omega, .inl (by congr 2; omega)⟩
  · generalize hg : gI (catG (0 + (bytesL a).length) (catG 0 X (rowS (bytesL a))) (rowB g)) = G at hG ⊢
    obtain ⟨e0, e1⟩ := rd_bytes ha ho (g := G) fun i hi => by rw [hG, if_pos hi]
    unfold rdVal
    rw [e0, e1, if_neg (by omega), if_neg (by have := z.k; omega), if_neg (by omega), ho]
    show some _ = some _
    unfold yesV
    rw [← hl]
    rfl
/-- The same bytes, from a row and from a list. -/
theorem row_str {e : Ev} (ho : evOk e = true) {m : Nat} (hl : (bytesL e).length = m) {g : Nat → Int} (hb : ∀ i, i < m → (bytesL e).getD i 0 = g i) : bytesOf (bytesA e).length (rowS (bytesA e)) = bytesOf m fun i => rowB g (0 + i) := by
  rw [show bytesA e = bytesL e by simp [bytesA, ho], hl]
  unfold bytesOf
  congr 1
  congr 1
  apply List.map_congr_left
  intro i hi
  rw [List.mem_range] at hi
  unfold byteAt
  show (match [SV.i IntKind.u8 ((bytesL e).getD i 0)] with | [.i .u8 z] => UInt8.ofNat z.toNat | [.n .u8 z] => UInt8.ofNat z.toNat | _ => 0) = _
  rw [hb i hi]
  show _ = (match rowB g (0 + i) with | [SV.i k x] => x.toNat.toUInt8 | [SV.n k x] => x.toNat.toUInt8 | x => 0)
  rw [Nat.zero_add]
  rfl
theorem law3_leaf {a : Ev} (h : evOk a = true) : shut (.b (bif bif bif bif (bytesOf (bytesA a).length (rowS (bytesA a))).toList == (bytesOf (bytesL a).length (rowS (bytesL a))).toList then IntKind.i64.wrap (arithI .add (bif evOk a then 0 else 2) (Int.ofNat 0)) == 0 else false then sameB a a else false then ((bytesL a).length : Int) == ((bytesA a).length : Int) else false then true else false)) = some (.bool true) := by
  have e1 : sameB a a = true := (sameB_iff a a).2 rfl
  have e2 : (IntKind.i64.wrap (arithI .add (bif true then 0 else 2) (Int.ofNat 0)) == 0) = true := by decide
  rw [show bytesA a = bytesL a by simp [bytesA, h], h, e1, e2, beq_self_eq_true, beq_self_eq_true]
  rfl
theorem law3_no (a : Ev) (ha : EvT a) (g : Nat → Int) (n : Nat) (hb : ∀ i, i < n → 0 ≤ g i ∧ g i < 256) (hm : n ≤ maxLen) (c : Int) (hc : c ≠ 0) (hv : rdVal n g = noV c) (x : Value) (w : World) (hA : powA.rep w (.blk 0)) (hx : RowV w 1 n (rowB g) x) : Calls Tryd.prog 3 #[evV a, x] w fun e w' => e = .returned (.bool true) ∧ Below w.heap.size w w' := by
  refine calls_tabrow (tabL7_ok (noS c) (yesI a (bytesL a).length)) Tryd.func3 rfl powA (.ag (evS a)) rfl Tryd.ntmps3 rfl _ (wpx_ok (tabL7_ok (noS c) (yesI a (bytesL a).length)) (CI_ok (tabL7_ok (noS c) (yesI a (bytesL a).length)) 5) _ ?_) w hA hx
  have hB := bytesG_rowB hb
  have hv1 : shut (noS c) = some (rdVal n (gI (rowB g))) := by
    show shut (noS c) = some (rdVal n g)
    rw [hv]; rfl
  conv => whnf
  refine And.intro (fun h => ?_) (fun h60 => ?_)
  · conv => whnf
    refine And.intro (by conv => whnf) ?_
    conv => whnf
    rfl
  conv => whnf
  refine And.intro (by (conv => whnf); exact ha) ?_
  conv => whnf
  refine And.intro (by (conv => whnf); exact ⟨trivial, hB, hm, hv1⟩) ?_
  conv => whnf
  refine And.intro (by (conv => whnf); exact ⟨trivial, hB, hm, hv1⟩) ?_
  conv => whnf
  refine And.intro (fun h => absurd h (by simp)) (fun h => ?_)
  conv => whnf
  refine And.intro (fun h => absurd (of_decide_eq_true h) hc) (fun h => ?_)
  conv => whnf
  refine And.intro (by (conv => whnf); exact ha) ?_
  conv => whnf
  refine And.intro (fun h => ?_) (fun h => ?_)
  · have h : (!evOk a) = true := h
    rw [Bool.not_eq_true'] at h
    conv => whnf
    refine And.intro (by (conv => whnf); exact fun _ => rfl) ?_
    conv => whnf
    refine ret_b ?_
    have e : bytesA a = [] := by simp [bytesA, h]
    show (bif bif (((bytesA a).length : Int) == 0) then ((bif evOk a then (0 : Int) else 2) == 2) else false then true else false) = true
    rw [e, h]
    rfl
  have h : (!evOk a) = false := h
  rw [Bool.not_eq_false'] at h
  have z := evOk_Z h
  have hlen : (bytesA a).length ≤ 11 := by
    rw [show bytesA a = bytesL a by simp [bytesA, h], bytesL_len a z.k.1 z.k.2]
    rcases kinds z.k.1 z.k.2 with e | e | e | e | e | e | e | e | e | e | e | e | e | e <;> rw [e] <;> decide
  have hn60 : ¬ (n : Int) > 60 := of_decide_eq_false h60
  have hL9 : (0 + (bytesA a).length) * 1 ≤ 9223372036854775807 ∧ (0 + (bytesA a).length) * 1 ≤ 140737488355328 := by omega
  have hL9n : (0 + (bytesA a).length + n) * 1 ≤ 9223372036854775807 ∧ (0 + (bytesA a).length + n) * 1 ≤ 140737488355328 := by omega
  have hO : OneG (bytesA a).length (rowS (bytesA a)) := fun i _ => rfl
  have hOb : OneG n (rowB g) := fun i _ => rfl
  conv => whnf
  refine And.intro (by (conv => whnf); exact ⟨trivial, hO, hL9⟩) ?_
  conv => whnf
  refine And.intro (by (conv => whnf); exact ⟨trivial, hOb, hL9n⟩) ?_
  conv => whnf
  refine And.intro (by (conv => whnf); exact ⟨trivial, back ha h hb (by omega) _⟩) ?_
  conv => whnf
  refine And.intro (by (conv => whnf); exact ⟨trivial, bytesG_A _⟩) ?_
  conv => whnf
  refine And.intro (by (conv => whnf); exact ⟨ha, h⟩) ?_
  conv => whnf
  refine And.intro (by (conv => whnf); exact ⟨trivial, bytesG_rowS (bytesL_lt a)⟩) ?_
  conv => whnf
  refine And.intro (by (conv => whnf); exact fun _ => rfl) ?_
  conv => whnf
  exact law3_leaf h
theorem law3_yes6 (a : Ev) (ha : EvT a) (g : Nat → Int) (n : Nat) (hb : ∀ i, i < n → 0 ≤ g i ∧ g i < 256) (hm : n ≤ maxLen) (e1 : Ev) (t1 : EvT e1) (o1 : evOk e1 = true) (hmn : 6 ≤ n) (hl1 : (bytesL e1).length = 6) (hb1 : ∀ i, i < 6 → (bytesL e1).getD i 0 = g i) (hv : rdVal n g = yesV e1 6) (x : Value) (w : World) (hA : powA.rep w (.blk 0)) (hx : RowV w 1 n (rowB g) x) : Calls Tryd.prog 3 #[evV a, x] w fun e w' => e = .returned (.bool true) ∧ Below w.heap.size w w' := by
  refine calls_tabrow (tabL7_ok (yesS e1 6) (yesI a (bytesL a).length)) Tryd.func3 rfl powA (.ag (evS a)) rfl Tryd.ntmps3 rfl _ (wpx_ok (tabL7_ok (yesS e1 6) (yesI a (bytesL a).length)) (CI_ok (tabL7_ok (yesS e1 6) (yesI a (bytesL a).length)) 5) _ ?_) w hA hx
  have hB := bytesG_rowB hb
  have hv1 : shut (yesS e1 6) = some (rdVal n (gI (rowB g))) := by
    show shut (yesS e1 6) = some (rdVal n g)
    rw [hv]; rfl
  conv => whnf
  refine And.intro (fun h => ?_) (fun h60 => ?_)
  · conv => whnf
    refine And.intro (by conv => whnf) ?_
    conv => whnf
    rfl
  conv => whnf
  refine And.intro (by (conv => whnf); exact ha) ?_
  conv => whnf
  refine And.intro (by (conv => whnf); exact ⟨trivial, hB, hm, hv1⟩) ?_
  conv => whnf
  refine And.intro (by (conv => whnf); exact ⟨trivial, hB, hm, hv1⟩) ?_
  conv => whnf
  refine And.intro (fun h => absurd h (by simp)) (fun h => ?_)
  conv => whnf
  refine And.intro (by (conv => whnf); exact t1) ?_
  conv => whnf
  refine And.intro (by (conv => whnf); exact fun _ => ⟨trivial, bytesG_A _⟩) ?_
  conv => whnf
  refine And.intro (by (conv => whnf); exact fun _ => ⟨by decide, by decide, Int.ofNat_le.2 hmn⟩) ?_
  conv => whnf
  refine And.intro (by (conv => whnf); exact fun _ => ⟨by show 0 + 6 ≤ n; omega, bytesG_at hb 0 6 (by omega)⟩) ?_
  conv => whnf
  refine And.intro (fun h => ?_) (fun h => ?_)
  · exfalso
    have e := row_str o1 hl1 hb1
    have h : (bif (bif evOk e1 then (0 : Int) else 2) != 0 then true else (bytesOf (bytesA e1).length (rowS (bytesA e1))).toList != (bytesOf 6 fun i => rowB g (0 + i)).toList) = true := h
    rw [e, o1] at h
    simp at h
  conv => whnf
  refine And.intro (by (conv => whnf); exact ha) ?_
  conv => whnf
  refine And.intro (fun h => ?_) (fun h => ?_)
  · have h : (!evOk a) = true := h
    rw [Bool.not_eq_true'] at h
    conv => whnf
    refine And.intro (by (conv => whnf); exact fun _ => rfl) ?_
    conv => whnf
    refine ret_b ?_
    have e : bytesA a = [] := by simp [bytesA, h]
    show (bif bif (((bytesA a).length : Int) == 0) then ((bif evOk a then (0 : Int) else 2) == 2) else false then true else false) = true
    rw [e, h]
    rfl
  have h : (!evOk a) = false := h
  rw [Bool.not_eq_false'] at h
  have z := evOk_Z h
  have hlen : (bytesA a).length ≤ 11 := by
    rw [show bytesA a = bytesL a by simp [bytesA, h], bytesL_len a z.k.1 z.k.2]
    rcases kinds z.k.1 z.k.2 with e | e | e | e | e | e | e | e | e | e | e | e | e | e <;> rw [e] <;> decide
  have hn60 : ¬ (n : Int) > 60 := of_decide_eq_false h60
  have hL9 : (0 + (bytesA a).length) * 1 ≤ 9223372036854775807 ∧ (0 + (bytesA a).length) * 1 ≤ 140737488355328 := by omega
  have hL9n : (0 + (bytesA a).length + n) * 1 ≤ 9223372036854775807 ∧ (0 + (bytesA a).length + n) * 1 ≤ 140737488355328 := by omega
  have hO : OneG (bytesA a).length (rowS (bytesA a)) := fun i _ => rfl
  have hOb : OneG n (rowB g) := fun i _ => rfl
  conv => whnf
  refine And.intro (by (conv => whnf); exact ⟨trivial, hO, hL9⟩) ?_
  conv => whnf
  refine And.intro (by (conv => whnf); exact ⟨trivial, hOb, hL9n⟩) ?_
  conv => whnf
  refine And.intro (by (conv => whnf); exact ⟨trivial, back ha h hb (by omega) _⟩) ?_
  conv => whnf
  refine And.intro (by (conv => whnf); exact ⟨trivial, bytesG_A _⟩) ?_
  conv => whnf
  refine And.intro (by (conv => whnf); exact ⟨ha, h⟩) ?_
  conv => whnf
  refine And.intro (by (conv => whnf); exact ⟨trivial, bytesG_rowS (bytesL_lt a)⟩) ?_
  conv => whnf
  refine And.intro (by (conv => whnf); exact fun _ => rfl) ?_
  conv => whnf
  exact law3_leaf h
theorem law3_yes7 (a : Ev) (ha : EvT a) (g : Nat → Int) (n : Nat) (hb : ∀ i, i < n → 0 ≤ g i ∧ g i < 256) (hm : n ≤ maxLen) (e1 : Ev) (t1 : EvT e1) (o1 : evOk e1 = true) (hmn : 7 ≤ n) (hl1 : (bytesL e1).length = 7) (hb1 : ∀ i, i < 7 → (bytesL e1).getD i 0 = g i) (hv : rdVal n g = yesV e1 7) (x : Value) (w : World) (hA : powA.rep w (.blk 0)) (hx : RowV w 1 n (rowB g) x) : Calls Tryd.prog 3 #[evV a, x] w fun e w' => e = .returned (.bool true) ∧ Below w.heap.size w w' := by
  refine calls_tabrow (tabL7_ok (yesS e1 7) (yesI a (bytesL a).length)) Tryd.func3 rfl powA (.ag (evS a)) rfl Tryd.ntmps3 rfl _ (wpx_ok (tabL7_ok (yesS e1 7) (yesI a (bytesL a).length)) (CI_ok (tabL7_ok (yesS e1 7) (yesI a (bytesL a).length)) 5) _ ?_) w hA hx
  have hB := bytesG_rowB hb
  have hv1 : shut (yesS e1 7) = some (rdVal n (gI (rowB g))) := by
    show shut (yesS e1 7) = some (rdVal n g)
    rw [hv]; rfl
  conv => whnf
  refine And.intro (fun h => ?_) (fun h60 => ?_)
  · conv => whnf
    refine And.intro (by conv => whnf) ?_
    conv => whnf
    rfl
  conv => whnf
  refine And.intro (by (conv => whnf); exact ha) ?_
  conv => whnf
  refine And.intro (by (conv => whnf); exact ⟨trivial, hB, hm, hv1⟩) ?_
  conv => whnf
  refine And.intro (by (conv => whnf); exact ⟨trivial, hB, hm, hv1⟩) ?_
  conv => whnf
  refine And.intro (fun h => absurd h (by simp)) (fun h => ?_)
  conv => whnf
  refine And.intro (by (conv => whnf); exact t1) ?_
  conv => whnf
  refine And.intro (by (conv => whnf); exact fun _ => ⟨trivial, bytesG_A _⟩) ?_
  conv => whnf
  refine And.intro (by (conv => whnf); exact fun _ => ⟨by decide, by decide, Int.ofNat_le.2 hmn⟩) ?_
  conv => whnf
  refine And.intro (by (conv => whnf); exact fun _ => ⟨by show 0 + 7 ≤ n; omega, bytesG_at hb 0 7 (by omega)⟩) ?_
  conv => whnf
  refine And.intro (fun h => ?_) (fun h => ?_)
  · exfalso
    have e := row_str o1 hl1 hb1
    have h : (bif (bif evOk e1 then (0 : Int) else 2) != 0 then true else (bytesOf (bytesA e1).length (rowS (bytesA e1))).toList != (bytesOf 7 fun i => rowB g (0 + i)).toList) = true := h
    rw [e, o1] at h
    simp at h
  conv => whnf
  refine And.intro (by (conv => whnf); exact ha) ?_
  conv => whnf
  refine And.intro (fun h => ?_) (fun h => ?_)
  · have h : (!evOk a) = true := h
    rw [Bool.not_eq_true'] at h
    conv => whnf
    refine And.intro (by (conv => whnf); exact fun _ => rfl) ?_
    conv => whnf
    refine ret_b ?_
    have e : bytesA a = [] := by simp [bytesA, h]
    show (bif bif (((bytesA a).length : Int) == 0) then ((bif evOk a then (0 : Int) else 2) == 2) else false then true else false) = true
    rw [e, h]
    rfl
  have h : (!evOk a) = false := h
  rw [Bool.not_eq_false'] at h
  have z := evOk_Z h
  have hlen : (bytesA a).length ≤ 11 := by
    rw [show bytesA a = bytesL a by simp [bytesA, h], bytesL_len a z.k.1 z.k.2]
    rcases kinds z.k.1 z.k.2 with e | e | e | e | e | e | e | e | e | e | e | e | e | e <;> rw [e] <;> decide
  have hn60 : ¬ (n : Int) > 60 := of_decide_eq_false h60
  have hL9 : (0 + (bytesA a).length) * 1 ≤ 9223372036854775807 ∧ (0 + (bytesA a).length) * 1 ≤ 140737488355328 := by omega
  have hL9n : (0 + (bytesA a).length + n) * 1 ≤ 9223372036854775807 ∧ (0 + (bytesA a).length + n) * 1 ≤ 140737488355328 := by omega
  have hO : OneG (bytesA a).length (rowS (bytesA a)) := fun i _ => rfl
  have hOb : OneG n (rowB g) := fun i _ => rfl
  conv => whnf
  refine And.intro (by (conv => whnf); exact ⟨trivial, hO, hL9⟩) ?_
  conv => whnf
  refine And.intro (by (conv => whnf); exact ⟨trivial, hOb, hL9n⟩) ?_
  conv => whnf
  refine And.intro (by (conv => whnf); exact ⟨trivial, back ha h hb (by omega) _⟩) ?_
  conv => whnf
  refine And.intro (by (conv => whnf); exact ⟨trivial, bytesG_A _⟩) ?_
  conv => whnf
  refine And.intro (by (conv => whnf); exact ⟨ha, h⟩) ?_
  conv => whnf
  refine And.intro (by (conv => whnf); exact ⟨trivial, bytesG_rowS (bytesL_lt a)⟩) ?_
  conv => whnf
  refine And.intro (by (conv => whnf); exact fun _ => rfl) ?_
  conv => whnf
  exact law3_leaf h
theorem law3_yes8 (a : Ev) (ha : EvT a) (g : Nat → Int) (n : Nat) (hb : ∀ i, i < n → 0 ≤ g i ∧ g i < 256) (hm : n ≤ maxLen) (e1 : Ev) (t1 : EvT e1) (o1 : evOk e1 = true) (hmn : 8 ≤ n) (hl1 : (bytesL e1).length = 8) (hb1 : ∀ i, i < 8 → (bytesL e1).getD i 0 = g i) (hv : rdVal n g = yesV e1 8) (x : Value) (w : World) (hA : powA.rep w (.blk 0)) (hx : RowV w 1 n (rowB g) x) : Calls Tryd.prog 3 #[evV a, x] w fun e w' => e = .returned (.bool true) ∧ Below w.heap.size w w' := by
  refine calls_tabrow (tabL7_ok (yesS e1 8) (yesI a (bytesL a).length)) Tryd.func3 rfl powA (.ag (evS a)) rfl Tryd.ntmps3 rfl _ (wpx_ok (tabL7_ok (yesS e1 8) (yesI a (bytesL a).length)) (CI_ok (tabL7_ok (yesS e1 8) (yesI a (bytesL a).length)) 5) _ ?_) w hA hx
  have hB := bytesG_rowB hb
  have hv1 : shut (yesS e1 8) = some (rdVal n (gI (rowB g))) := by
    show shut (yesS e1 8) = some (rdVal n g)
    rw [hv]; rfl
  conv => whnf
  refine And.intro (fun h => ?_) (fun h60 => ?_)
  · conv => whnf
    refine And.intro (by conv => whnf) ?_
    conv => whnf
    rfl
  conv => whnf
  refine And.intro (by (conv => whnf); exact ha) ?_
  conv => whnf
  refine And.intro (by (conv => whnf); exact ⟨trivial, hB, hm, hv1⟩) ?_
  conv => whnf
  refine And.intro (by (conv => whnf); exact ⟨trivial, hB, hm, hv1⟩) ?_
  conv => whnf
  refine And.intro (fun h => absurd h (by simp)) (fun h => ?_)
  conv => whnf
  refine And.intro (by (conv => whnf); exact t1) ?_
  conv => whnf
  refine And.intro (by (conv => whnf); exact fun _ => ⟨trivial, bytesG_A _⟩) ?_
  conv => whnf
  refine And.intro (by (conv => whnf); exact fun _ => ⟨by decide, by decide, Int.ofNat_le.2 hmn⟩) ?_
  conv => whnf
  refine And.intro (by (conv => whnf); exact fun _ => ⟨by show 0 + 8 ≤ n; omega, bytesG_at hb 0 8 (by omega)⟩) ?_
  conv => whnf
  refine And.intro (fun h => ?_) (fun h => ?_)
  · exfalso
    have e := row_str o1 hl1 hb1
    have h : (bif (bif evOk e1 then (0 : Int) else 2) != 0 then true else (bytesOf (bytesA e1).length (rowS (bytesA e1))).toList != (bytesOf 8 fun i => rowB g (0 + i)).toList) = true := h
    rw [e, o1] at h
    simp at h
  conv => whnf
  refine And.intro (by (conv => whnf); exact ha) ?_
  conv => whnf
  refine And.intro (fun h => ?_) (fun h => ?_)
  · have h : (!evOk a) = true := h
    rw [Bool.not_eq_true'] at h
    conv => whnf
    refine And.intro (by (conv => whnf); exact fun _ => rfl) ?_
    conv => whnf
    refine ret_b ?_
    have e : bytesA a = [] := by simp [bytesA, h]
    show (bif bif (((bytesA a).length : Int) == 0) then ((bif evOk a then (0 : Int) else 2) == 2) else false then true else false) = true
    rw [e, h]
    rfl
  have h : (!evOk a) = false := h
  rw [Bool.not_eq_false'] at h
  have z := evOk_Z h
  have hlen : (bytesA a).length ≤ 11 := by
    rw [show bytesA a = bytesL a by simp [bytesA, h], bytesL_len a z.k.1 z.k.2]
    rcases kinds z.k.1 z.k.2 with e | e | e | e | e | e | e | e | e | e | e | e | e | e <;> rw [e] <;> decide
  have hn60 : ¬ (n : Int) > 60 := of_decide_eq_false h60
  have hL9 : (0 + (bytesA a).length) * 1 ≤ 9223372036854775807 ∧ (0 + (bytesA a).length) * 1 ≤ 140737488355328 := by omega
  have hL9n : (0 + (bytesA a).length + n) * 1 ≤ 9223372036854775807 ∧ (0 + (bytesA a).length + n) * 1 ≤ 140737488355328 := by omega
  have hO : OneG (bytesA a).length (rowS (bytesA a)) := fun i _ => rfl
  have hOb : OneG n (rowB g) := fun i _ => rfl
  conv => whnf
  refine And.intro (by (conv => whnf); exact ⟨trivial, hO, hL9⟩) ?_
  conv => whnf
  refine And.intro (by (conv => whnf); exact ⟨trivial, hOb, hL9n⟩) ?_
  conv => whnf
  refine And.intro (by (conv => whnf); exact ⟨trivial, back ha h hb (by omega) _⟩) ?_
  conv => whnf
  refine And.intro (by (conv => whnf); exact ⟨trivial, bytesG_A _⟩) ?_
  conv => whnf
  refine And.intro (by (conv => whnf); exact ⟨ha, h⟩) ?_
  conv => whnf
  refine And.intro (by (conv => whnf); exact ⟨trivial, bytesG_rowS (bytesL_lt a)⟩) ?_
  conv => whnf
  refine And.intro (by (conv => whnf); exact fun _ => rfl) ?_
  conv => whnf
  exact law3_leaf h
theorem law3_yes10 (a : Ev) (ha : EvT a) (g : Nat → Int) (n : Nat) (hb : ∀ i, i < n → 0 ≤ g i ∧ g i < 256) (hm : n ≤ maxLen) (e1 : Ev) (t1 : EvT e1) (o1 : evOk e1 = true) (hmn : 10 ≤ n) (hl1 : (bytesL e1).length = 10) (hb1 : ∀ i, i < 10 → (bytesL e1).getD i 0 = g i) (hv : rdVal n g = yesV e1 10) (x : Value) (w : World) (hA : powA.rep w (.blk 0)) (hx : RowV w 1 n (rowB g) x) : Calls Tryd.prog 3 #[evV a, x] w fun e w' => e = .returned (.bool true) ∧ Below w.heap.size w w' := by
  refine calls_tabrow (tabL7_ok (yesS e1 10) (yesI a (bytesL a).length)) Tryd.func3 rfl powA (.ag (evS a)) rfl Tryd.ntmps3 rfl _ (wpx_ok (tabL7_ok (yesS e1 10) (yesI a (bytesL a).length)) (CI_ok (tabL7_ok (yesS e1 10) (yesI a (bytesL a).length)) 5) _ ?_) w hA hx
  have hB := bytesG_rowB hb
  have hv1 : shut (yesS e1 10) = some (rdVal n (gI (rowB g))) := by
    show shut (yesS e1 10) = some (rdVal n g)
    rw [hv]; rfl
  conv => whnf
  refine And.intro (fun h => ?_) (fun h60 => ?_)
  · conv => whnf
    refine And.intro (by conv => whnf) ?_
    conv => whnf
    rfl
  conv => whnf
  refine And.intro (by (conv => whnf); exact ha) ?_
  conv => whnf
  refine And.intro (by (conv => whnf); exact ⟨trivial, hB, hm, hv1⟩) ?_
  conv => whnf
  refine And.intro (by (conv => whnf); exact ⟨trivial, hB, hm, hv1⟩) ?_
  conv => whnf
  refine And.intro (fun h => absurd h (by simp)) (fun h => ?_)
  conv => whnf
  refine And.intro (by (conv => whnf); exact t1) ?_
  conv => whnf
  refine And.intro (by (conv => whnf); exact fun _ => ⟨trivial, bytesG_A _⟩) ?_
  conv => whnf
  refine And.intro (by (conv => whnf); exact fun _ => ⟨by decide, by decide, Int.ofNat_le.2 hmn⟩) ?_
  conv => whnf
  refine And.intro (by (conv => whnf); exact fun _ => ⟨by show 0 + 10 ≤ n; omega, bytesG_at hb 0 10 (by omega)⟩) ?_
  conv => whnf
  refine And.intro (fun h => ?_) (fun h => ?_)
  · exfalso
    have e := row_str o1 hl1 hb1
    have h : (bif (bif evOk e1 then (0 : Int) else 2) != 0 then true else (bytesOf (bytesA e1).length (rowS (bytesA e1))).toList != (bytesOf 10 fun i => rowB g (0 + i)).toList) = true := h
    rw [e, o1] at h
    simp at h
  conv => whnf
  refine And.intro (by (conv => whnf); exact ha) ?_
  conv => whnf
  refine And.intro (fun h => ?_) (fun h => ?_)
  · have h : (!evOk a) = true := h
    rw [Bool.not_eq_true'] at h
    conv => whnf
    refine And.intro (by (conv => whnf); exact fun _ => rfl) ?_
    conv => whnf
    refine ret_b ?_
    have e : bytesA a = [] := by simp [bytesA, h]
    show (bif bif (((bytesA a).length : Int) == 0) then ((bif evOk a then (0 : Int) else 2) == 2) else false then true else false) = true
    rw [e, h]
    rfl
  have h : (!evOk a) = false := h
  rw [Bool.not_eq_false'] at h
  have z := evOk_Z h
  have hlen : (bytesA a).length ≤ 11 := by
    rw [show bytesA a = bytesL a by simp [bytesA, h], bytesL_len a z.k.1 z.k.2]
    rcases kinds z.k.1 z.k.2 with e | e | e | e | e | e | e | e | e | e | e | e | e | e <;> rw [e] <;> decide
  have hn60 : ¬ (n : Int) > 60 := of_decide_eq_false h60
  have hL9 : (0 + (bytesA a).length) * 1 ≤ 9223372036854775807 ∧ (0 + (bytesA a).length) * 1 ≤ 140737488355328 := by omega
  have hL9n : (0 + (bytesA a).length + n) * 1 ≤ 9223372036854775807 ∧ (0 + (bytesA a).length + n) * 1 ≤ 140737488355328 := by omega
  have hO : OneG (bytesA a).length (rowS (bytesA a)) := fun i _ => rfl
  have hOb : OneG n (rowB g) := fun i _ => rfl
  conv => whnf
  refine And.intro (by (conv => whnf); exact ⟨trivial, hO, hL9⟩) ?_
  conv => whnf
  refine And.intro (by (conv => whnf); exact ⟨trivial, hOb, hL9n⟩) ?_
  conv => whnf
  refine And.intro (by (conv => whnf); exact ⟨trivial, back ha h hb (by omega) _⟩) ?_
  conv => whnf
  refine And.intro (by (conv => whnf); exact ⟨trivial, bytesG_A _⟩) ?_
  conv => whnf
  refine And.intro (by (conv => whnf); exact ⟨ha, h⟩) ?_
  conv => whnf
  refine And.intro (by (conv => whnf); exact ⟨trivial, bytesG_rowS (bytesL_lt a)⟩) ?_
  conv => whnf
  refine And.intro (by (conv => whnf); exact fun _ => rfl) ?_
  conv => whnf
  exact law3_leaf h
theorem law3_yes11 (a : Ev) (ha : EvT a) (g : Nat → Int) (n : Nat) (hb : ∀ i, i < n → 0 ≤ g i ∧ g i < 256) (hm : n ≤ maxLen) (e1 : Ev) (t1 : EvT e1) (o1 : evOk e1 = true) (hmn : 11 ≤ n) (hl1 : (bytesL e1).length = 11) (hb1 : ∀ i, i < 11 → (bytesL e1).getD i 0 = g i) (hv : rdVal n g = yesV e1 11) (x : Value) (w : World) (hA : powA.rep w (.blk 0)) (hx : RowV w 1 n (rowB g) x) : Calls Tryd.prog 3 #[evV a, x] w fun e w' => e = .returned (.bool true) ∧ Below w.heap.size w w' := by
  refine calls_tabrow (tabL7_ok (yesS e1 11) (yesI a (bytesL a).length)) Tryd.func3 rfl powA (.ag (evS a)) rfl Tryd.ntmps3 rfl _ (wpx_ok (tabL7_ok (yesS e1 11) (yesI a (bytesL a).length)) (CI_ok (tabL7_ok (yesS e1 11) (yesI a (bytesL a).length)) 5) _ ?_) w hA hx
  have hB := bytesG_rowB hb
  have hv1 : shut (yesS e1 11) = some (rdVal n (gI (rowB g))) := by
    show shut (yesS e1 11) = some (rdVal n g)
    rw [hv]; rfl
  conv => whnf
  refine And.intro (fun h => ?_) (fun h60 => ?_)
  · conv => whnf
    refine And.intro (by conv => whnf) ?_
    conv => whnf
    rfl
  conv => whnf
  refine And.intro (by (conv => whnf); exact ha) ?_
  conv => whnf
  refine And.intro (by (conv => whnf); exact ⟨trivial, hB, hm, hv1⟩) ?_
  conv => whnf
  refine And.intro (by (conv => whnf); exact ⟨trivial, hB, hm, hv1⟩) ?_
  conv => whnf
  refine And.intro (fun h => absurd h (by simp)) (fun h => ?_)
  conv => whnf
  refine And.intro (by (conv => whnf); exact t1) ?_
  conv => whnf
  refine And.intro (by (conv => whnf); exact fun _ => ⟨trivial, bytesG_A _⟩) ?_
  conv => whnf
  refine And.intro (by (conv => whnf); exact fun _ => ⟨by decide, by decide, Int.ofNat_le.2 hmn⟩) ?_
  conv => whnf
  refine And.intro (by (conv => whnf); exact fun _ => ⟨by show 0 + 11 ≤ n; omega, bytesG_at hb 0 11 (by omega)⟩) ?_
  conv => whnf
  refine And.intro (fun h => ?_) (fun h => ?_)
  · exfalso
    have e := row_str o1 hl1 hb1
    have h : (bif (bif evOk e1 then (0 : Int) else 2) != 0 then true else (bytesOf (bytesA e1).length (rowS (bytesA e1))).toList != (bytesOf 11 fun i => rowB g (0 + i)).toList) = true := h
    rw [e, o1] at h
    simp at h
  conv => whnf
  refine And.intro (by (conv => whnf); exact ha) ?_
  conv => whnf
  refine And.intro (fun h => ?_) (fun h => ?_)
  · have h : (!evOk a) = true := h
    rw [Bool.not_eq_true'] at h
    conv => whnf
    refine And.intro (by (conv => whnf); exact fun _ => rfl) ?_
    conv => whnf
    refine ret_b ?_
    have e : bytesA a = [] := by simp [bytesA, h]
    show (bif bif (((bytesA a).length : Int) == 0) then ((bif evOk a then (0 : Int) else 2) == 2) else false then true else false) = true
    rw [e, h]
    rfl
  have h : (!evOk a) = false := h
  rw [Bool.not_eq_false'] at h
  have z := evOk_Z h
  have hlen : (bytesA a).length ≤ 11 := by
    rw [show bytesA a = bytesL a by simp [bytesA, h], bytesL_len a z.k.1 z.k.2]
    rcases kinds z.k.1 z.k.2 with e | e | e | e | e | e | e | e | e | e | e | e | e | e <;> rw [e] <;> decide
  have hn60 : ¬ (n : Int) > 60 := of_decide_eq_false h60
  have hL9 : (0 + (bytesA a).length) * 1 ≤ 9223372036854775807 ∧ (0 + (bytesA a).length) * 1 ≤ 140737488355328 := by omega
  have hL9n : (0 + (bytesA a).length + n) * 1 ≤ 9223372036854775807 ∧ (0 + (bytesA a).length + n) * 1 ≤ 140737488355328 := by omega
  have hO : OneG (bytesA a).length (rowS (bytesA a)) := fun i _ => rfl
  have hOb : OneG n (rowB g) := fun i _ => rfl
  conv => whnf
  refine And.intro (by (conv => whnf); exact ⟨trivial, hO, hL9⟩) ?_
  conv => whnf
  refine And.intro (by (conv => whnf); exact ⟨trivial, hOb, hL9n⟩) ?_
  conv => whnf
  refine And.intro (by (conv => whnf); exact ⟨trivial, back ha h hb (by omega) _⟩) ?_
  conv => whnf
  refine And.intro (by (conv => whnf); exact ⟨trivial, bytesG_A _⟩) ?_
  conv => whnf
  refine And.intro (by (conv => whnf); exact ⟨ha, h⟩) ?_
  conv => whnf
  refine And.intro (by (conv => whnf); exact ⟨trivial, bytesG_rowS (bytesL_lt a)⟩) ?_
  conv => whnf
  refine And.intro (by (conv => whnf); exact fun _ => rfl) ?_
  conv => whnf
  exact law3_leaf h
end Go.Proofs.YtiibmnoikgfcbaaDoor
