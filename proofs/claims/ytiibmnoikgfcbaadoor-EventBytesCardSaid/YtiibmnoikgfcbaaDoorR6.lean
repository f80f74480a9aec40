/- The reader's numbers, as summaries: where there is enough (of any length), and for a known length. What puts a number into an event's part (functions 80, 83, 85, 87, 89), as summaries. -/
import Derived.Test.YtiibmnoikgfcbaaDoorR5
import Derived.Test.YtiibmnoikgfcbaaDoorX12
namespace Go.Proofs.YtiibmnoikgfcbaaDoor
open Go Go.Sx Go.RowKit
set_option maxRecDepth 100000
set_option maxHeartbeats 1000000
set_option linter.unusedVariables false
set_option linter.unusedSimpArgs false

def numC : Nat → Nat → Bool
  | 0, 1 => true
  | 1, 2 => true
  | 3, 1 => true
  | 4, 2 => true
  | 6, 4 => true
  | 6, 2 => true
  | 6, 1 => true
  | 7, 4 => true
  | _, _ => false
/-- The first number is k0. -/
def numV (k0 : Int) (g : Nat → List SV) : Nat → Nat → SV
  | 0, _ => .n .i64 k0
  | at_ + 1, w => .i .i64 (leN (fun i => gI g (at_ + 1 + i)) w)
theorem num_all {at_ k : Nat} (hcc : numC at_ k = true) {n : Nat} {g : Nat → List SV} {k0 : Int} (hk0 : gI g 0 = k0) (hn : at_ + k ≤ n) (hm : n ≤ maxLen) (hb : BytesG n g) (w : World) {b : Nat} {a : Option Addr} {c : Nat} (hc : n ≤ c) (hr : RowRep Vl.none w 1 n (rowB (gI g)) a) (hbl : w.heap[b]? = some (.cells #[.slice a n c, .int .i64 (at_ : Int)] 77 (0, 0))) :
    Calls Tryd.prog 32 #[.pointer (some ⟨b, 0, none⟩), .int .i64 (k : Int)] w fun e w' => ∃ y, e = .returned y ∧ den Vl.none (numV k0 g at_ k) = some y ∧ Upd (fun j => j = b) w w' ∧ w'.heap[b]? = some (.cells #[.slice a n c, .int .i64 ((at_ + k : Nat) : Int)] 77 (0, 0)) := by
  have hb' := fun i hi => (bytesG_num hb i hi).2
  have fin : ∀ {z : Int} {w' : World} {e : Ending} {k : Nat}, den Vl.none (numV k0 g at_ k) = some (.int .i64 z) → (e = .returned (.int .i64 z) ∧ Upd (fun j => j = b) w w' ∧ w'.heap[b]? = some (.cells #[.slice a n c, .int .i64 ((at_ + k : Nat) : Int)] 77 (0, 0))) → ∃ y, e = .returned y ∧ den Vl.none (numV k0 g at_ k) = some y ∧ Upd (fun j => j = b) w w' ∧ w'.heap[b]? = some (.cells #[.slice a n c, .int .i64 ((at_ + k : Nat) : Int)] 77 (0, 0)) := fun hd ⟨h1, h2, h3⟩ => ⟨_, h1, hd, h2, h3⟩
  unfold numC at hcc
  split at hcc
  case h_9 => cases hcc
  · refine (num0_1_c hn hm hb' w (by assumption) hr hbl).mono fun e w' h => fin ?_ h
    subst hk0
    simp only [numV, den, leN, Nat.zero_add]
    congr 2; omega
  · exact (num1_2_c hn hm hb' w (by assumption) hr hbl).mono fun e w' h => fin rfl h
  · exact (num3_1_c hn hm hb' w (by assumption) hr hbl).mono fun e w' h => fin rfl h
  · exact (num4_2_c hn hm hb' w (by assumption) hr hbl).mono fun e w' h => fin rfl h
  · exact (num6_4_c hn hm hb' w (by assumption) hr hbl).mono fun e w' h => fin rfl h
  · exact (num6_2_c hn hm hb' w (by assumption) hr hbl).mono fun e w' h => fin rfl h
  · exact (num6_1_c hn hm hb' w (by assumption) hr hbl).mono fun e w' h => fin rfl h
  · exact (num7_4_c hn hm hb' w (by assumption) hr hbl).mono fun e w' h => fin rfl h
theorem pan_all {at_ k : Nat} (hcc : numC at_ k = true) {n : Nat} {g : Nat → List SV} (hn : n < at_ + k) (ha : at_ ≤ n) (hm : n ≤ maxLen) (hb : BytesG n g) (w : World) {b : Nat} {a : Option Addr} {c : Nat} (hc : n ≤ c) (hr : RowRep Vl.none w 1 n (rowB (gI g)) a) (hbl : w.heap[b]? = some (.cells #[.slice a n c, .int .i64 (at_ : Int)] 77 (0, 0))) :
    Calls Tryd.prog 32 #[.pointer (some ⟨b, 0, none⟩), .int .i64 (k : Int)] w fun e w' => e = .panicked [{ v := .iface 31 (.int .i64 110), recovered := false }] ∧ Below w.heap.size w w' := by
  have hb' := fun i hi => (bytesG_num hb i hi).2
  unfold numC at hcc
  split at hcc
  case h_9 => cases hcc
  · exact pan0_1_c hn ha hm hb' w (by assumption) hr hbl
  · exact pan1_2_c hn ha hm hb' w (by assumption) hr hbl
  · exact pan3_1_c hn ha hm hb' w (by assumption) hr hbl
  · exact pan4_2_c hn ha hm hb' w (by assumption) hr hbl
  · exact pan6_4_c hn ha hm hb' w (by assumption) hr hbl
  · exact pan6_2_c hn ha hm hb' w (by assumption) hr hbl
  · exact pan6_1_c hn ha hm hb' w (by assumption) hr hbl
  · exact pan7_4_c hn ha hm hb' w (by assumption) hr hbl

theorem rd_args {ρ : Vl} {w : World} {H : List (Nat × SO)} (hH : HOk ρ w H) {hr hb k at_ n t : Nat} {g : Nat → List SV} {xs : List Value} (hd : denL ρ [.p hr 0, .n .i64 (.ofNat k)] = some xs) (hl : lk hr H = some (.cells [.r hb, .n .i64 (.ofNat at_)] t)) (hrow : (lk hb H).bind rowOf = some (1, n, g)) (hB : BytesG n g) (hm : n ≤ maxLen) :
    ∃ b a c, xs = [.pointer (some ⟨b, 0, none⟩), .int .i64 (k : Int)] ∧ ρ hr = some (.blk b) ∧ ρ hb = some (.rw a n c) ∧ n ≤ c ∧ RowRep Vl.none w 1 n (rowB (gI g)) a ∧ w.heap[b]? = some (.cells #[.slice a n c, .int .i64 (at_ : Int)] t (0, 0)) := by
  obtain ⟨a, c, e0, hrw⟩ := row_lk hH hrow
  obtain ⟨a', c', e1, e2, e3⟩ := (src_row (v := .r hb) (x := .slice a n c) (p := True) (n := n) (get := g) hH (by simp only [den, e0]) (by simp only [src2, srcOf, hrow]) trivial hB hm).is
  cases e1
  obtain ⟨hv, q1, q2⟩ := hH hr _ hl
  cases hv with
  | rw a n c => exact q2.elim
  | blk b =>
    obtain ⟨cs, q3, q4⟩ := q2
    simp only [denL, den, e0, Option.some.injEq] at q3
    subst q3
    simp only [denL, den, q1, Option.some.injEq] at hd
    exact ⟨b, a, c, hd.symm, q1, e0, e2, e3, q4⟩

def sumNumS (k0 : Int) : Sum := fun args H _ => match args with
  | [.p hr 0, .n .i64 (.ofNat k)] => match lk hr H with
    | some (.cells [.r hb, .n .i64 (.ofNat at_)] t) => match (lk hb H).bind rowOf with
      | some (1, n, g) => match numC at_ k && Nat.beq t 77 with
        | true => some (.ob (at_ + k ≤ n ∧ (BytesG n g ∧ gI g 0 = k0) ∧ n ≤ maxLen) (.upd (some (numV k0 g at_ k)) hr (.cells [.r hb, .n .i64 (.ofNat (at_ + k))] t)))
        | false => none
      | _ => none
    | _ => none
  | _ => none
def sumNumL (k0 : Int) : Sum := fun args H _ => match args with
  | [.p hr 0, .n .i64 (.ofNat k)] => match lk hr H with
    | some (.cells [.r hb, .n .i64 (.ofNat at_)] t) => match (lk hb H).bind rowOf with
      | some (1, n, g) => match numC at_ k && Nat.beq t 77, Nat.ble at_ n, Nat.ble (at_ + k) n with
        | true, true, true => some (.ob ((BytesG n g ∧ gI g 0 = k0) ∧ n ≤ maxLen) (.upd (some (numV k0 g at_ k)) hr (.cells [.r hb, .n .i64 (.ofNat (at_ + k))] t)))
        | true, true, false => some (.ob (BytesG n g ∧ n ≤ maxLen) (.pan (.ifc 31 (.n .i64 110))))
        | _, _, _ => none
      | _ => none
    | _ => none
  | _ => none
theorem sumNum_upd {ρ : Vl} {w : World} {H : List (Nat × SO)} {nx : Nat} (hH : HOk ρ w H) {hr hb k at_ n t : Nat} {g : Nat → List SV} {k0 : Int} (hk0 : gI g 0 = k0) {xs : List Value} (hd : denL ρ [.p hr 0, .n .i64 (.ofNat k)] = some xs) (hl : lk hr H = some (.cells [.r hb, .n .i64 (.ofNat at_)] t)) (hrow : (lk hb H).bind rowOf = some (1, n, g)) (hc : (numC at_ k && Nat.beq t 77) = true) (h1 : at_ + k ≤ n) (hB : BytesG n g) (hm : n ≤ maxLen) :
    SumRes Tryd.prog 32 xs ρ w H nx (.upd (some (numV k0 g at_ k)) hr (.cells [.r hb, .n .i64 (.ofNat (at_ + k))] t)) := by
  simp only [Bool.and_eq_true] at hc
  obtain ⟨hc, ht⟩ := hc
  have ht := Nat.eq_of_beq_eq_true ht
  subst ht
  obtain ⟨b, a, c, rfl, e1, e2, e3, e4, e5⟩ := rd_args hH hd hl hrow hB hm
  refine ⟨.blk b, _, hl, rfl, e1, rfl, (num_all hc hk0 h1 hm hB w e3 e4 e5).mono ?_⟩
  rintro e w' ⟨y, q1, q2, q3, q4⟩
  refine ⟨y, q1, den_mono (Vl.none_le ρ) _ _ q2, q3, ⟨_, by simp only [denL, den, e2]; rfl, q4⟩, fun k hk => ?_⟩
  have hk : k = b := hk
  subst hk
  refine ⟨.inl rfl, ?_⟩
  rcases Nat.lt_or_ge k w'.heap.size with h | h
  · exact h
  · rw [Array.getElem?_eq_none h] at q4; cases q4
theorem sumNumS_ok (k0 : Int) : SumOk1 Tryd.prog 32 (sumNumS k0) := by
  intro args H nx out ho ρ w xs hH hd hn
  unfold sumNumS at ho
  split at ho
  case h_2 => cases ho
  split at ho
  case h_2 => cases ho
  rename_i hl
  split at ho
  case h_2 => cases ho
  rename_i hrow
  split at ho
  case h_2 => cases ho
  rename_i hc
  cases ho
  rintro ⟨h1, ⟨h2, hk⟩, h3⟩
  exact sumNum_upd hH hk hd hl hrow hc h1 h2 h3
theorem sumNumL_ok (k0 : Int) : SumOk1 Tryd.prog 32 (sumNumL k0) := by
  intro args H nx out ho ρ w xs hH hd hn
  unfold sumNumL at ho
  split at ho
  case h_2 => cases ho
  split at ho
  case h_2 => cases ho
  rename_i hl
  split at ho
  case h_2 => cases ho
  rename_i hrow
  split at ho
  case h_3 => cases ho
  · rename_i hc h0 h1
    cases ho
    rintro ⟨⟨h2, hk⟩, h3⟩
    exact sumNum_upd hH hk hd hl hrow hc (Nat.le_of_ble_eq_true h1) h2 h3
  · rename_i hc h0 h1
    cases ho
    rintro ⟨h2, h3⟩
    simp only [Bool.and_eq_true] at hc
    obtain ⟨hc, ht⟩ := hc
    have ht := Nat.eq_of_beq_eq_true ht
    subst ht
    obtain ⟨b, a, c, rfl, e1, e2, e3, e4, e5⟩ := rd_args hH hd hl hrow h2 h3
    exact ⟨_, rfl, pan_all hc (Nat.lt_of_not_le fun h => by rw [Nat.ble_eq_true_of_le h] at h1; cases h1) (Nat.le_of_ble_eq_true h0) h3 h2 w e3 e4 e5⟩
end Go.Proofs.YtiibmnoikgfcbaaDoor

namespace Go.Proofs.YtiibmnoikgfcbaaDoor
open Go Go.Sx Go.RowKit
set_option maxRecDepth 100000
set_option maxHeartbeats 1000000
set_option linter.unusedVariables false
set_option linter.unusedSimpArgs false

def isNum : SV → Bool
  | .n _ _ => true
  | .i _ _ => true
  | _ => false
def allNum : List SV → Bool
  | [] => true
  | x :: r => isNum x && allNum r
theorem allNum_den : ∀ {l : List SV}, allNum l = true → ∃ xs, ∀ ρ, denL ρ l = some xs
  | [], _ => ⟨[], fun _ => rfl⟩
  | x :: r, h => by
    simp only [allNum, Bool.and_eq_true] at h
    obtain ⟨xs, h2⟩ := allNum_den h.2
    have h1 := h.1
    unfold isNum at h1
    split at h1
    · exact ⟨_, fun ρ => by simp only [denL, den, h2]; rfl⟩
    · exact ⟨_, fun ρ => by simp only [denL, den, h2]; rfl⟩
    · cases h1
theorem HS.startB (w : World) {b : Nat} {l : List SV} {xs : List Value} {t : Nat} (hl : denL (Vl.none.upd 0 (.blk b)) l = some xs) (hb : w.heap[b]? = some (.cells xs.toArray t (0, 0))) :
    HS ⟨w, fun k => k = b, Vl.none.upd 0 (.blk b), []⟩ (Vl.none.upd 0 (.blk b)) [(0, .cells l t)] 1 w := by
  have one : ∀ k o, lk k [(0, SO.cells l t)] = some o → k = 0 ∧ o = .cells l t := fun k o hk => by
    by_cases e : k = 0
    · subst e; rw [lk_cons_same] at hk; cases hk; exact ⟨rfl, rfl⟩
    · rw [lk_cons_other _ _ e] at hk; cases hk
  refine { r := { hp := fun k o hk => ?_, dj := fun k k' o o' hv hv' j hk hk' hr hr' hne hm hf hf' => ?_, ow := fun k o hv j hk hm hr hf => ?_, fr := Upd.refl _ _, ag := Vl.le_refl _ }, nx := fun k hk => by rw [Vl.upd_other _ _ (by omega)]; rfl }
  · obtain ⟨rfl, rfl⟩ := one k o hk
    exact ⟨_, Vl.upd_same _ _ _, xs, hl, hb⟩
  · obtain ⟨rfl, rfl⟩ := one k o hk
    obtain ⟨rfl, rfl⟩ := one k' o' hk'
    exact hne rfl
  · obtain ⟨rfl, rfl⟩ := one k o hk
    rw [Vl.upd_same] at hr; cases hr
    exact .inr hf

def putK (l' : List SV) (t : Nat) (v : SV) (H : List (Nat × SO)) (_ : Nat) : Prop := v = .tu [] ∧ lk 0 H = some (.cells l' t)
theorem put_run {tb : Tab} (hP : TabOk Tryd.prog tb) {C : CH} (hC : COk Tryd.prog C) {f : FuncId} {fn : Func} {c : Code} (hf : Tryd.prog.funcs[f]? = some fn) (hb : fn.body = some c) {l l' : List SV} {t m : Nat} {z : Int} (hnt : fn.ntmps = m) (hn : Nat.ble 2 m = true)
    (h : wpx Tryd.prog tb C c ⟨[(0, .p 0 0), (1, .i .i64 z)], [], [(0, .cells l t)], 1, m⟩ (RetK tb fn.results.toList (putK l' t) (fun _ _ _ => False))) (w : World) {b : Nat} {xs : List Value} (hl : denL (Vl.none.upd 0 (.blk b)) l = some xs) (hbk : w.heap[b]? = some (.cells xs.toArray t (0, 0))) :
    Calls Tryd.prog f #[.pointer (some ⟨b, 0, none⟩), .int .i64 z] w fun e w' => e = .returned (.tuple #[]) ∧ Upd (fun j => j = b) w w' ∧ ∃ ρ' xs', denL ρ' l' = some xs' ∧ w'.heap[b]? = some (.cells xs'.toArray t (0, 0)) := by
  refine enter_ok hP (cx := ⟨w, fun k => k = b, Vl.none.upd 0 (.blk b), []⟩) hf hb (HS.startB w hl hbk) (vs := [.p 0 0, .i .i64 z]) (xs := [.pointer (some ⟨b, 0, none⟩), .int .i64 z]) (by simp only [denL, den, Vl.upd_same]) hnt hn (wpx_ok hP hC _ h) (fun ρ' v H' nx' y w' hk' hs' hd => ?_) (fun _ _ _ _ _ hk' _ => hk'.elim)
  obtain ⟨rfl, hl'⟩ := hk'
  cases hd
  obtain ⟨hv, q1, q2⟩ := hs'.hp 0 _ hl'
  have e1 := hs'.r.ag 0 (.blk b) (show (Vl.none.upd 0 (.blk b)) 0 = _ from Vl.upd_same _ _ _)
  rw [q1] at e1; cases e1
  obtain ⟨cs, q3, q4⟩ := q2
  exact ⟨rfl, hs'.fr, ρ', cs, q3, q4⟩

/-- A part's place, and what is put there. -/
def putL (p : Nat) (v : SV) : List SV → List SV
  | [] => []
  | x :: r => match p with
    | 0 => v :: r
    | p + 1 => x :: putL p v r
def sumPut (p : Nat) (k : IntKind) (q : Int → Int) : Sum := fun args H _ => match args with
  | [.p h 0, .i .i64 z] => match lk h H with
    | some (.cells [c0, c1, c2, c3, c4, c5, c6, c7, c8] 28) => match allNum [c0, c1, c2, c3, c4, c5, c6, c7, c8] with
      | true => some (.upd (some (.tu [])) h (.cells (putL p (.i k (q z)) [c0, c1, c2, c3, c4, c5, c6, c7, c8]) 28))
      | false => none
    | _ => none
  | _ => none
theorem allNum_put {k : IntKind} {z : Int} : ∀ {p : Nat} {l : List SV}, allNum l = true → allNum (putL p (.i k z) l) = true
  | _, [], _ => by simp [putL, allNum]
  | 0, x :: r, h => by
    simp only [allNum, Bool.and_eq_true] at h
    simp [putL, allNum, isNum, h.2]
  | p + 1, x :: r, h => by
    simp only [allNum, Bool.and_eq_true] at h
    simp [putL, allNum, h.1, allNum_put h.2]
theorem sumPut_ok {tb : Tab} (hP : TabOk Tryd.prog tb) {C : CH} (hC : COk Tryd.prog C) {f : FuncId} {fn : Func} {c : Code} {p : Nat} {k : IntKind} {q : Int → Int} (hf : Tryd.prog.funcs[f]? = some fn) (hb : fn.body = some c) {m : Nat} (hnt : fn.ntmps = m) (hn : Nat.ble 2 m = true)
    (h : ∀ c0 c1 c2 c3 c4 c5 c6 c7 c8 z, wpx Tryd.prog tb C c ⟨[(0, .p 0 0), (1, .i .i64 z)], [], [(0, .cells [c0, c1, c2, c3, c4, c5, c6, c7, c8] 28)], 1, m⟩ (RetK tb fn.results.toList (putK (putL p (.i k (q z)) [c0, c1, c2, c3, c4, c5, c6, c7, c8]) 28) (fun _ _ _ => False))) : SumOk1 Tryd.prog f (sumPut p k q) := by
  intro args H nx out ho ρ w xs hH hd hn
  unfold sumPut at ho
  split at ho
  case h_2 => cases ho
  rename_i hh z
  split at ho
  case h_2 => cases ho
  rename_i c0 c1 c2 c3 c4 c5 c6 c7 c8 hl
  split at ho
  case h_2 => cases ho
  rename_i ha
  cases ho
  obtain ⟨hv, q1, q2⟩ := hH hh _ hl
  cases hv with
  | rw a n c => exact q2.elim
  | blk b =>
    obtain ⟨cs, q3, q4⟩ := q2
    simp only [denL, den, q1, Option.some.injEq] at hd
    subst hd
    obtain ⟨ys, hys⟩ := allNum_den ha
    rw [hys] at q3; cases q3
    obtain ⟨zs, hzs⟩ := allNum_den (allNum_put (p := p) (k := k) (z := q z) ha)
    refine ⟨.blk b, _, hl, rfl, q1, rfl, (put_run hP hC hf hb hnt (by assumption) (h c0 c1 c2 c3 c4 c5 c6 c7 c8 z) w (hys _) q4).mono ?_⟩
    rintro e w' ⟨r1, r2, ρ', xs', r3, r4⟩
    rw [hzs] at r3; cases r3
    refine ⟨_, r1, rfl, r2, ⟨_, hzs ρ, r4⟩, fun j hj => ?_⟩
    have hj : j = b := hj
    subst hj
    refine ⟨.inl rfl, ?_⟩
    rcases Nat.lt_or_ge j w'.heap.size with h | h
    · exact h
    · rw [Array.getElem?_eq_none h] at r4; cases r4
theorem put80_ok : SumOk1 Tryd.prog 80 (sumPut 6 .i64 fun z => z) := sumPut_ok tabA_ok (CI_ok tabA_ok 5) Tryd.func80 rfl Tryd.ntmps80 rfl fun c0 c1 c2 c3 c4 c5 c6 c7 c8 z => by
  conv => whnf
  exact ⟨rfl, rfl⟩
theorem put83_ok : SumOk1 Tryd.prog 83 (sumPut 4 .u32 fun z => IntKind.u32.wrap z) := sumPut_ok tabA_ok (CI_ok tabA_ok 5) Tryd.func83 rfl Tryd.ntmps83 rfl fun c0 c1 c2 c3 c4 c5 c6 c7 c8 z => by
  conv => whnf
  exact ⟨rfl, rfl⟩
theorem put85_ok : SumOk1 Tryd.prog 85 (sumPut 5 .i64 fun z => z) := sumPut_ok tabA_ok (CI_ok tabA_ok 5) Tryd.func85 rfl Tryd.ntmps85 rfl fun c0 c1 c2 c3 c4 c5 c6 c7 c8 z => by
  conv => whnf
  exact ⟨rfl, rfl⟩
theorem put87_ok : SumOk1 Tryd.prog 87 (sumPut 7 .i64 fun z => IntKind.i64.wrap (IntKind.i32.wrap (IntKind.u32.wrap z))) := sumPut_ok tabA_ok (CI_ok tabA_ok 5) Tryd.func87 rfl Tryd.ntmps87 rfl fun c0 c1 c2 c3 c4 c5 c6 c7 c8 z => by
  conv => whnf
  exact ⟨rfl, rfl⟩
theorem put89_ok : SumOk1 Tryd.prog 89 (sumPut 8 .i64 fun z => z) := sumPut_ok tabA_ok (CI_ok tabA_ok 5) Tryd.func89 rfl Tryd.ntmps89 rfl fun c0 c1 c2 c3 c4 c5 c6 c7 c8 z => by
  conv => whnf
  exact ⟨rfl, rfl⟩
end Go.Proofs.YtiibmnoikgfcbaaDoor
