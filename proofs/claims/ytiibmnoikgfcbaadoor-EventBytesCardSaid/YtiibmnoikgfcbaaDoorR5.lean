/- The reader's numbers (function 32), where there are enough bytes. The bytes are bytes. -/
import Derived.Test.YtiibmnoikgfcbaaDoorR2
namespace Go.Proofs.YtiibmnoikgfcbaaDoor
open Go Go.Sx Go.RowKit
set_option maxRecDepth 100000
set_option maxHeartbeats 1000000
set_option linter.unusedVariables false
set_option linter.unusedSimpArgs false

/-- A reader's block and the row that it reads lie apart. -/
theorem HS.startRd (w : World) {n at_ b : Nat} {g : Nat → Int} {a : Option Addr} {c t : Nat} (hc : n ≤ c) (h : RowRep Vl.none w 1 n (rowB g) a) (hb : w.heap[b]? = some (.cells #[.slice a n c, .int .i64 (at_ : Int)] t (0, 0))) :
    HS ⟨w, fun k => k = b, (Vl.none.upd 0 (.rw a n c)).upd 1 (.blk b), []⟩ ((Vl.none.upd 0 (.rw a n c)).upd 1 (.blk b)) [(1, .cells [.r 0, .n .i64 (.ofNat at_)] t), (0, .row 1 n (rowB g))] 2 w := by
  have r0 : ((Vl.none.upd 0 (.rw a n c)).upd 1 (.blk b)) 0 = some (.rw a n c) := by rw [Vl.upd_other _ _ (by decide), Vl.upd_same]
  have r1 : ((Vl.none.upd 0 (.rw a n c)).upd 1 (.blk b)) 1 = some (.blk b) := Vl.upd_same _ _ _
  have apart : ∀ k, k = b → (0 < n ∧ ∃ ad, a = some ad ∧ k = ad.block) → False := fun k hk ⟨hn, ad, e, hk2⟩ => by
    obtain ⟨_, ad', xs, e', hd, hc⟩ := h.2.2 0 hn
    rw [e] at e'; cases e'
    simp only [rowB, denL, den, Option.some.injEq] at hd
    subst hd
    have h0 := hc 0 _ rfl
    unfold World.cell? at h0
    rw [addr_block, ← hk2, hk, hb] at h0
    simp only [] at h0
    generalize (ad.add (0 * 1 + 0)).off = o at h0
    rcases o with _ | _ | o
    · simp at h0
    · simp at h0
    · simp at h0
  have two : ∀ k o, lk k [(1, SO.cells [.r 0, .n .i64 (.ofNat at_)] t), (0, .row 1 n (rowB g))] = some o → (k = 1 ∧ o = .cells [.r 0, .n .i64 (.ofNat at_)] t) ∨ (k = 0 ∧ o = .row 1 n (rowB g)) := fun k o hk => by
    by_cases e : k = 1
    · subst e; rw [lk_cons_same] at hk; cases hk; exact .inl ⟨rfl, rfl⟩
    · rw [lk_cons_other _ _ e] at hk
      by_cases e2 : k = 0
      · subst e2; rw [lk_cons_same] at hk; cases hk; exact .inr ⟨rfl, rfl⟩
      · rw [lk_cons_other _ _ e2] at hk; cases hk
  refine { r := { hp := fun k o hk => ?_, dj := fun k k' o o' hv hv' j hk hk' hr hr' hne hm hf hf' => ?_, ow := fun k o hv j hk hm hr hf => ?_, fr := Upd.refl _ _, ag := Vl.le_refl _ }, nx := fun k hk => by rw [Vl.upd_other _ _ (by omega), Vl.upd_other _ _ (by omega)]; rfl }
  · rcases two k o hk with ⟨rfl, rfl⟩ | ⟨rfl, rfl⟩
    · exact ⟨_, r1, [.slice a n c, .int .i64 (at_ : Int)], by simp only [denL, den, r0]; rfl, hb⟩
    · exact ⟨_, r0, ⟨rfl, hc⟩, rowRep_mono (Vl.none_le _) h⟩
  · rcases two k o hk with ⟨rfl, rfl⟩ | ⟨rfl, rfl⟩
    · rcases two k' o' hk' with ⟨rfl, rfl⟩ | ⟨rfl, rfl⟩
      · exact hne rfl
      · rw [r1] at hr; cases hr
        rw [r0] at hr'; cases hr'
        exact apart j hf hf'
    · cases hm
  · rcases two k o hk with ⟨rfl, rfl⟩ | ⟨rfl, rfl⟩
    · rw [r1] at hr; cases hr
      exact .inr hf
    · cases hm

def numK (at_ k t : Nat) (z : Int) (v : SV) (H : List (Nat × SO)) (_ : Nat) : Prop :=
  match v with
  | .i .i64 z' => z' = z ∧ lk 1 H = some (.cells [.r 0, .n .i64 (.ofNat (at_ + k))] t)
  | _ => False
theorem num_run (at_ k : Nat) (hk : k ≤ 8) {n : Nat} {g : Nat → Int} {z : Int} (h : wpx Tryd.prog tabRd (CI Tryd.prog tabRd 8) ((Tryd.f32.body).getD .skip) ⟨[(0, .p 1 0), (1, .n .i64 (.ofNat k))], [], [(1, .cells [.r 0, .n .i64 (.ofNat at_)] 77), (0, .row 1 n (rowB g))], 2, 10⟩ (RetK tabRd Tryd.f32.results.toList (numK at_ k 77 z) (fun _ _ _ => False)))
    (w : World) {b : Nat} {a : Option Addr} {c : Nat} (hc : n ≤ c) (hr : RowRep Vl.none w 1 n (rowB g) a) (hb : w.heap[b]? = some (.cells #[.slice a n c, .int .i64 (at_ : Int)] 77 (0, 0))) :
    Calls Tryd.prog 32 #[.pointer (some ⟨b, 0, none⟩), .int .i64 (k : Int)] w fun e w' => e = .returned (.int .i64 z) ∧ Upd (fun j => j = b) w w' ∧ w'.heap[b]? = some (.cells #[.slice a n c, .int .i64 ((at_ + k : Nat) : Int)] 77 (0, 0)) := by
  have hs := HS.startRd (t := 77) w hc hr hb
  refine enter_ok tabRd_ok (cx := ⟨w, fun k => k = b, (Vl.none.upd 0 (.rw a n c)).upd 1 (.blk b), []⟩) Tryd.func32 rfl hs (vs := [.p 1 0, .n .i64 (.ofNat k)]) (xs := [.pointer (some ⟨b, 0, none⟩), .int .i64 (k : Int)]) (by simp only [denL, den, Vl.upd_same]; rfl) Tryd.ntmps32 rfl (wpx_ok tabRd_ok (CI_ok tabRd_ok 8) _ h) (fun ρ' v H' nx' y w' hk' hs' hd => ?_) (fun _ _ _ _ _ hk' _ => hk'.elim)
  unfold numK at hk'
  split at hk'
  case h_2 => exact hk'.elim
  obtain ⟨rfl, hl⟩ := hk'
  cases hd
  obtain ⟨hv, q1, q2⟩ := hs'.hp 1 _ hl
  have e1 := hs'.r.ag 1 (.blk b) (show ((Vl.none.upd 0 (.rw a n c)).upd 1 (.blk b)) 1 = _ from Vl.upd_same _ _ _)
  rw [q1] at e1; cases e1
  obtain ⟨cs, q3, q4⟩ := q2
  have e0 : ρ' 0 = some (.rw a n c) := hs'.r.ag 0 _ (by show ((Vl.none.upd 0 (.rw a n c)).upd 1 (.blk b)) 0 = _; rw [Vl.upd_other _ _ (by decide), Vl.upd_same])
  simp only [denL, den, e0, Option.some.injEq] at q3
  subst q3
  exact ⟨rfl, hs'.fr, q4⟩
theorem leN_wrap {g : Nat → Int} {m : Nat} (hm : m ≤ 4) (h : ∀ i, i < m → 0 ≤ g i ∧ g i < 256) : IntKind.i64.wrap (leN g m) = leN g m := by
  have h1 := leN_lt h
  have h2 : (256 : Int) ^ m ≤ 4294967296 := by
    rcases m with _ | _ | _ | _ | _ | m
    all_goals first | omega | decide
  rw [IntKind.wrap_i64]
  omega
theorem gI_rowB (g : Nat → Int) (lo : Nat) : gI (fun i => rowB g (lo + i)) = fun i => g (lo + i) := rfl

theorem num0_1_c {n : Nat} {g : Nat → Int} (hn : 1 ≤ n) (hm : n ≤ maxLen) (hb : ∀ i, i < n → 0 ≤ g i ∧ g i < 256) (w : World) {b : Nat} {a : Option Addr} {c : Nat} (hc : n ≤ c) (hr : RowRep Vl.none w 1 n (rowB g) a) (hbl : w.heap[b]? = some (.cells #[.slice a n c, .int .i64 ((0 : Nat) : Int)] 77 (0, 0))) :
    Calls Tryd.prog 32 #[.pointer (some ⟨b, 0, none⟩), .int .i64 ((1 : Nat) : Int)] w fun e w' => e = .returned (.int .i64 (leN (fun i => g (0 + i)) 1)) ∧ Upd (fun j => j = b) w w' ∧ w'.heap[b]? = some (.cells #[.slice a n c, .int .i64 ((0 + 1 : Nat) : Int)] 77 (0, 0)) := by
  refine num_run 0 1 (by decide) ?_ w hc hr hbl
  have hs : shortB (n - 0) 1 = false := by simp only [shortB, decide_eq_false_iff_not]; omega
  conv => whnf
  refine And.intro (by (conv => whnf); show 0 ≤ n; omega) ?_
  conv => whnf
  refine And.intro (by
    (conv => whnf)
    exact ⟨by show 0 + (n - 0) ≤ n; omega, bytesG_at hb 0 _ (by omega), by show n - 0 ≤ maxLen; omega⟩) ?_
  conv => whnf
  refine And.intro (fun h => by rw [hs] at h; exact absurd h (by decide)) (fun _ => ?_)
  conv => whnf
  refine And.intro ?_ rfl
  show IntKind.i64.wrap (bif shortB (n - 0) 1 then 0 else leN (gI fun i => rowB g (0 + i)) 1) = _
  rw [hs, gI_rowB]
  exact leN_wrap (by decide) fun i hi => hb (0 + i) (by omega)

theorem num1_2_c {n : Nat} {g : Nat → Int} (hn : 3 ≤ n) (hm : n ≤ maxLen) (hb : ∀ i, i < n → 0 ≤ g i ∧ g i < 256) (w : World) {b : Nat} {a : Option Addr} {c : Nat} (hc : n ≤ c) (hr : RowRep Vl.none w 1 n (rowB g) a) (hbl : w.heap[b]? = some (.cells #[.slice a n c, .int .i64 ((1 : Nat) : Int)] 77 (0, 0))) :
    Calls Tryd.prog 32 #[.pointer (some ⟨b, 0, none⟩), .int .i64 ((2 : Nat) : Int)] w fun e w' => e = .returned (.int .i64 (leN (fun i => g (1 + i)) 2)) ∧ Upd (fun j => j = b) w w' ∧ w'.heap[b]? = some (.cells #[.slice a n c, .int .i64 ((1 + 2 : Nat) : Int)] 77 (0, 0)) := by
  refine num_run 1 2 (by decide) ?_ w hc hr hbl
  have hs : shortB (n - 1) 2 = false := by simp only [shortB, decide_eq_false_iff_not]; omega
  conv => whnf
  refine And.intro (by (conv => whnf); show 1 ≤ n; omega) ?_
  conv => whnf
  refine And.intro (by
    (conv => whnf)
    exact ⟨by show 1 + (n - 1) ≤ n; omega, bytesG_at hb 1 _ (by omega), by show n - 1 ≤ maxLen; omega⟩) ?_
  conv => whnf
  refine And.intro (fun h => by rw [hs] at h; exact absurd h (by decide)) (fun _ => ?_)
  conv => whnf
  refine And.intro ?_ rfl
  show IntKind.i64.wrap (bif shortB (n - 1) 2 then 0 else leN (gI fun i => rowB g (1 + i)) 2) = _
  rw [hs, gI_rowB]
  exact leN_wrap (by decide) fun i hi => hb (1 + i) (by omega)

theorem num3_1_c {n : Nat} {g : Nat → Int} (hn : 4 ≤ n) (hm : n ≤ maxLen) (hb : ∀ i, i < n → 0 ≤ g i ∧ g i < 256) (w : World) {b : Nat} {a : Option Addr} {c : Nat} (hc : n ≤ c) (hr : RowRep Vl.none w 1 n (rowB g) a) (hbl : w.heap[b]? = some (.cells #[.slice a n c, .int .i64 ((3 : Nat) : Int)] 77 (0, 0))) :
    Calls Tryd.prog 32 #[.pointer (some ⟨b, 0, none⟩), .int .i64 ((1 : Nat) : Int)] w fun e w' => e = .returned (.int .i64 (leN (fun i => g (3 + i)) 1)) ∧ Upd (fun j => j = b) w w' ∧ w'.heap[b]? = some (.cells #[.slice a n c, .int .i64 ((3 + 1 : Nat) : Int)] 77 (0, 0)) := by
  refine num_run 3 1 (by decide) ?_ w hc hr hbl
  have hs : shortB (n - 3) 1 = false := by simp only [shortB, decide_eq_false_iff_not]; omega
  conv => whnf
  refine And.intro (by (conv => whnf); show 3 ≤ n; omega) ?_
  conv => whnf
  refine And.intro (by
    (conv => whnf)
    exact ⟨by show 3 + (n - 3) ≤ n; omega, bytesG_at hb 3 _ (by omega), by show n - 3 ≤ maxLen; omega⟩) ?_
  conv => whnf
  refine And.intro (fun h => by rw [hs] at h; exact absurd h (by decide)) (fun _ => ?_)
  conv => whnf
  refine And.intro ?_ rfl
  show IntKind.i64.wrap (bif shortB (n - 3) 1 then 0 else leN (gI fun i => rowB g (3 + i)) 1) = _
  rw [hs, gI_rowB]
  exact leN_wrap (by decide) fun i hi => hb (3 + i) (by omega)

theorem num4_2_c {n : Nat} {g : Nat → Int} (hn : 6 ≤ n) (hm : n ≤ maxLen) (hb : ∀ i, i < n → 0 ≤ g i ∧ g i < 256) (w : World) {b : Nat} {a : Option Addr} {c : Nat} (hc : n ≤ c) (hr : RowRep Vl.none w 1 n (rowB g) a) (hbl : w.heap[b]? = some (.cells #[.slice a n c, .int .i64 ((4 : Nat) : Int)] 77 (0, 0))) :
    Calls Tryd.prog 32 #[.pointer (some ⟨b, 0, none⟩), .int .i64 ((2 : Nat) : Int)] w fun e w' => e = .returned (.int .i64 (leN (fun i => g (4 + i)) 2)) ∧ Upd (fun j => j = b) w w' ∧ w'.heap[b]? = some (.cells #[.slice a n c, .int .i64 ((4 + 2 : Nat) : Int)] 77 (0, 0)) := by
  refine num_run 4 2 (by decide) ?_ w hc hr hbl
  have hs : shortB (n - 4) 2 = false := by simp only [shortB, decide_eq_false_iff_not]; omega
  conv => whnf
  refine And.intro (by (conv => whnf); show 4 ≤ n; omega) ?_
  conv => whnf
  refine And.intro (by
    (conv => whnf)
    exact ⟨by show 4 + (n - 4) ≤ n; omega, bytesG_at hb 4 _ (by omega), by show n - 4 ≤ maxLen; omega⟩) ?_
  conv => whnf
  refine And.intro (fun h => by rw [hs] at h; exact absurd h (by decide)) (fun _ => ?_)
  conv => whnf
  refine And.intro ?_ rfl
  show IntKind.i64.wrap (bif shortB (n - 4) 2 then 0 else leN (gI fun i => rowB g (4 + i)) 2) = _
  rw [hs, gI_rowB]
  exact leN_wrap (by decide) fun i hi => hb (4 + i) (by omega)

theorem num6_4_c {n : Nat} {g : Nat → Int} (hn : 10 ≤ n) (hm : n ≤ maxLen) (hb : ∀ i, i < n → 0 ≤ g i ∧ g i < 256) (w : World) {b : Nat} {a : Option Addr} {c : Nat} (hc : n ≤ c) (hr : RowRep Vl.none w 1 n (rowB g) a) (hbl : w.heap[b]? = some (.cells #[.slice a n c, .int .i64 ((6 : Nat) : Int)] 77 (0, 0))) :
    Calls Tryd.prog 32 #[.pointer (some ⟨b, 0, none⟩), .int .i64 ((4 : Nat) : Int)] w fun e w' => e = .returned (.int .i64 (leN (fun i => g (6 + i)) 4)) ∧ Upd (fun j => j = b) w w' ∧ w'.heap[b]? = some (.cells #[.slice a n c, .int .i64 ((6 + 4 : Nat) : Int)] 77 (0, 0)) := by
  refine num_run 6 4 (by decide) ?_ w hc hr hbl
  have hs : shortB (n - 6) 4 = false := by simp only [shortB, decide_eq_false_iff_not]; omega
  conv => whnf
  refine And.intro (by (conv => whnf); show 6 ≤ n; omega) ?_
  conv => whnf
  refine And.intro (by
    (conv => whnf)
    exact ⟨by show 6 + (n - 6) ≤ n; omega, bytesG_at hb 6 _ (by omega), by show n - 6 ≤ maxLen; omega⟩) ?_
  conv => whnf
  refine And.intro (fun h => by rw [hs] at h; exact absurd h (by decide)) (fun _ => ?_)
  conv => whnf
  refine And.intro ?_ rfl
  show IntKind.i64.wrap (bif shortB (n - 6) 4 then 0 else leN (gI fun i => rowB g (6 + i)) 4) = _
  rw [hs, gI_rowB]
  exact leN_wrap (by decide) fun i hi => hb (6 + i) (by omega)

theorem num6_2_c {n : Nat} {g : Nat → Int} (hn : 8 ≤ n) (hm : n ≤ maxLen) (hb : ∀ i, i < n → 0 ≤ g i ∧ g i < 256) (w : World) {b : Nat} {a : Option Addr} {c : Nat} (hc : n ≤ c) (hr : RowRep Vl.none w 1 n (rowB g) a) (hbl : w.heap[b]? = some (.cells #[.slice a n c, .int .i64 ((6 : Nat) : Int)] 77 (0, 0))) :
    Calls Tryd.prog 32 #[.pointer (some ⟨b, 0, none⟩), .int .i64 ((2 : Nat) : Int)] w fun e w' => e = .returned (.int .i64 (leN (fun i => g (6 + i)) 2)) ∧ Upd (fun j => j = b) w w' ∧ w'.heap[b]? = some (.cells #[.slice a n c, .int .i64 ((6 + 2 : Nat) : Int)] 77 (0, 0)) := by
  refine num_run 6 2 (by decide) ?_ w hc hr hbl
  have hs : shortB (n - 6) 2 = false := by simp only [shortB, decide_eq_false_iff_not]; omega
  conv => whnf
  refine And.intro (by (conv => whnf); show 6 ≤ n; omega) ?_
  conv => whnf
  refine And.intro (by
    (conv => whnf)
    exact ⟨by show 6 + (n - 6) ≤ n; omega, bytesG_at hb 6 _ (by omega), by show n - 6 ≤ maxLen; omega⟩) ?_
  conv => whnf
  refine And.intro (fun h => by rw [hs] at h; exact absurd h (by decide)) (fun _ => ?_)
  conv => whnf
  refine And.intro ?_ rfl
  show IntKind.i64.wrap (bif shortB (n - 6) 2 then 0 else leN (gI fun i => rowB g (6 + i)) 2) = _
  rw [hs, gI_rowB]
  exact leN_wrap (by decide) fun i hi => hb (6 + i) (by omega)

theorem num6_1_c {n : Nat} {g : Nat → Int} (hn : 7 ≤ n) (hm : n ≤ maxLen) (hb : ∀ i, i < n → 0 ≤ g i ∧ g i < 256) (w : World) {b : Nat} {a : Option Addr} {c : Nat} (hc : n ≤ c) (hr : RowRep Vl.none w 1 n (rowB g) a) (hbl : w.heap[b]? = some (.cells #[.slice a n c, .int .i64 ((6 : Nat) : Int)] 77 (0, 0))) :
    Calls Tryd.prog 32 #[.pointer (some ⟨b, 0, none⟩), .int .i64 ((1 : Nat) : Int)] w fun e w' => e = .returned (.int .i64 (leN (fun i => g (6 + i)) 1)) ∧ Upd (fun j => j = b) w w' ∧ w'.heap[b]? = some (.cells #[.slice a n c, .int .i64 ((6 + 1 : Nat) : Int)] 77 (0, 0)) := by
  refine num_run 6 1 (by decide) ?_ w hc hr hbl
  have hs : shortB (n - 6) 1 = false := by simp only [shortB, decide_eq_false_iff_not]; omega
  conv => whnf
  refine And.intro (by (conv => whnf); show 6 ≤ n; omega) ?_
  conv => whnf
  refine And.intro (by
    (conv => whnf)
    exact ⟨by show 6 + (n - 6) ≤ n; omega, bytesG_at hb 6 _ (by omega), by show n - 6 ≤ maxLen; omega⟩) ?_
  conv => whnf
  refine And.intro (fun h => by rw [hs] at h; exact absurd h (by decide)) (fun _ => ?_)
  conv => whnf
  refine And.intro ?_ rfl
  show IntKind.i64.wrap (bif shortB (n - 6) 1 then 0 else leN (gI fun i => rowB g (6 + i)) 1) = _
  rw [hs, gI_rowB]
  exact leN_wrap (by decide) fun i hi => hb (6 + i) (by omega)

theorem num7_4_c {n : Nat} {g : Nat → Int} (hn : 11 ≤ n) (hm : n ≤ maxLen) (hb : ∀ i, i < n → 0 ≤ g i ∧ g i < 256) (w : World) {b : Nat} {a : Option Addr} {c : Nat} (hc : n ≤ c) (hr : RowRep Vl.none w 1 n (rowB g) a) (hbl : w.heap[b]? = some (.cells #[.slice a n c, .int .i64 ((7 : Nat) : Int)] 77 (0, 0))) :
    Calls Tryd.prog 32 #[.pointer (some ⟨b, 0, none⟩), .int .i64 ((4 : Nat) : Int)] w fun e w' => e = .returned (.int .i64 (leN (fun i => g (7 + i)) 4)) ∧ Upd (fun j => j = b) w w' ∧ w'.heap[b]? = some (.cells #[.slice a n c, .int .i64 ((7 + 4 : Nat) : Int)] 77 (0, 0)) := by
  refine num_run 7 4 (by decide) ?_ w hc hr hbl
  have hs : shortB (n - 7) 4 = false := by simp only [shortB, decide_eq_false_iff_not]; omega
  conv => whnf
  refine And.intro (by (conv => whnf); show 7 ≤ n; omega) ?_
  conv => whnf
  refine And.intro (by
    (conv => whnf)
    exact ⟨by show 7 + (n - 7) ≤ n; omega, bytesG_at hb 7 _ (by omega), by show n - 7 ≤ maxLen; omega⟩) ?_
  conv => whnf
  refine And.intro (fun h => by rw [hs] at h; exact absurd h (by decide)) (fun _ => ?_)
  conv => whnf
  refine And.intro ?_ rfl
  show IntKind.i64.wrap (bif shortB (n - 7) 4 then 0 else leN (gI fun i => rowB g (7 + i)) 4) = _
  rw [hs, gI_rowB]
  exact leN_wrap (by decide) fun i hi => hb (7 + i) (by omega)

theorem below_of {w w' : World} {b : Nat} (h : Upd (fun j => j = b) w w') (hb : w'.heap[b]? = w.heap[b]?) : Below w.heap.size w w' :=
  ⟨h.os, h.tape, h.output, h.size, fun k hk => if e : k = b then by rw [e]; exact hb else h.block k hk e⟩
theorem num_pan (at_ k : Nat) (hk : k ≤ 8) {n : Nat} {g : Nat → Int} (h : wpx Tryd.prog tabRd (CI Tryd.prog tabRd 8) ((Tryd.f32.body).getD .skip) ⟨[(0, .p 1 0), (1, .n .i64 (.ofNat k))], [], [(1, .cells [.r 0, .n .i64 (.ofNat at_)] 77), (0, .row 1 n (rowB g))], 2, 10⟩ (RetK tabRd Tryd.f32.results.toList (fun _ _ _ => False) (fun c H _ => c = [{ v := .iface 31 (.int .i64 110), recovered := false }] ∧ lk 1 H = some (.cells [.r 0, .n .i64 (.ofNat at_)] 77))))
    (w : World) {b : Nat} {a : Option Addr} {c : Nat} (hc : n ≤ c) (hr : RowRep Vl.none w 1 n (rowB g) a) (hb : w.heap[b]? = some (.cells #[.slice a n c, .int .i64 (at_ : Int)] 77 (0, 0))) :
    Calls Tryd.prog 32 #[.pointer (some ⟨b, 0, none⟩), .int .i64 (k : Int)] w fun e w' => e = .panicked [{ v := .iface 31 (.int .i64 110), recovered := false }] ∧ Below w.heap.size w w' := by
  have hs := HS.startRd (t := 77) w hc hr hb
  refine enter_ok tabRd_ok (cx := ⟨w, fun k => k = b, (Vl.none.upd 0 (.rw a n c)).upd 1 (.blk b), []⟩) Tryd.func32 rfl hs (vs := [.p 1 0, .n .i64 (.ofNat k)]) (xs := [.pointer (some ⟨b, 0, none⟩), .int .i64 (k : Int)]) (by simp only [denL, den, Vl.upd_same]; rfl) Tryd.ntmps32 rfl (wpx_ok tabRd_ok (CI_ok tabRd_ok 8) _ h) (fun _ _ _ _ _ _ hk' _ _ => hk'.elim) (fun ρ' c' H' nx' w' hk' hs' => ?_)
  obtain ⟨rfl, hl⟩ := hk'
  obtain ⟨hv, q1, q2⟩ := hs'.hp 1 _ hl
  have e1 := hs'.r.ag 1 (.blk b) (show ((Vl.none.upd 0 (.rw a n c)).upd 1 (.blk b)) 1 = _ from Vl.upd_same _ _ _)
  rw [q1] at e1; cases e1
  obtain ⟨cs, q3, q4⟩ := q2
  have e0 : ρ' 0 = some (.rw a n c) := hs'.r.ag 0 _ (by show ((Vl.none.upd 0 (.rw a n c)).upd 1 (.blk b)) 0 = _; rw [Vl.upd_other _ _ (by decide), Vl.upd_same])
  simp only [denL, den, e0, Option.some.injEq] at q3
  subst q3
  exact ⟨rfl, below_of hs'.fr (by rw [q4, hb]; rfl)⟩

theorem pan0_1_c {n : Nat} {g : Nat → Int} (hn : n < 1) (ha : 0 ≤ n) (hm : n ≤ maxLen) (hb : ∀ i, i < n → 0 ≤ g i ∧ g i < 256) (w : World) {b : Nat} {a : Option Addr} {c : Nat} (hc : n ≤ c) (hr : RowRep Vl.none w 1 n (rowB g) a) (hbl : w.heap[b]? = some (.cells #[.slice a n c, .int .i64 ((0 : Nat) : Int)] 77 (0, 0))) :
    Calls Tryd.prog 32 #[.pointer (some ⟨b, 0, none⟩), .int .i64 ((1 : Nat) : Int)] w fun e w' => e = .panicked [{ v := .iface 31 (.int .i64 110), recovered := false }] ∧ Below w.heap.size w w' := by
  refine num_pan 0 1 (by decide) ?_ w hc hr hbl
  have hs : shortB (n - 0) 1 = true := by simp only [shortB, decide_eq_true_iff]; omega
  conv => whnf
  refine And.intro (by (conv => whnf); show 0 ≤ n; omega) ?_
  conv => whnf
  refine And.intro (by
    (conv => whnf)
    exact ⟨by show 0 + (n - 0) ≤ n; omega, bytesG_at hb 0 _ (by omega), by show n - 0 ≤ maxLen; omega⟩) ?_
  conv => whnf
  refine And.intro (fun _ => ?_) (fun h => by rw [hs] at h; exact absurd h (by decide))
  conv => whnf
  rw [hs]
  exact And.intro rfl rfl

theorem pan1_2_c {n : Nat} {g : Nat → Int} (hn : n < 3) (ha : 1 ≤ n) (hm : n ≤ maxLen) (hb : ∀ i, i < n → 0 ≤ g i ∧ g i < 256) (w : World) {b : Nat} {a : Option Addr} {c : Nat} (hc : n ≤ c) (hr : RowRep Vl.none w 1 n (rowB g) a) (hbl : w.heap[b]? = some (.cells #[.slice a n c, .int .i64 ((1 : Nat) : Int)] 77 (0, 0))) :
    Calls Tryd.prog 32 #[.pointer (some ⟨b, 0, none⟩), .int .i64 ((2 : Nat) : Int)] w fun e w' => e = .panicked [{ v := .iface 31 (.int .i64 110), recovered := false }] ∧ Below w.heap.size w w' := by
  refine num_pan 1 2 (by decide) ?_ w hc hr hbl
  have hs : shortB (n - 1) 2 = true := by simp only [shortB, decide_eq_true_iff]; omega
  conv => whnf
  refine And.intro (by (conv => whnf); show 1 ≤ n; omega) ?_
  conv => whnf
  refine And.intro (by
    (conv => whnf)
    exact ⟨by show 1 + (n - 1) ≤ n; omega, bytesG_at hb 1 _ (by omega), by show n - 1 ≤ maxLen; omega⟩) ?_
  conv => whnf
  refine And.intro (fun _ => ?_) (fun h => by rw [hs] at h; exact absurd h (by decide))
  conv => whnf
  rw [hs]
  exact And.intro rfl rfl

theorem pan3_1_c {n : Nat} {g : Nat → Int} (hn : n < 4) (ha : 3 ≤ n) (hm : n ≤ maxLen) (hb : ∀ i, i < n → 0 ≤ g i ∧ g i < 256) (w : World) {b : Nat} {a : Option Addr} {c : Nat} (hc : n ≤ c) (hr : RowRep Vl.none w 1 n (rowB g) a) (hbl : w.heap[b]? = some (.cells #[.slice a n c, .int .i64 ((3 : Nat) : Int)] 77 (0, 0))) :
    Calls Tryd.prog 32 #[.pointer (some ⟨b, 0, none⟩), .int .i64 ((1 : Nat) : Int)] w fun e w' => e = .panicked [{ v := .iface 31 (.int .i64 110), recovered := false }] ∧ Below w.heap.size w w' := by
  refine num_pan 3 1 (by decide) ?_ w hc hr hbl
  have hs : shortB (n - 3) 1 = true := by simp only [shortB, decide_eq_true_iff]; omega
  conv => whnf
  refine And.intro (by (conv => whnf); show 3 ≤ n; omega) ?_
  conv => whnf
  refine And.intro (by
    (conv => whnf)
    exact ⟨by show 3 + (n - 3) ≤ n; omega, bytesG_at hb 3 _ (by omega), by show n - 3 ≤ maxLen; omega⟩) ?_
  conv => whnf
  refine And.intro (fun _ => ?_) (fun h => by rw [hs] at h; exact absurd h (by decide))
  conv => whnf
  rw [hs]
  exact And.intro rfl rfl

theorem pan4_2_c {n : Nat} {g : Nat → Int} (hn : n < 6) (ha : 4 ≤ n) (hm : n ≤ maxLen) (hb : ∀ i, i < n → 0 ≤ g i ∧ g i < 256) (w : World) {b : Nat} {a : Option Addr} {c : Nat} (hc : n ≤ c) (hr : RowRep Vl.none w 1 n (rowB g) a) (hbl : w.heap[b]? = some (.cells #[.slice a n c, .int .i64 ((4 : Nat) : Int)] 77 (0, 0))) :
    Calls Tryd.prog 32 #[.pointer (some ⟨b, 0, none⟩), .int .i64 ((2 : Nat) : Int)] w fun e w' => e = .panicked [{ v := .iface 31 (.int .i64 110), recovered := false }] ∧ Below w.heap.size w w' := by
  refine num_pan 4 2 (by decide) ?_ w hc hr hbl
  have hs : shortB (n - 4) 2 = true := by simp only [shortB, decide_eq_true_iff]; omega
  conv => whnf
  refine And.intro (by (conv => whnf); show 4 ≤ n; omega) ?_
  conv => whnf
  refine And.intro (by
    (conv => whnf)
    exact ⟨by show 4 + (n - 4) ≤ n; omega, bytesG_at hb 4 _ (by omega), by show n - 4 ≤ maxLen; omega⟩) ?_
  conv => whnf
  refine And.intro (fun _ => ?_) (fun h => by rw [hs] at h; exact absurd h (by decide))
  conv => whnf
  rw [hs]
  exact And.intro rfl rfl

theorem pan6_4_c {n : Nat} {g : Nat → Int} (hn : n < 10) (ha : 6 ≤ n) (hm : n ≤ maxLen) (hb : ∀ i, i < n → 0 ≤ g i ∧ g i < 256) (w : World) {b : Nat} {a : Option Addr} {c : Nat} (hc : n ≤ c) (hr : RowRep Vl.none w 1 n (rowB g) a) (hbl : w.heap[b]? = some (.cells #[.slice a n c, .int .i64 ((6 : Nat) : Int)] 77 (0, 0))) :
    Calls Tryd.prog 32 #[.pointer (some ⟨b, 0, none⟩), .int .i64 ((4 : Nat) : Int)] w fun e w' => e = .panicked [{ v := .iface 31 (.int .i64 110), recovered := false }] ∧ Below w.heap.size w w' := by
  refine num_pan 6 4 (by decide) ?_ w hc hr hbl
  have hs : shortB (n - 6) 4 = true := by simp only [shortB, decide_eq_true_iff]; omega
  conv => whnf
  refine And.intro (by (conv => whnf); show 6 ≤ n; omega) ?_
  conv => whnf
  refine And.intro (by
    (conv => whnf)
    exact ⟨by show 6 + (n - 6) ≤ n; omega, bytesG_at hb 6 _ (by omega), by show n - 6 ≤ maxLen; omega⟩) ?_
  conv => whnf
  refine And.intro (fun _ => ?_) (fun h => by rw [hs] at h; exact absurd h (by decide))
  conv => whnf
  rw [hs]
  exact And.intro rfl rfl

theorem pan6_2_c {n : Nat} {g : Nat → Int} (hn : n < 8) (ha : 6 ≤ n) (hm : n ≤ maxLen) (hb : ∀ i, i < n → 0 ≤ g i ∧ g i < 256) (w : World) {b : Nat} {a : Option Addr} {c : Nat} (hc : n ≤ c) (hr : RowRep Vl.none w 1 n (rowB g) a) (hbl : w.heap[b]? = some (.cells #[.slice a n c, .int .i64 ((6 : Nat) : Int)] 77 (0, 0))) :
    Calls Tryd.prog 32 #[.pointer (some ⟨b, 0, none⟩), .int .i64 ((2 : Nat) : Int)] w fun e w' => e = .panicked [{ v := .iface 31 (.int .i64 110), recovered := false }] ∧ Below w.heap.size w w' := by
  refine num_pan 6 2 (by decide) ?_ w hc hr hbl
  have hs : shortB (n - 6) 2 = true := by simp only [shortB, decide_eq_true_iff]; omega
  conv => whnf
  refine And.intro (by (conv => whnf); show 6 ≤ n; omega) ?_
  conv => whnf
  refine And.intro (by
    (conv => whnf)
    exact ⟨by show 6 + (n - 6) ≤ n; omega, bytesG_at hb 6 _ (by omega), by show n - 6 ≤ maxLen; omega⟩) ?_
  conv => whnf
  refine And.intro (fun _ => ?_) (fun h => by rw [hs] at h; exact absurd h (by decide))
  conv => whnf
  rw [hs]
  exact And.intro rfl rfl

theorem pan6_1_c {n : Nat} {g : Nat → Int} (hn : n < 7) (ha : 6 ≤ n) (hm : n ≤ maxLen) (hb : ∀ i, i < n → 0 ≤ g i ∧ g i < 256) (w : World) {b : Nat} {a : Option Addr} {c : Nat} (hc : n ≤ c) (hr : RowRep Vl.none w 1 n (rowB g) a) (hbl : w.heap[b]? = some (.cells #[.slice a n c, .int .i64 ((6 : Nat) : Int)] 77 (0, 0))) :
    Calls Tryd.prog 32 #[.pointer (some ⟨b, 0, none⟩), .int .i64 ((1 : Nat) : Int)] w fun e w' => e = .panicked [{ v := .iface 31 (.int .i64 110), recovered := false }] ∧ Below w.heap.size w w' := by
  refine num_pan 6 1 (by decide) ?_ w hc hr hbl
  have hs : shortB (n - 6) 1 = true := by simp only [shortB, decide_eq_true_iff]; omega
  conv => whnf
  refine And.intro (by (conv => whnf); show 6 ≤ n; omega) ?_
  conv => whnf
  refine And.intro (by
    (conv => whnf)
    exact ⟨by show 6 + (n - 6) ≤ n; omega, bytesG_at hb 6 _ (by omega), by show n - 6 ≤ maxLen; omega⟩) ?_
  conv => whnf
  refine And.intro (fun _ => ?_) (fun h => by rw [hs] at h; exact absurd h (by decide))
  conv => whnf
  rw [hs]
  exact And.intro rfl rfl

theorem pan7_4_c {n : Nat} {g : Nat → Int} (hn : n < 11) (ha : 7 ≤ n) (hm : n ≤ maxLen) (hb : ∀ i, i < n → 0 ≤ g i ∧ g i < 256) (w : World) {b : Nat} {a : Option Addr} {c : Nat} (hc : n ≤ c) (hr : RowRep Vl.none w 1 n (rowB g) a) (hbl : w.heap[b]? = some (.cells #[.slice a n c, .int .i64 ((7 : Nat) : Int)] 77 (0, 0))) :
    Calls Tryd.prog 32 #[.pointer (some ⟨b, 0, none⟩), .int .i64 ((4 : Nat) : Int)] w fun e w' => e = .panicked [{ v := .iface 31 (.int .i64 110), recovered := false }] ∧ Below w.heap.size w w' := by
  refine num_pan 7 4 (by decide) ?_ w hc hr hbl
  have hs : shortB (n - 7) 4 = true := by simp only [shortB, decide_eq_true_iff]; omega
  conv => whnf
  refine And.intro (by (conv => whnf); show 7 ≤ n; omega) ?_
  conv => whnf
  refine And.intro (by
    (conv => whnf)
    exact ⟨by show 7 + (n - 7) ≤ n; omega, bytesG_at hb 7 _ (by omega), by show n - 7 ≤ maxLen; omega⟩) ?_
  conv => whnf
  refine And.intro (fun _ => ?_) (fun h => by rw [hs] at h; exact absurd h (by decide))
  conv => whnf
  rw [hs]
  exact And.intro rfl rfl
end Go.Proofs.YtiibmnoikgfcbaaDoor
