/- Calls that are given a row that is only read. No condition. -/
import Derived.Test.YtiibmnoikgfcbaaDoorX13
namespace Go.Sx
open Go.RowKit
set_option linter.unusedVariables false
set_option linter.unusedSimpArgs false

/-- A slice value that may be read: how many, what. -/
structure RowV (w : World) (sz n : Nat) (get : Nat → List SV) (x : Value) : Prop where
  is : ∃ a c, x = .slice a n c ∧ n ≤ c ∧ RowRep Vl.none w sz n get a

theorem RowV.congr {w : World} {sz n : Nat} {get get' : Nat → List SV} {x : Value} (h : RowV w sz n get x) (hg : ∀ i, i < n → (get' i).length = (get i).length ∧ denL Vl.none (get' i) = denL Vl.none (get i)) : RowV w sz n get' x := by
  obtain ⟨a, c, rfl, hc, h1, h2, h3⟩ := h.is
  refine ⟨a, c, rfl, hc, h1, h2, fun i hi => ?_⟩
  obtain ⟨q1, ad, xs, q2, q3, q4⟩ := h3 i hi
  obtain ⟨g1, g2⟩ := hg i hi
  exact ⟨g1.trans q1, ad, xs, q2, g2.trans q3, q4⟩

/-- A world at a call's beginning, and a row that is only read. -/
theorem HS.startR (w : World) {sz n : Nat} {get : Nat → List SV} {a : Option Addr} {c : Nat} (hc : n ≤ c) (h : RowRep Vl.none w sz n get a) :
    HS ⟨w, fun _ => False, Vl.none.upd 0 (.rw a n c), []⟩ (Vl.none.upd 0 (.rw a n c)) [(0, .row sz n get)] 1 w :=
  { r := { hp := fun k o hk => by
             by_cases e : k = 0
             · subst e; rw [lk_cons_same] at hk; cases hk; exact ⟨_, Vl.upd_same _ _ _, ⟨rfl, hc⟩, rowRep_mono (Vl.none_le _) h⟩
             · rw [lk_cons_other _ _ e] at hk; cases hk
           dj := fun k k' o o' _ _ _ hk hk' _ _ hne hm => by
             by_cases e : k = 0
             · subst e; rw [lk_cons_same] at hk; cases hk; cases hm
             · rw [lk_cons_other _ _ e] at hk; cases hk
           ow := fun k o _ _ hk hm => by
             by_cases e : k = 0
             · subst e; rw [lk_cons_same] at hk; cases hk; cases hm
             · rw [lk_cons_other _ _ e] at hk; cases hk
           fr := Upd.refl _ _
           ag := Vl.le_refl _ }
    nx := fun k hk => by rw [Vl.upd_other _ _ (by omega)]; rfl }

section
variable {P : Program} {tb : Tab}
/-- A function that only computes, from a row and what is told besides. -/
theorem calls_row (hP : TabOk P tb) {f : FuncId} {fn : Func} {c : Code} (hf : P.funcs[f]? = some fn) (hb : fn.body = some c) {sz n : Nat} {get : Nat → List SV} {x : Value} (vs : List SV) {xs : List Value} (hd : denL Vl.none vs = some xs) {m : Nat} (hnt : fn.ntmps = m) (hn : Nat.ble (vs.length + 1) m = true) (y : Value)
    (h : X P c ⟨argsT 0 (.r 0 :: vs), [], [(0, .row sz n get)], 1, m⟩ (RetK tb fn.results.toList (fun v _ _ => shut v = some y) (fun _ _ _ => False))) (w : World) (hx : RowV w sz n get x) :
    Calls P f (x :: xs).toArray w fun e w' => e = .returned y ∧ Below w.heap.size w w' := by
  obtain ⟨a, c, rfl, hc, hr⟩ := hx.is
  exact enter_ok hP hf hb (HS.startR w hc hr) (vs := .r 0 :: vs) (denL_mk (by simp only [den, Vl.upd_same]) (denL_mono (Vl.none_le _) _ _ hd)) hnt hn h
    (fun ρ' v H' nx' y' w' hk hs hd' => by
      have := den_mono (Vl.none_le ρ') _ _ hk
      rw [hd'] at this
      cases this
      exact ⟨rfl, hs.fr.below⟩)
    (fun _ _ _ _ _ hk _ => hk.elim)

/-- Cells of known numbers. -/
def numAt (l : List SV) : Option Int :=
  match l with
  | [.n .u8 z] => some z
  | [.i .u8 z] => some z
  | _ => none
/-- A row of numbers, as terms. -/
def gI (get : Nat → List SV) (i : Nat) : Int := match numAt (get i) with | some z => z | none => 0
def rowB (g : Nat → Int) (i : Nat) : List SV := [.i .u8 (g i)]

theorem numAt_den {ρ : Vl} {l : List SV} {z : Int} (h : numAt l = some z) : l.length = 1 ∧ denL ρ l = some [.int .u8 z] := by
  unfold numAt at h
  split at h
  · cases h; exact ⟨rfl, rfl⟩
  · cases h; exact ⟨rfl, rfl⟩
  · cases h
theorem bytesG_num {n : Nat} {get : Nat → List SV} (h : BytesG n get) : ∀ i, i < n → numAt (get i) = some (gI get i) ∧ 0 ≤ gI get i ∧ gI get i < 256 := fun i hi => by
  obtain ⟨z, hz, e | e⟩ := h i hi
  · have : numAt (get i) = some (z : Int) := by rw [e]; rfl
    have h2 : gI get i = z := by unfold gI; rw [this]
    rw [h2]
    exact ⟨this, by omega, by omega⟩
  · have : numAt (get i) = some (z : Int) := by rw [e]; rfl
    have h2 : gI get i = z := by unfold gI; rw [this]
    rw [h2]
    exact ⟨this, by omega, by omega⟩

/-- A source whose length is at most what it may grow to. -/
def src2 (H : List (Nat × SO)) (v : SV) : Option (Prop × Nat × (Nat → List SV)) :=
  match v with
  | .sl h o n c => match Nat.ble n c with
    | true => srcOf H 1 (.sl h o n c)
    | false => none
  | .r h => srcOf H 1 (.r h)
  | .rs h lo n sz => srcOf H 1 (.rs h lo n sz)
  | _ => none
/-- What a source is, as a row that may be read. -/
theorem src_row {ρ : Vl} {w : World} {H : List (Nat × SO)} (hH : HOk ρ w H) {v : SV} {x : Value} (hx : den ρ v = some x) {p : Prop} {n : Nat} {get : Nat → List SV} (h : src2 H v = some (p, n, get)) (hp : p) (hb : BytesG n get) (hn : n ≤ maxLen) : RowV w 1 n (rowB (gI get)) x := by
  have main : ∀ a c, SrcIs ρ w 1 n get x → x = .slice a n c → n ≤ c → RowV w 1 n (rowB (gI get)) x := fun a c hs e hc => by
    obtain ⟨a', c', e', h1, h2⟩ := hs.is
    rw [e] at e'
    cases e'
    subst e
    refine ⟨a, c, rfl, hc, hn, fun h0 => ?_, fun i hi => ?_⟩
    · obtain ⟨q1, ad, xs, q2, q3, q4⟩ := h2 0 h0
      refine ⟨ad, q2, ?_⟩
      have hnum := (bytesG_num hb 0 h0).1
      have hd := (numAt_den (ρ := ρ) hnum).2
      rw [q3] at hd
      cases hd
      have hc0 := q4 0 _ rfl
      unfold World.cell? at hc0
      rw [addr_block] at hc0
      rcases Nat.lt_or_ge ad.block w.heap.size with h' | h'
      · exact h'
      · rw [Array.getElem?_eq_none h'] at hc0; simp at hc0
    · obtain ⟨q1, ad, xs, q2, q3, q4⟩ := h2 i hi
      have hnum := (bytesG_num hb i hi).1
      have hd := (numAt_den (ρ := ρ) hnum).2
      rw [q3] at hd
      cases hd
      exact ⟨rfl, ad, _, q2, rfl, q4⟩
  unfold src2 at h
  split at h
  · rename_i g o m c
    split at h
    case h_2 => cases h
    rename_i hc
    have hs := src_ok hH hx h hp
    have hm : m = n := by
      simp only [srcOf] at h
      split at h
      · split at h
        · cases h; rfl
        · cases h
      · cases h
    subst hm
    simp only [den] at hx
    split at hx
    · cases hx
      exact main _ _ hs rfl (Nat.le_of_ble_eq_true hc)
    · cases hx
  · rename_i g
    have hs := src_ok hH hx h hp
    simp only [srcOf] at h
    split at h
    case h_2 => cases h
    rename_i s m g' hl
    split at h
    case h_2 => cases h
    cases h
    obtain ⟨a, c, hr, hrow⟩ := row_lk hH hl
    simp only [den, hr, Option.some.injEq] at hx
    subst hx
    exact main _ _ hs rfl hrow.le
  · rename_i g lo m s'
    have hs := src_ok hH hx h hp
    simp only [srcOf] at h
    split at h
    case h_2 => cases h
    rename_i s n0 g' hl
    split at h
    case h_2 => cases h
    cases h
    obtain ⟨a, c, hr, hrow⟩ := row_lk hH hl
    have := hrow.le
    simp only [den, hr, Option.some.injEq] at hx
    subst hx
    exact main _ _ hs rfl (by omega)
  · cases h
end
end Go.Sx
