/- A table that the library reads, as an object that is only read; calls that begin with it; rows that a call makes. No condition. -/
import Derived.Test.YtiibmnoikgfcbaaDoorX12
import Derived.Lib.LaidTab
namespace Go.Sx
open Go.RowKit
set_option linter.unusedVariables false
set_option linter.unusedSimpArgs false

/-- A package variable that holds a table. -/
def tabAO (P : Program) (name : String) (k : IntKind) (zs : List Int) : AO where
  rep w _ := Lib.TabIs P w name k zs
  fp _ _ j := P.globalNamed name = some j
  inb w hv j h e := by
    unfold Lib.TabIs World.var? at h
    rw [e] at h
    simp only [Option.bind_some] at h
    rcases Nat.lt_or_ge j w.heap.size with h' | h'
    · exact h'
    · rw [Array.getElem?_eq_none h'] at h; cases h
  keep w w' hv h hs hk := by
    refine ⟨?_, fun _ h => h⟩
    unfold Lib.TabIs World.var? at h ⊢
    cases e : P.globalNamed name with
    | none => rw [e] at h; cases h
    | some g =>
      rw [e] at h
      simp only [Option.bind_some] at h ⊢
      rw [hk g e]
      exact h

/-- A world at a call's beginning, and a word of it. -/
theorem HS.start1 (w : World) (A : AO) (h : A.rep w (.blk 0)) : HS ⟨w, fun _ => False, Vl.none.upd 0 (.blk 0), []⟩ (Vl.none.upd 0 (.blk 0)) [(0, .rd A)] 1 w :=
  { r := { hp := fun k o hk => by
             by_cases e : k = 0
             · subst e; rw [lk_cons_same] at hk; cases hk; exact ⟨_, Vl.upd_same _ _ _, h⟩
             · rw [lk_cons_other _ _ e] at hk; cases hk
           dj := fun k k' o o' _ _ _ hk hk' _ _ hne hm => by
             by_cases e : k = 0
             · subst e; rw [lk_cons_same] at hk; cases hk; cases hm
             · rw [lk_cons_other _ _ e] at hk; cases hk
           ow := fun k o _ _ hk hm => by
             by_cases e : k = 0
             · subst e; rw [lk_cons_same] at hk; cases hk; cases hm
             · rw [lk_cons_other _ _ e] at hk; cases hk
           fr := Upd.refl _ _
           ag := Vl.le_refl _ }
    nx := fun k hk => by rw [Vl.upd_other _ _ (by omega)]; rfl }

section
variable {P : Program} {tb : Tab}
/-- A function that only computes, and reads a table. -/
theorem calls_tab (hP : TabOk P tb) {f : FuncId} {fn : Func} {c : Code} (hf : P.funcs[f]? = some fn) (hb : fn.body = some c) (A : AO) (vs : List SV) {xs : List Value} (hd : denL Vl.none vs = some xs) {n : Nat} (hnt : fn.ntmps = n) (hn : Nat.ble vs.length n = true) (y : Value)
    (h : X P c ⟨argsT 0 vs, [], [(0, .rd A)], 1, n⟩ (RetK tb fn.results.toList (fun v _ _ => shut v = some y) (fun _ _ _ => False))) (w : World) (hA : A.rep w (.blk 0)) :
    Calls P f xs.toArray w fun e w' => e = .returned y ∧ Below w.heap.size w w' :=
  enter_ok hP hf hb (HS.start1 w A hA) (denL_mono (Vl.none_le _) _ _ hd) hnt hn h
    (fun ρ' v H' nx' y' w' hk hs hd' => by
      have := den_mono (Vl.none_le ρ') _ _ hk
      rw [hd'] at this
      cases this
      exact ⟨rfl, hs.fr.below⟩)
    (fun _ _ _ _ _ hk _ => hk.elim)

/-- A row of one cell's elements that is the call's own. -/
def newV (t n : Nat) (g : Nat → Value) (v : SV) (H : List (Nat × SO)) : Prop :=
  match ownOf H t 1 v with
  | some (m, get, _) => m = n ∧ ∀ i, i < n → denL Vl.none (get i) = some [g i]
  | none => False
/-- What a call is asked that makes a row, and tells a value beside it (or none). -/
def newK (t n : Nat) (g : Nat → Value) (y : Option Value) (v : SV) (H : List (Nat × SO)) (_ : Nat) : Prop :=
  match y with
  | some y => match v with
    | .tu [u, e] => newV t n g u H ∧ shut e = some y
    | _ => False
  | none => newV t n g v H
def back (y : Option Value) (x : Value) : Value := match y with | some y => .tuple #[x, y] | none => x
def backS (y : Option SV) (x : SV) : SV := match y with | some y => .tu [x, y] | none => x

/-- A row that came back: its value, what it holds. -/
def RowBack (t n : Nat) (g : Nat → Value) (y : Option Value) (e : Ending) (w w' : World) : Prop :=
  ∃ x, e = .returned (back y x) ∧ Below w.heap.size w w' ∧ (∀ k, x.ownBlock = some k → w.heap.size ≤ k ∧ k < w'.heap.size) ∧ ∃ xs, w'.ownsRow 0 t 1 x n xs ∧ ∀ i, i < n → (xs.drop i).take 1 = [g i]

theorem newV_ok {t n : Nat} {g : Nat → Value} {w w' : World} {ρ' : Vl} {v : SV} {H' : List (Nat × SO)} {nx' : Nat} {y' : Value} {ρ0 : Vl} (hk : newV t n g v H') (hs : HS ⟨w, fun _ => False, ρ0, []⟩ ρ' H' nx' w') (hd : den ρ' v = some y') :
    (∀ k, y'.ownBlock = some k → w.heap.size ≤ k ∧ k < w'.heap.size) ∧ ∃ xs, w'.ownsRow 0 t 1 y' n xs ∧ ∀ i, i < n → (xs.drop i).take 1 = [g i] := by
  unfold newV at hk
  split at hk
  case h_2 => exact hk.elim
  rename_i m get ho hown
  obtain ⟨rfl, hg⟩ := hk
  obtain ⟨⟨xs, h1, h2⟩, h3, h4, _⟩ := own_ok hs.hp hd hown
  refine ⟨fun k hk => ?_, xs, h1, fun i hi => ?_⟩
  · cases ho with
    | none =>
      have := (h3 rfl).1
      rw [this] at hk
      cases hk
    | some h =>
      obtain ⟨hv, o0, q1, q2, q3, q4⟩ := h4 h rfl
      have q5 := q4 k hk
      obtain ⟨hv', q6, q7⟩ := hs.hp h _ q1
      rw [q3] at q6; cases q6
      rcases hs.r.ow h _ _ k q1 q2 q3 q5 with h5 | h5
      · exact ⟨h5, SO.inb q7 q5⟩
      · exact h5.elim
  · have h5 := (h2 i hi).2
    rw [denL_mono (Vl.none_le ρ') _ _ (hg i hi)] at h5
    simpa using (Option.some.inj h5).symm

theorem newK_ok {t n : Nat} {g : Nat → Value} {y : Option Value} {w w' : World} {ρ' : Vl} {v : SV} {H' : List (Nat × SO)} {nx' : Nat} {y' : Value} {ρ0 : Vl} (hk : newK t n g y v H' nx') (hs : HS ⟨w, fun _ => False, ρ0, []⟩ ρ' H' nx' w') (hd : den ρ' v = some y') : RowBack t n g y (.returned y') w w' := by
  unfold newK at hk
  split at hk
  · split at hk
    case h_2 => exact hk.elim
    rename_i y u e
    obtain ⟨h1, he⟩ := hk
    have he' := den_mono (Vl.none_le ρ') _ _ he
    cases hu : den ρ' u with
    | none => simp only [den, denL, hu] at hd; cases hd
    | some x =>
      simp only [den, denL, hu, he', Option.some.injEq] at hd
      subst hd
      exact ⟨x, rfl, hs.fr.below, newV_ok h1 hs hu⟩
  · exact ⟨y', rfl, hs.fr.below, newV_ok hk hs hd⟩

theorem calls_new (hP : TabOk P tb) {f : FuncId} {fn : Func} {c : Code} (hf : P.funcs[f]? = some fn) (hb : fn.body = some c) (vs : List SV) {xs : List Value} (hd : denL Vl.none vs = some xs) {m : Nat} (hnt : fn.ntmps = m) (hn : Nat.ble vs.length m = true) (t n : Nat) (g : Nat → Value) (y : Option Value)
    (h : X P c ⟨argsT 0 vs, [], [], 0, m⟩ (RetK tb fn.results.toList (newK t n g y) (fun _ _ _ => False))) (w : World) :
    Calls P f xs.toArray w fun e w' => RowBack t n g y e w w' :=
  enter_ok hP hf hb (HS.start w) hd hnt hn h (fun ρ' v H' nx' y' w' hk hs hd' => newK_ok hk hs hd') (fun _ _ _ _ _ hk _ => hk.elim)

/-- A row that came back, as an object. -/
theorem RowBack.eff {t n : Nat} {g : Nat → Value} {y : Option Value} {e : Ending} {w w' : World} (h : RowBack t n g y e w w') {ρ : Vl} {nx : Nat} {v : Option SV} {get : Nat → List SV} (hv : v.map shut = y.map some) (hg : ∀ i, i < n → (get i).length = 1 ∧ denL Vl.none (get i) = some [g i]) :
    ∃ z, e = .returned z ∧ Eff ρ w nx (.new (backS v (.r nx)) (.own t 1 n get)) z w' := by
  obtain ⟨x, rfl, hb, h1, xs, h2, h3⟩ := h
  obtain ⟨a, c, rfl⟩ : ∃ a c, x = .slice a n c := by
    rcases h2.2 with ⟨e1, e2⟩ | ⟨b, c, cur, e1, _⟩
    · subst e2; exact ⟨none, 0, e1⟩
    · exact ⟨_, c, e1⟩
  refine ⟨_, rfl, .rw a n c, ?_, hb, ?_, ?_⟩
  · cases v with
    | none =>
      cases y with
      | some y => cases hv
      | none => simp only [back, backS, den, Vl.upd_same]
    | some v =>
      cases y with
      | none => cases hv
      | some y =>
        have hv : shut v = some y := by simpa using hv
        have he' := den_mono (Vl.none_le (ρ.upd nx (.rw a n c))) _ _ hv
        simp only [back, backS, den, denL, Vl.upd_same, he']
  · refine ⟨rfl, xs, h2, fun i hi => ⟨(hg i hi).1, ?_⟩⟩
    rw [denL_mono (Vl.none_le _) _ _ (hg i hi).2]
    have := h3 i hi
    simpa using this.symm
  · intro k hk
    obtain ⟨ad, rfl, rfl⟩ := hk
    exact h1 _ rfl
end

def oneGB : Nat → (Nat → List SV) → Bool
  | 0, _ => true
  | n + 1, g => allOne (g n) && oneGB n g
theorem oneG_of {g : Nat → List SV} : ∀ {n : Nat}, oneGB n g = true → OneG n g
  | 0, _, i, hi => absurd hi (by omega)
  | n + 1, h, i, hi => by
    simp only [oneGB, Bool.and_eq_true] at h
    by_cases e : i = n
    · subst e; exact h.1
    · exact oneG_of h.2 i (by omega)
end Go.Sx
