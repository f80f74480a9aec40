/- Tables: which functions are entered, which calls have a summary. -/
import Derived.Test.YtiibmnoikgfcbaaDoorX10
namespace Go.Sx
open Go.RowKit
set_option linter.unusedVariables false
set_option linter.unusedSimpArgs false

def Enters (P : Program) (f : FuncId) : Prop := ∀ args w, (callFunc f args).run P w = .ok (.enter f args) w
theorem Enters.mk {P : Program} {f : FuncId} {fn : Func} (hf : P.funcs[f]? = some fn) (hn : (fn.name == "runtime.NumGoroutine") = false) (hb : fn.body.isNone = false) : Enters P f := fun args w => by
  have hn' : ¬ fn.name = "runtime.NumGoroutine" := by simpa using hn
  have hb' : ¬ fn.body = none := by intro e; rw [e] at hb; cases hb
  simp [callFunc, hf, hn', hb']

def memN (f : Nat) : List Nat → Bool
  | [] => false
  | g :: r => Nat.beq f g || memN f r
def entersAll (P : Program) : List Nat → Prop
  | [] => True
  | f :: r => Enters P f ∧ entersAll P r
theorem enters_mem {P : Program} : ∀ {l : List Nat}, entersAll P l → ∀ f, memN f l = true → Enters P f
  | [], _, f, h => by cases h
  | g :: r, hr, f, h => by
    simp only [memN, Bool.or_eq_true] at h
    rcases h with h | h
    · have := Nat.eq_of_beq_eq_true h; subst this; exact hr.1
    · exact enters_mem hr.2 f h

abbrev Sum := List SV → List (Nat × SO) → Nat → Option Out
/-- What a summary of a function owes. -/
def SumOk1 (P : Program) (f : FuncId) (g : Sum) : Prop := ∀ args H nx out, g args H nx = some out → ∀ ρ w xs, HOk ρ w H → denL ρ args = some xs → ρ nx = none → SumRes P f xs ρ w H nx out

def sumsAll (P : Program) : List (Nat × Sum) → Prop
  | [] => True
  | x :: r => SumOk1 P x.1 x.2 ∧ sumsAll P r
theorem sums_lk {P : Program} : ∀ {l : List (Nat × Sum)}, sumsAll P l → ∀ f g, lk f l = some g → SumOk1 P f g
  | [], _, f, g, h => by cases h
  | (k, j) :: r, hr, f, g, h => by
    by_cases e : f = k
    · subst e; rw [lk_cons_same] at h; cases h; exact hr.1
    · rw [lk_cons_other _ _ e] at h; exact sums_lk hr.2 f g h

def inlAll (P : Program) : List (Nat × Func) → Prop
  | [] => True
  | x :: r => P.funcs[x.1]? = some x.2 ∧ inlAll P r
theorem inl_lk {P : Program} : ∀ {l : List (Nat × Func)}, inlAll P l → ∀ f fn, lk f l = some fn → P.funcs[f]? = some fn
  | [], _, f, g, h => by cases h
  | (k, j) :: r, hr, f, g, h => by
    by_cases e : f = k
    · subst e; rw [lk_cons_same] at h; cases h; exact hr.1
    · rw [lk_cons_other _ _ e] at h; exact inl_lk hr.2 f g h

def mkTab (rows : List (Nat × Ti)) (eqs : List (Nat × List CK)) (fns : List Nat) (news : List Nat) (inl : List (Nat × Func)) (unr : Nat) (sums : List (Nat × Sum)) : Tab where
  ti t := lk t rows
  eqs t := lk t eqs
  fns f := memN f fns
  news f := memN f news
  inl f := lk f inl
  unr := unr
  sum f args H nx := match lk f sums with | some g => g args H nx | none => none
  own _ := false

def eqsAll (P : Program) : List (Nat × List CK) → Prop
  | [] => True
  | x :: r => (EqOk P x.1 x.2 ∧ KeyOk P x.1 x.2) ∧ eqsAll P r
theorem eqs_lk {P : Program} : ∀ {l : List (Nat × List CK)}, eqsAll P l → ∀ t cs, lk t l = some cs → EqOk P t cs ∧ KeyOk P t cs
  | [], _, f, g, h => by cases h
  | (k, j) :: r, hr, f, g, h => by
    by_cases e : f = k
    · subst e; rw [lk_cons_same] at h; cases h; exact hr.1
    · rw [lk_cons_other _ _ e] at h; exact eqs_lk hr.2 f g h

theorem mkTab_ok {P : Program} {rows : List (Nat × Ti)} {eqs : List (Nat × List CK)} {fns news : List Nat} {inl : List (Nat × Func)} {unr : Nat} {sums : List (Nat × Sum)} (hm : P.follows .mixedOrders = true) (hr : ∀ t i, lk t rows = some i → TiOk P t i)
    (he : eqsAll P eqs) (hf : entersAll P fns) (hi : inlAll P inl) (hs : sumsAll P sums) : TabOk P (mkTab rows eqs fns news inl unr sums) where
  mixed := hm
  ti := hr
  eqs := eqs_lk he
  fns f h := enters_mem hf f h
  inl f fn h := inl_lk hi f fn h
  sum f args H nx out h := by
    simp only [mkTab] at h
    split at h
    · rename_i g hg; exact sums_lk hs f g hg args H nx out h
    · cases h

/-- A summary of a function that only computes. -/
theorem SumOk1.pure {P : Program} {f : FuncId} (g : List SV → Option SV) (h : ∀ args v, g args = some v → ∀ ρ xs, denL ρ args = some xs → ∃ y, den ρ v = some y ∧ ∀ w, Calls P f xs.toArray w fun e w' => e = .returned y ∧ Below w.heap.size w w') :
    SumOk1 P f (fun args _ _ => (g args).map .val) := by
  intro args H nx out ho ρ w xs _ hd _
  obtain ⟨v, hv, rfl⟩ := Option.map_eq_some_iff.1 ho
  obtain ⟨y, h1, h2⟩ := h args v hv ρ xs hd
  exact (h2 w).mono fun e w' ⟨a, b⟩ => ⟨y, a, h1, b⟩

/-- A whole number of a kind. -/
def intK (k : IntKind) (v : SV) : Option Int :=
  match asI v with
  | some (k', z) => match kEq k' k with | true => some z | false => none
  | none => none
theorem intK_ok {ρ : Vl} {k : IntKind} {v : SV} {z : Int} {x : Value} (h : intK k v = some z) (hx : den ρ v = some x) : x = .int k z := by
  unfold intK at h
  split at h
  case h_2 => cases h
  rename_i k' z' h1
  split at h
  case h_2 => cases h
  rename_i hk
  cases h
  have := kEq_ok hk
  subst this
  exact asI_ok h1 hx
end Go.Sx
