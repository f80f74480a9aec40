/- The walk of a region's operations, and that it is right. -/
import Derived.Test.YtiibmnoikgfcbaaDoorX6
namespace Go.Sx
open Go.RowKit
set_option linter.unusedVariables false
set_option linter.unusedSimpArgs false

def hasId (t : Nat) (b : Bool) : List (Nat × Bool) → Bool
  | [] => false
  | (u, c) :: r => (Nat.beq t u && (b == c)) || hasId t b r
def subIds : List (Nat × Bool) → List (Nat × Bool) → Bool
  | [], _ => true
  | (t, b) :: r, l => hasId t b l && subIds r l
def namesId (t : Nat) : List (Nat × Bool) → Bool
  | [] => false
  | (u, _) :: r => Nat.beq t u || namesId t r
/-- No guarded value stands in t or hangs on it. -/
def noG (t : Nat) : List (Nat × (List (Nat × Bool) × SV)) → Bool
  | [] => true
  | (u, (ids, _)) :: r => !(Nat.beq t u) && (!(namesId t ids) && noG t r)

/-- What an operand is, where the guards ids hold. -/
def ev (s : St) (ids : List (Nat × Bool)) : Operand → Option SV
  | .tmp t => match lk t s.G with
    | some (ids', v) => match subIds ids' ids with | true => some v | false => none
    | none => lk t s.T
  | .const v => some (cv v)
  | .func f => some (.f (.func f) [] [])
  | .global g => some (.q (.pointer (some ⟨g, 0, none⟩)))

inductive Gd where
  | run (ids : List (Nat × Bool))
  | skip
  | no

def gdOf (ops : Array Oper) (s : St) (o : Oper) : Gd :=
  match o.guard with
  | none => .run []
  | some (j, want) => match (ops.toList[j]?).bind Oper.dst with
    | some t => match lk t s.G with
      | some (ids, .b _) => .run ((t, want) :: ids)
      | some (ids, .lb b) => match b == want with | true => .run ((t, want) :: ids) | false => .skip
      | some _ => .no
      | none => match lk t s.T with
        | some (.b _) => .run [(t, want)]
        | some (.lb b) => match b == want with | true => .run [] | false => .skip
        | some (.tu []) => .skip
        | _ => .no
    | none => .no

/-- A value forced to its head, its lists to their last cell. -/
def frL {β : Prop} : List SV → (List SV → Prop) → Prop
  | [], K => K []
  | x :: r, K => frL (β := β) r fun r' => K (x :: r')
/-- A list forced to its last cell. -/
def sp {α : Type} : List α → (List α → Prop) → Prop
  | [], K => K []
  | x :: r, K => sp r fun r' => K (x :: r')
theorem sp_eq {α : Type} : ∀ (l : List α) (K : List α → Prop), sp l K = K l
  | [], K => rfl
  | x :: r, K => by simp only [sp, sp_eq r]
def frI (z : Int) (K : Int → Prop) : Prop :=
  match z with
  | .ofNat a => K (.ofNat a)
  | .negSucc a => K (.negSucc a)
def fr (v : SV) (K : SV → Prop) : Prop :=
  match v with
  | .n k z => frI z fun z => K (.n k z)
  | .i k x => K (.i k x)
  | .lb true => K (.lb true)
  | .lb false => K (.lb false)
  | .b x => K (.b x)
  | .s x => K (.s x)
  | .ls l => K (.ls l)
  | .p h o => K (.p h o)
  | .nilp => K .nilp
  | .sl h o n c => K (.sl h o n c)
  | .r h => K (.r h)
  | .pr h j sz o => K (.pr h j sz o)
  | .rs h lo n sz => K (.rs h lo n sz)
  | .nils => K .nils
  | .m h => K (.m h)
  | .nilm => K .nilm
  | .f fn a c => frL (β := True) a fun a => frL (β := True) c fun c => K (.f fn a c)
  | .nilf => K .nilf
  | .ag l => frL (β := True) l fun l => K (.ag l)
  | .tu l => frL (β := True) l fun l => K (.tu l)
  | .ifc t v => K (.ifc t v)
  | .nili => K .nili
  | .q v => K (.q v)
def frO (o : SO) (K : SO → Prop) : Prop :=
  match o with
  | .cells l t => frL (β := True) l fun l => K (.cells l t)
  | .row sz n get => K (.row sz n get)
  | .own t sz n get => K (.own t sz n get)
  | .mp es => K (.mp es)
  | .ab A => K (.ab A)
  | .rd A => K (.rd A)

/-- The walk can't go on here: WHY. -/
def Stands (why : String) : Prop := False

/-- Put into a temporary. -/
def put (s : St) (ids : List (Nat × Bool)) (d : Option Nat) (v : SV) (K : St → Prop) : Prop :=
  match s, d with
  | s, none => K s
  | ⟨T, G, H, nx, n⟩, some t => match Nat.blt t n && noG t G with
    | true => match ids with
      | [] => K ⟨(t, v) :: T, G, H, nx, n⟩
      | e :: r => match namesId t (e :: r) with
        | false => K ⟨T, (t, (e :: r, v)) :: G, H, nx, n⟩
        | true => Stands "a guard's own temporary"
    | false => Stands "a temporary on which a guarded value hangs"

/-- The guards, as what they say. -/
def idsP (s : St) : List (Nat × Bool) → Prop
  | [] => True
  | (t, b) :: r => (match lk t s.G with
    | some (_, .b x) => x = b
    | some _ => True
    | none => match lk t s.T with
      | some (.b x) => x = b
      | _ => True) ∧ idsP s r

/-- The outermost guard. -/
def lastId : List (Nat × Bool) → Option Nat
  | [] => none
  | [(t, _)] => some t
  | _ :: r => lastId r
def rmId (t : Nat) (b : Bool) : List (Nat × Bool) → List (Nat × Bool)
  | [] => []
  | (u, c) :: r => bif Nat.beq t u && (b == c) then rmId t b r else (u, c) :: rmId t b r
/-- Guarded values, where t has come to be b. -/
def resG (t : Nat) (b : Bool) : List (Nat × (List (Nat × Bool) × SV)) → List (Nat × SV) → List (Nat × (List (Nat × Bool) × SV)) → (List (Nat × SV) → List (Nat × (List (Nat × Bool) × SV)) → Prop) → Prop
  | [], T, G, K => K T G
  | (u, (ids, v)) :: r, T, G, K => resG t b r T G fun T G => match hasId t (!b) ids with
    | true => K ((u, .tu []) :: T) G
    | false => match rmId t b ids with
      | [] => K ((u, v) :: T) G
      | e :: ids => K T ((u, (e :: ids, v)) :: G)

/-- A call whose contract is the prover's to give. -/
def XCall (P : Program) (f : FuncId) (args : List SV) (H : List (Nat × SO)) (nx : Nat) (K : SV → List (Nat × SO) → Nat → Prop) (KP : List PanicEntry → List (Nat × SO) → Nat → Prop) : Prop :=
  ∀ cx ρ w, HS cx ρ H nx w → ∀ xs, denL ρ args = some xs → Calls P f xs.toArray w fun
    | .returned y, w' => ∃ ρ' v H' nx', ρ.le ρ' ∧ den ρ' v = some y ∧ HS cx ρ' H' nx' w' ∧ K v H' nx'
    | .panicked c, w' => ∃ ρ' H' nx', ρ.le ρ' ∧ HS cx ρ' H' nx' w' ∧ KP c H' nx'
    | .outgrown, _ => False

/-- An operation that is the prover's to carry out. -/
def XOp (P : Program) (why : String) (o : Oper) (s : St) (K : Exit → St → Prop) : Prop :=
  ∀ cx ρ a w, Sat cx ρ s a w → ∀ Q : Exit → Act → World → Prop, (∀ e ρ' s' a' w', K e s' → Sat cx ρ' s' a' w' → Q e a' w') → o.wp P a w (Q .normal) Q

/-- A value known to hold no handle. -/
def shut (v : SV) : Option Value := den Vl.none v

/-- Who answers calls. -/
abbrev CH := FuncId → List SV → List (Nat × SO) → Nat → (SV → List (Nat × SO) → Nat → Prop) → (List PanicEntry → List (Nat × SO) → Nat → Prop) → Prop

/-- An obligation, where the guards hold. -/
def obP (s : St) (ids : List (Nat × Bool)) (p : Prop) : Prop :=
  match ids with
  | [] => p
  | e :: r => idsP s (e :: r) → p
theorem obP_eq {s : St} {ids : List (Nat × Bool)} {p : Prop} (h : obP s ids p) : idsP s ids → p := by
  cases ids with
  | nil => exact fun _ => h
  | cons e r => exact h

def xout1 (P : Program) (s : St) (ids : List (Nat × Bool)) (o : Oper) (splits : Prop) (K : Exit → St → Prop) : Out → Prop
  | .val v => fr v fun v => put s ids o.dst v (K .normal)
  | .new v ob => match ids, s with
    | [], ⟨T, G, H, nx, n⟩ => frO ob fun ob => fr v fun v => put ⟨T, G, (nx, ob) :: H, Nat.succ nx, n⟩ [] o.dst v (K .normal)
    | _ :: _, _ => splits
  | .upd v h ob => match ids, s with
    | [], ⟨T, G, H, nx, n⟩ => frO ob fun ob => match v with
      | none => sp (rp h ob H) fun H => put ⟨T, G, H, nx, n⟩ [] o.dst (.tu []) (K .normal)
      | some v => sp (rp h ob H) fun H => put ⟨T, G, H, nx, n⟩ [] o.dst v (K .normal)
    | _ :: _, _ => splits
  | .mv v h ob => match ids, s with
    | [], ⟨T, G, H, nx, n⟩ => frO ob fun ob => fr v fun v => sp (rmH h H) fun H => put ⟨T, G, (nx, ob) :: H, Nat.succ nx, n⟩ [] o.dst v (K .normal)
    | _ :: _, _ => splits
  | .ob p k => obP s ids p ∧ xout1 P s ids o splits K k
  | .call f args => Stands "a call"
  | .pan v => match ids with
    | [] => match shut v with
      | some y => K (.panic [{ v := y, recovered := false }]) s
      | none => Stands "a panic with a handle"
    | _ :: _ => splits
  | .no why => match ids with
    | [] => XOp P why o s K
    | _ :: _ => splits

def xout (P : Program) (tb : Tab) (C : CH) (s : St) (ids : List (Nat × Bool)) (o : Oper) (splits : Prop) (K : Exit → St → Prop) : Out → Prop
  | .call f args => match tb.sum f args s.H s.nx with
    | some out => xout1 P s ids o splits K out
    | none => match ids, s with
      | [], ⟨T, G, H, nx, n⟩ => frL (β := True) args fun args => C f args H nx (fun v H nx => put ⟨T, G, H, nx, n⟩ [] o.dst v (K .normal)) (fun c H nx => K (.panic c) ⟨T, G, H, nx, n⟩)
      | _ :: _, _ => splits
  | out => xout1 P s ids o splits K out

/-- Of two truths. -/
def pickV (x : Bool) (a b : SV) : Option SV :=
  match a, b with
  | .lb a, .lb b => some (.b (bif x then a else b))
  | .lb a, .b b => some (.b (bif x then a else b))
  | .b a, .lb b => some (.b (bif x then a else b))
  | .b a, .b b => some (.b (bif x then a else b))
  | _, _ => none

def xstep (P : Program) (tb : Tab) (C : CH) (ops : Array Oper) (o : Oper) : Nat → St → (Exit → St → Prop) → Prop
  | 0, _, _ => Stands "too many guards"
  | fuel + 1, ⟨T, G, H, nx, n⟩, K =>
    let s : St := ⟨T, G, H, nx, n⟩
    match gdOf ops s o with
    | .no => Stands "a guard"
    | .skip => put s [] o.dst (.tu []) (K .normal)
    | .run ids =>
      let splits : Prop := match lastId ids with
        | some t => match lk t G, lk t T with
          | none, some (.b x) => (x = true → resG t true G ((t, .lb true) :: T) [] fun T G => xstep P tb C ops o fuel ⟨T, G, H, nx, n⟩ K) ∧ (x = false → resG t false G ((t, .lb false) :: T) [] fun T G => xstep P tb C ops o fuel ⟨T, G, H, nx, n⟩ K)
          | _, _ => Stands "the outermost guard"
        | none => Stands "no guard"
      match o.op with
      | .pick (.tmp c) a b => match ev s ids (.tmp c) with
        | some (.lb true) => match ev s ((c, true) :: ids) a with
          | some v => fr v fun v => put s ids o.dst v (K .normal)
          | none => Stands "a pick"
        | some (.lb false) => match ev s ((c, false) :: ids) b with
          | some v => fr v fun v => put s ids o.dst v (K .normal)
          | none => Stands "a pick"
        | some (.b x) => match ev s ((c, true) :: ids) a, ev s ((c, false) :: ids) b with
          | some a, some b => match pickV x a b with
            | some v => fr v fun v => put s ids o.dst v (K .normal)
            | none => Stands "a pick"
          | _, _ => Stands "a pick"
        | _ => Stands "a pick"
      | op => xout P tb C s ids o splits K (xop tb H nx (ev s ids) op)

def xops (P : Program) (tb : Tab) (C : CH) (ops : Array Oper) : List Oper → St → (Exit → St → Prop) → Prop
  | [], s, K => K .normal s
  | o :: r, s, K => xstep P tb C ops o 5 s fun e s' => match e with
    | .normal => xops P tb C ops r s' K
    | e => K e s'
end Go.Sx
