/- The walk of a region whose operations come in any order that their edges allow. No condition. -/
import Derived.Test.YtiibmnoikgfcbaaDoorX9
import Derived.Orders
namespace Go.Sx
open Go.RowKit
set_option linter.unusedVariables false
set_option linter.unusedSimpArgs false

/-- What is noted of one operation: its temporary, the guards of its value, the object that it made or turned, the handle that this was. -/
structure Rec where
  i : Nat
  d : Option Nat
  ids : List (Nat × Bool)
  v : SV
  ob : Option (Nat × SO)
  del : Option Nat

def bitAt (m j : Nat) : Bool := Nat.beq (Nat.land (Nat.shiftRight m j) 1) 1

def frN (m : Nat) (K : Nat → Prop) : Prop := match m with | 0 => K 0 | n + 1 => K (n + 1)
theorem frN_eq (m : Nat) (K : Nat → Prop) : frN m K = K m := by cases m <;> rfl

def edK (acc : List (Nat × Nat)) : List Edge → Nat → (Nat → Prop) → Prop
  | [], m, K => K m
  | e :: r, m, K => match Region.binds .any e with
    | true => match lk e.on acc with
      | some m' => edK acc r (Nat.lor (Nat.lor m (2 ^ e.on)) m') K
      | none => Stands "an edge"
    | false => edK acc r m K
def pmK : List Oper → Nat → List (Nat × Nat) → (List (Nat × Nat) → Prop) → Prop
  | [], _, acc, K => K acc
  | o :: r, i, acc, K => edK acc o.after.toList 0 fun m => frN m fun m => pmK r (Nat.succ i) ((i, m) :: acc) K
def dsOf : List Oper → Nat → List (Nat × Nat)
  | [], _ => []
  | o :: r, i => match o.dst with
    | some t => (i, t) :: dsOf r (Nat.succ i)
    | none => dsOf r (Nat.succ i)
def notIn (t : Nat) : List (Nat × Nat) → Bool
  | [] => true
  | (_, u) :: r => !(Nat.beq t u) && notIn t r
def dsApart : List (Nat × Nat) → Bool
  | [] => true
  | (_, t) :: r => notIn t r && dsApart r
def rmDs : List (Nat × Nat) → List (Nat × SV) → List (Nat × SV)
  | [], T => T
  | (_, t) :: r, T => rmDs r (rmT t T)
/-- Guards hang on operations that come before only. -/
def chkIds (m : Nat) (ids : List (Nat × Bool)) : List (Nat × Nat) → Bool
  | [] => true
  | (j, t) :: r => (!(namesId t ids) || bitAt m j) && chkIds m ids r

/-- Who turns which handle's object. -/
def keepH (W : List (Nat × Nat)) (pm : List (Nat × Nat)) (i h : Nat) : Bool :=
  match lk h W with
  | none => true
  | some k => Nat.beq k i || (match lk k pm with | some mk => bitAt mk i | none => false)
def filtH (W : List (Nat × Nat)) (pm : List (Nat × Nat)) (i : Nat) : List (Nat × SO) → List (Nat × SO)
  | [] => []
  | (h, o) :: r => bif keepH W pm i h then (h, o) :: filtH W pm i r else filtH W pm i r
def baseH (W : List (Nat × Nat)) (pm : List (Nat × Nat)) (i : Nat) (H : List (Nat × SO)) : List (Nat × SO) :=
  match W with
  | [] => H
  | _ :: _ => filtH W pm i H

abbrev GL := List (Nat × (List (Nat × Bool) × SV))
def addO (W pm : List (Nat × Nat)) (i : Nat) (ob : Option (Nat × SO)) (del : Option Nat) (H : List (Nat × SO)) (K : List (Nat × SO) → Prop) : Prop :=
  match ob with
  | none => K H
  | some (h, o) => match del with
    | some h' => match Nat.beq h h' with
      | true => K ((h, o) :: H)
      | false => match keepH W pm i h with
        | true => K ((h, o) :: H)
        | false => K H
    | none => match keepH W pm i h with
      | true => K ((h, o) :: H)
      | false => K H
/-- What is known where the operations of a mask are done. -/
def selK (W pm : List (Nat × Nat)) (i m : Nat) : List Rec → List (Nat × SV) → GL → List (Nat × SO) → (List (Nat × SV) → GL → List (Nat × SO) → Prop) → Prop
  | [], T, G, H, K => K T G H
  | ⟨j, d, ids, v, ob, del⟩ :: l, T, G, H, K => match bitAt m j with
    | false => selK W pm i m l T G H K
    | true => addO W pm i ob del H fun H => match d with
      | none => selK W pm i m l T G H K
      | some t => match ids with
        | [] => selK W pm i m l ((t, v) :: T) G H K
        | e :: ids => selK W pm i m l T ((t, (e :: ids, v)) :: G) H K

/-- What an operation leaves. -/
def xdout1 (real : Bool) (W : List (Nat × Nat)) (s : St) (i : Nat) (d : Option Nat) (ids : List (Nat × Bool)) (K : Rec → Prop) : Out → Prop
  | .val v => fr v fun v => K ⟨i, d, ids, v, none, none⟩
  | .new v ob => match ids with
    | [] => frO ob fun ob => fr v fun v => K ⟨i, d, [], v, some (s.nx, ob), none⟩
    | _ :: _ => Stands "a new object under a guard"
  | .upd v h ob => match ids, (match real, lk h W with | true, some k => Nat.beq k i | true, none => false | false, _ => true) with
    | [], true => frO ob fun ob => match v with
      | none => K ⟨i, d, [], .tu [], some (h, ob), some h⟩
      | some v => K ⟨i, d, [], v, some (h, ob), some h⟩
    | _, _ => Stands "a store under a guard"
  | .mv v h ob => match ids, (match real, lk h W with | true, some k => Nat.beq k i | true, none => false | false, _ => true) with
    | [], true => frO ob fun ob => fr v fun v => K ⟨i, d, [], v, some (s.nx, ob), some h⟩
    | _, _ => Stands "a row's growth under a guard"
  | .ob p k => match real with
    | true => obP s ids p ∧ xdout1 real W s i d ids K k
    | false => xdout1 real W s i d ids K k
  | .call f args => Stands "a call"
  | .pan _ => Stands "a panic in any order"
  | .no why => Stands why
def xdout (tb : Tab) (real : Bool) (W : List (Nat × Nat)) (s : St) (i : Nat) (d : Option Nat) (ids : List (Nat × Bool)) (K : Rec → Prop) : Out → Prop
  | .call f args => match tb.sum f args s.H s.nx with
    | some out => xdout1 real W s i d ids K out
    | none => Stands "a call in any order"
  | out => xdout1 real W s i d ids K out

/-- Told apart by a truth. -/
def spK (sp : Bool) (r : Rec) (K : Rec → Prop) : Prop :=
  match sp, r with
  | true, ⟨i, d, [], .b x, ob, del⟩ => (x = true → K ⟨i, d, [], .lb true, ob, del⟩) ∧ (x = false → K ⟨i, d, [], .lb false, ob, del⟩)
  | _, r => K r
def makes (tb : Tab) : Op → Bool
  | .alloc _ | .box .. | .buildSlice .. | .makeMap .. => true
  | .call c => match c.callee with
    | .value (.func f) => tb.news f
    | .builtin .append => true
    | _ => false
  | _ => false
def splitsAt (tb : Tab) (i : Nat) : List Oper → Bool
  | [] => false
  | o :: r => (match o.guard with | some (j, _) => Nat.beq i j && makes tb o.op | none => false) || splitsAt tb i r

/-- Who sets a temporary. -/
def lkT (t : Nat) : List (Nat × Nat) → Option Nat
  | [] => none
  | (j, u) :: r => match Nat.beq t u with
    | true => some j
    | false => lkT t r
/-- A temporary still holds what it held ahead of the region: who sets it comes later. -/
def oldB (ds pm : List (Nat × Nat)) (i t : Nat) : Bool :=
  match lkT t ds with
  | some j => match Nat.beq i j with
    | true => true
    | false => match lk j pm with
      | some m => bitAt m i
      | none => false
  | none => false
def oldK (ds pm : List (Nat × Nat)) (i : Nat) : List (Nat × SV) → List (Nat × SV) → (List (Nat × SV) → Prop) → Prop
  | [], T, K => K T
  | (t, v) :: r, T, K => match oldB ds pm i t with
    | true => oldK ds pm i r T fun T' => K ((t, v) :: T')
    | false => oldK ds pm i r T K

/-- The surroundings of a drawn region. -/
structure Dc where
  T0 : List (Nat × SV)
  T1 : List (Nat × SV)
  H0 : List (Nat × SO)
  nx : Nat
  n : Nat
  ds : List (Nat × Nat)
  pm : List (Nat × Nat)
  W : List (Nat × Nat)

def xdstep (tb : Tab) (real : Bool) (ops : Array Oper) (D : Dc) (o : Oper) (i m : Nat) (recs : List Rec) (K : Rec → Prop) : Prop :=
  match (match o.dst with | some t => Nat.blt t D.n | none => true) with
  | false => Stands "a temporary beyond"
  | true => sp (baseH D.W D.pm i D.H0) fun H => oldK D.ds D.pm i D.T1 D.T0 fun T0 => selK D.W D.pm i m recs T0 [] H fun T G H => frN (D.nx + i) fun nx =>
    let s : St := ⟨T, G, H, nx, D.n⟩
    match gdOf ops s o with
    | .no => Stands "a guard"
    | .skip => K ⟨i, o.dst, [], .tu [], none, none⟩
    | .run ids => match chkIds m ids D.ds with
      | false => Stands "a guard that does not come before"
      | true => match o.op with
        | .pick (.tmp c) a b => match ev s ids (.tmp c) with
          | some (.lb true) => match ev s ((c, true) :: ids) a with
            | some v => fr v fun v => K ⟨i, o.dst, ids, v, none, none⟩
            | none => Stands "a pick"
          | some (.lb false) => match ev s ((c, false) :: ids) b with
            | some v => fr v fun v => K ⟨i, o.dst, ids, v, none, none⟩
            | none => Stands "a pick"
          | some (.b x) => match ev s ((c, true) :: ids) a, ev s ((c, false) :: ids) b with
            | some a, some b => match pickV x a b with
              | some v => fr v fun v => K ⟨i, o.dst, ids, v, none, none⟩
              | none => Stands "a pick"
            | _, _ => Stands "a pick"
          | _ => Stands "a pick"
        | op => xdout tb real D.W s i o.dst ids K (xop tb H nx (ev s ids) op)

def xdops (tb : Tab) (real : Bool) (ops : Array Oper) (D : Dc) : List Oper → Nat → List Rec → (List Rec → Prop) → Prop
  | [], _, recs, K => K recs
  | o :: r, i, recs, K => match lk i D.pm with
    | some m => xdstep tb real ops D o i m recs fun x => spK (splitsAt tb i ops.toList) x fun x => xdops tb real ops D r (Nat.succ i) (x :: recs) K
    | none => Stands "a mask"

def mayWrite : List Oper → Bool
  | [] => false
  | o :: r => match o.op with
    | .store .. | .insert .. | .mapUpdate .. => true
    | .call c => match c.callee with
      | .builtin .append | .builtin .copy => true
      | _ => mayWrite r
    | _ => mayWrite r
def writers : List Rec → List (Nat × Nat)
  | [] => []
  | ⟨i, _, _, _, _, some h⟩ :: r => (h, i) :: writers r
  | _ :: r => writers r
def wrK : List Rec → List (Nat × Nat) → (List (Nat × Nat) → Prop) → Prop
  | [], W, K => K W
  | ⟨i, _, _, _, _, some h⟩ :: r, W, K => wrK r ((h, i) :: W) K
  | _ :: r, W, K => wrK r W K

/-- The numbers of a list, as bits. -/
def msk {α : Type} : List (Nat × α) → Nat → Nat
  | [], m => m
  | (u, _) :: r, m => msk r (Nat.lor m (2 ^ u))
def mskK {α : Type} : List (Nat × α) → Nat → (Nat → Prop) → Prop
  | [], m, K => K m
  | (u, _) :: r, m, K => mskK r (Nat.lor m (2 ^ u)) K
/-- What a mask does not name. -/
def dropM {α : Type} (m : Nat) : List (Nat × α) → List (Nat × α)
  | [] => []
  | (u, v) :: r => bif bitAt m u then dropM m r else (u, v) :: dropM m r
def dropK {α : Type} (m : Nat) : List (Nat × α) → (List (Nat × α) → Prop) → Prop
  | [], K => K []
  | (u, v) :: r, K => match bitAt m u with
    | true => dropK m r K
    | false => dropK m r fun r' => K ((u, v) :: r')
def swp : List (Nat × Nat) → List (Nat × Nat)
  | [] => []
  | (i, t) :: r => (t, i) :: swp r
/-- What is known of temporaries that the region does not set. -/
def keepK {α : Type} (m : Nat) : List (Nat × α) → (List (Nat × α) → Prop) → Prop
  | [], K => K []
  | (u, v) :: r, K => match bitAt m u with
    | false => keepK m r K
    | true => keepK m r fun r' => K ((u, v) :: r')
def rmDsK (ds : List (Nat × Nat)) (T : List (Nat × SV)) (K : List (Nat × SV) → List (Nat × SV) → Prop) : Prop :=
  mskK (swp ds) 0 fun m => keepK m T fun T1 => dropK m T fun T => K T1 T

/-- All but the last. -/
def initL : List Oper → List Oper
  | [] => []
  | [_] => []
  | o :: o' :: r => o :: initL (o' :: r)
def lastL : List Oper → Option Oper
  | [] => none
  | [o] => some o
  | _ :: o' :: r => lastL (o' :: r)
/-- The last operation is a call that is entered, behind all others. -/
def lastCall (tb : Tab) (pm : List (Nat × Nat)) (z : Nat) (o : Oper) : Bool :=
  match o.op with
  | .call c => match c.callee with
    | .value (.func f) => match tb.inl f, lk z pm with
      | some _, some m => Nat.beq m (2 ^ z - 1)
      | _, _ => false
    | _ => false
  | _ => false

def xdrawD (tb : Tab) (ops : Array Oper) (l : List Oper) (z : Nat) (T1 T : List (Nat × SV)) (H : List (Nat × SO)) (nx n : Nat) (ds pm W : List (Nat × Nat)) (K : St → Prop) : Prop :=
  xdops tb true ops ⟨T, T1, H, nx, n, ds, pm, W⟩ l 0 [] fun recs =>
    frN (2 ^ z - 1) fun m => sp (baseH W pm z H) fun H => selK W pm z m recs T [] H fun T _ H => frN (nx + z) fun nx => K ⟨T, [], H, nx, n⟩
def xdrawW (tb : Tab) (ops : Array Oper) (l : List Oper) (z : Nat) (T1 T : List (Nat × SV)) (H : List (Nat × SO)) (nx n : Nat) (ds pm : List (Nat × Nat)) (K : St → Prop) : Prop :=
  match mayWrite l with
  | false => xdrawD tb ops l z T1 T H nx n ds pm [] K
  | true => xdops tb false ops ⟨T, T1, H, nx, n, ds, pm, []⟩ l 0 [] fun recs => wrK recs [] fun W => xdrawD tb ops l z T1 T H nx n ds pm W K
def xdraw (P : Program) (tb : Tab) (C : CH) (ops : Array Oper) (s : St) (K : Exit → St → Prop) : Prop :=
  match s with
  | ⟨T, [], H, nx, n⟩ => pmK ops.toList 0 [] fun pm =>
    match dsApart (dsOf ops.toList 0) with
    | false => Stands "temporaries named twice"
    | true => sp (dsOf ops.toList 0) fun ds => match lastL ops.toList with
      | none => Stands "no operation"
      | some o => match lastCall tb pm (initL ops.toList).length o with
        | false => rmDsK ds T fun T1 T => xdrawW tb ops ops.toList ops.size T1 T H nx n ds pm (K .normal)
        | true => rmDsK ds T fun T1 T => frN (initL ops.toList).length fun z => xdrawW tb ops (initL ops.toList) z T1 T H nx n ds pm fun s => xstep P tb C ops o 5 s K
  | _ => Stands "guards at a drawn region"
end Go.Sx
