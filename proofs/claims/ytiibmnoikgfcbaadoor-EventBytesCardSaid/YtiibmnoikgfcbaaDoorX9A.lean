/- The walk of a region whose operations come in any order that their edges allow. No condition. The walk of a region in any order is right. No condition. The walk of a region in any order is right: every order comes to the same notes. No condition. -/
import Derived.Test.YtiibmnoikgfcbaaDoorX9
import Derived.Orders
namespace Go.Sx
open Go.RowKit
set_option linter.unusedVariables false
set_option linter.unusedSimpArgs false

/-- What is noted of one operation: its temporary, the guards of its value, the object that it made or turned, the handle that this was. -/
structure Rec where
  i : Nat
  d : Option Nat
  ids : List (Nat × Bool)
  v : SV
  ob : Option (Nat × SO)
  del : Option Nat

def bitAt (m j : Nat) : Bool := Nat.beq (Nat.land (Nat.shiftRight m j) 1) 1

def frN (m : Nat) (K : Nat → Prop) : Prop := match m with | 0 => K 0 | n + 1 => K (n + 1)
theorem frN_eq (m : Nat) (K : Nat → Prop) : frN m K = K m := by cases m <;> rfl

def edK (acc : List (Nat × Nat)) : List Edge → Nat → (Nat → Prop) → Prop
  | [], m, K => K m
  | e :: r, m, K => match Region.binds .any e with
    | true => match lk e.on acc with
      | some m' => edK acc r (Nat.lor (Nat.lor m (2 ^ e.on)) m') K
      | none => Stands "an edge"
    | false => edK acc r m K
def pmK : List Oper → Nat → List (Nat × Nat) → (List (Nat × Nat) → Prop) → Prop
  | [], _, acc, K => K acc
  | o :: r, i, acc, K => edK acc o.after.toList 0 fun m => frN m fun m => pmK r (Nat.succ i) ((i, m) :: acc) K
def dsOf : List Oper → Nat → List (Nat × Nat)
  | [], _ => []
  | o :: r, i => match o.dst with
    | some t => (i, t) :: dsOf r (Nat.succ i)
    | none => dsOf r (Nat.succ i)
def notIn (t : Nat) : List (Nat × Nat) → Bool
  | [] => true
  | (_, u) :: r => !(Nat.beq t u) && notIn t r
def dsApart : List (Nat × Nat) → Bool
  | [] => true
  | (_, t) :: r => notIn t r && dsApart r
def rmDs : List (Nat × Nat) → List (Nat × SV) → List (Nat × SV)
  | [], T => T
  | (_, t) :: r, T => rmDs r (rmT t T)
/-- Guards hang on operations that come before only. -/
def chkIds (m : Nat) (ids : List (Nat × Bool)) : List (Nat × Nat) → Bool
  | [] => true
  | (j, t) :: r => (!(namesId t ids) || bitAt m j) && chkIds m ids r

/-- Who turns which handle's object. -/
def keepH (W : List (Nat × Nat)) (pm : List (Nat × Nat)) (i h : Nat) : Bool :=
  match lk h W with
  | none => true
  | some k => Nat.beq k i || (match lk k pm with | some mk => bitAt mk i | none => false)
def filtH (W : List (Nat × Nat)) (pm : List (Nat × Nat)) (i : Nat) : List (Nat × SO) → List (Nat × SO)
  | [] => []
  | (h, o) :: r => bif keepH W pm i h then (h, o) :: filtH W pm i r else filtH W pm i r
def baseH (W : List (Nat × Nat)) (pm : List (Nat × Nat)) (i : Nat) (H : List (Nat × SO)) : List (Nat × SO) :=
  match W with
  | [] => H
  | _ :: _ => filtH W pm i H

abbrev GL := List (Nat × (List (Nat × Bool) × SV))
def addO (W pm : List (Nat × Nat)) (i : Nat) (ob : Option (Nat × SO)) (del : Option Nat) (H : List (Nat × SO)) (K : List (Nat × SO) → Prop) : Prop :=
  match ob with
  | none => K H
  | some (h, o) => match del with
    | some h' => match Nat.beq h h' with
      | true => K ((h, o) :: H)
      | false => match keepH W pm i h with
        | true => K ((h, o) :: H)
        | false => K H
    | none => match keepH W pm i h with
      | true => K ((h, o) :: H)
      | false => K H
/-- What is known where the operations of a mask are done. -/
def selK (W pm : List (Nat × Nat)) (i m : Nat) : List Rec → List (Nat × SV) → GL → List (Nat × SO) → (List (Nat × SV) → GL → List (Nat × SO) → Prop) → Prop
  | [], T, G, H, K => K T G H
  | ⟨j, d, ids, v, ob, del⟩ :: l, T, G, H, K => match bitAt m j with
    | false => selK W pm i m l T G H K
    | true => addO W pm i ob del H fun H => match d with
      | none => selK W pm i m l T G H K
      | some t => match ids with
        | [] => selK W pm i m l ((t, v) :: T) G H K
        | e :: ids => selK W pm i m l T ((t, (e :: ids, v)) :: G) H K

/-- What an operation leaves. -/
def xdout1 (real : Bool) (W : List (Nat × Nat)) (s : St) (i : Nat) (d : Option Nat) (ids : List (Nat × Bool)) (K : Rec → Prop) : Out → Prop
  | .val v => fr v fun v => K ⟨i, d, ids, v, none, none⟩
  | .new v ob => match ids with
    | [] => frO ob fun ob => fr v fun v => K ⟨i, d, [], v, some (s.nx, ob), none⟩
    | _ :: _ => Stands "a new object under a guard"
  | .upd v h ob => match ids, (match real, lk h W with | true, some k => Nat.beq k i | true, none => false | false, _ => true) with
    | [], true => frO ob fun ob => match v with
      | none => K ⟨i, d, [], .tu [], some (h, ob), some h⟩
      | some v => K ⟨i, d, [], v, some (h, ob), some h⟩
    | _, _ => Stands "a store under a guard"
  | .mv v h ob => match ids, (match real, lk h W with | true, some k => Nat.beq k i | true, none => false | false, _ => true) with
    | [], true => frO ob fun ob => fr v fun v => K ⟨i, d, [], v, some (s.nx, ob), some h⟩
    | _, _ => Stands "a row's growth under a guard"
  | .ob p k => match real with
    | true => obP s ids p ∧ xdout1 real W s i d ids K k
    | false => xdout1 real W s i d ids K k
  | .call f args => Stands "a call"
  | .pan _ => Stands "a panic in any order"
  | .no why => Stands why
def xdout (tb : Tab) (real : Bool) (W : List (Nat × Nat)) (s : St) (i : Nat) (d : Option Nat) (ids : List (Nat × Bool)) (K : Rec → Prop) : Out → Prop
  | .call f args => match tb.sum f args s.H s.nx with
    | some out => xdout1 real W s i d ids K out
    | none => Stands "a call in any order"
  | out => xdout1 real W s i d ids K out

/-- Told apart by a truth. -/
def spK (sp : Bool) (r : Rec) (K : Rec → Prop) : Prop :=
  match sp, r with
  | true, ⟨i, d, [], .b x, ob, del⟩ => (x = true → K ⟨i, d, [], .lb true, ob, del⟩) ∧ (x = false → K ⟨i, d, [], .lb false, ob, del⟩)
  | _, r => K r
def makes (tb : Tab) : Op → Bool
  | .alloc _ | .box .. | .buildSlice .. | .makeMap .. => true
  | .call c => match c.callee with
    | .value (.func f) => tb.news f
    | .builtin .append => true
    | _ => false
  | _ => false
def splitsAt (tb : Tab) (i : Nat) : List Oper → Bool
  | [] => false
  | o :: r => (match o.guard with | some (j, _) => Nat.beq i j && makes tb o.op | none => false) || splitsAt tb i r

/-- Who sets a temporary. -/
def lkT (t : Nat) : List (Nat × Nat) → Option Nat
  | [] => none
  | (j, u) :: r => match Nat.beq t u with
    | true => some j
    | false => lkT t r
/-- A temporary still holds what it held ahead of the region: who sets it comes later. -/
def oldB (ds pm : List (Nat × Nat)) (i t : Nat) : Bool :=
  match lkT t ds with
  | some j => match Nat.beq i j with
    | true => true
    | false => match lk j pm with
      | some m => bitAt m i
      | none => false
  | none => false
def oldK (ds pm : List (Nat × Nat)) (i : Nat) : List (Nat × SV) → List (Nat × SV) → (List (Nat × SV) → Prop) → Prop
  | [], T, K => K T
  | (t, v) :: r, T, K => match oldB ds pm i t with
    | true => oldK ds pm i r T fun T' => K ((t, v) :: T')
    | false => oldK ds pm i r T K

/-- The surroundings of a drawn region. -/
structure Dc where
  T0 : List (Nat × SV)
  T1 : List (Nat × SV)
  H0 : List (Nat × SO)
  nx : Nat
  n : Nat
  ds : List (Nat × Nat)
  pm : List (Nat × Nat)
  W : List (Nat × Nat)

def xdstep (tb : Tab) (real : Bool) (ops : Array Oper) (D : Dc) (o : Oper) (i m : Nat) (recs : List Rec) (K : Rec → Prop) : Prop :=
  match (match o.dst with | some t => Nat.blt t D.n | none => true) with
  | false => Stands "a temporary beyond"
  | true => sp (baseH D.W D.pm i D.H0) fun H => oldK D.ds D.pm i D.T1 D.T0 fun T0 => selK D.W D.pm i m recs T0 [] H fun T G H => frN (D.nx + i) fun nx =>
    let s : St := ⟨T, G, H, nx, D.n⟩
    match gdOf ops s o with
    | .no => Stands "a guard"
    | .skip => K ⟨i, o.dst, [], .tu [], none, none⟩
    | .run ids => match chkIds m ids D.ds with
      | false => Stands "a guard that does not come before"
      | true => match o.op with
        | .pick (.tmp c) a b => match ev s ids (.tmp c) with
          | some (.lb true) => match ev s ((c, true) :: ids) a with
            | some v => fr v fun v => K ⟨i, o.dst, ids, v, none, none⟩
            | none => Stands "a pick"
          | some (.lb false) => match ev s ((c, false) :: ids) b with
            | some v => fr v fun v => K ⟨i, o.dst, ids, v, none, none⟩
            | none => Stands "a pick"
          | some (.b x) => match ev s ((c, true) :: ids) a, ev s ((c, false) :: ids) b with
            | some a, some b => match pickV x a b with
              | some v => fr v fun v => K ⟨i, o.dst, ids, v, none, none⟩
              | none => Stands "a pick"
            | _, _ => Stands "a pick"
          | _ => Stands "a pick"
        | op => xdout tb real D.W s i o.dst ids K (xop tb H nx (ev s ids) op)

def xdops (tb : Tab) (real : Bool) (ops : Array Oper) (D : Dc) : List Oper → Nat → List Rec → (List Rec → Prop) → Prop
  | [], _, recs, K => K recs
  | o :: r, i, recs, K => match lk i D.pm with
    | some m => xdstep tb real ops D o i m recs fun x => spK (splitsAt tb i ops.toList) x fun x => xdops tb real ops D r (Nat.succ i) (x :: recs) K
    | none => Stands "a mask"

def mayWrite : List Oper → Bool
  | [] => false
  | o :: r => match o.op with
    | .store .. | .insert .. | .mapUpdate .. => true
    | .call c => match c.callee with
      | .builtin .append | .builtin .copy => true
      | .value (.tmp _) => true
      | _ => mayWrite r
    | _ => mayWrite r
def writers : List Rec → List (Nat × Nat)
  | [] => []
  | ⟨i, _, _, _, _, some h⟩ :: r => (h, i) :: writers r
  | _ :: r => writers r
def wrK : List Rec → List (Nat × Nat) → (List (Nat × Nat) → Prop) → Prop
  | [], W, K => K W
  | ⟨i, _, _, _, _, some h⟩ :: r, W, K => wrK r ((h, i) :: W) K
  | _ :: r, W, K => wrK r W K

/-- The numbers of a list, as bits. -/
def msk {α : Type} : List (Nat × α) → Nat → Nat
  | [], m => m
  | (u, _) :: r, m => msk r (Nat.lor m (2 ^ u))
def mskK {α : Type} : List (Nat × α) → Nat → (Nat → Prop) → Prop
  | [], m, K => K m
  | (u, _) :: r, m, K => mskK r (Nat.lor m (2 ^ u)) K
/-- What a mask does not name. -/
def dropM {α : Type} (m : Nat) : List (Nat × α) → List (Nat × α)
  | [] => []
  | (u, v) :: r => bif bitAt m u then dropM m r else (u, v) :: dropM m r
def dropK {α : Type} (m : Nat) : List (Nat × α) → (List (Nat × α) → Prop) → Prop
  | [], K => K []
  | (u, v) :: r, K => match bitAt m u with
    | true => dropK m r K
    | false => dropK m r fun r' => K ((u, v) :: r')
def swp : List (Nat × Nat) → List (Nat × Nat)
  | [] => []
  | (i, t) :: r => (t, i) :: swp r
/-- What is known of temporaries that the region does not set. -/
def keepK {α : Type} (m : Nat) : List (Nat × α) → (List (Nat × α) → Prop) → Prop
  | [], K => K []
  | (u, v) :: r, K => match bitAt m u with
    | false => keepK m r K
    | true => keepK m r fun r' => K ((u, v) :: r')
def rmDsK (ds : List (Nat × Nat)) (T : List (Nat × SV)) (K : List (Nat × SV) → List (Nat × SV) → Prop) : Prop :=
  mskK (swp ds) 0 fun m => keepK m T fun T1 => dropK m T fun T => K T1 T

/-- All but the last. -/
def initL : List Oper → List Oper
  | [] => []
  | [_] => []
  | o :: o' :: r => o :: initL (o' :: r)
def lastL : List Oper → Option Oper
  | [] => none
  | [o] => some o
  | _ :: o' :: r => lastL (o' :: r)
/-- The last operation is a call that is entered, behind all others. -/
def lastCall (tb : Tab) (pm : List (Nat × Nat)) (z : Nat) (o : Oper) : Bool :=
  match o.op with
  | .call c => match c.callee with
    | .value (.func f) => match tb.inl f, lk z pm with
      | some _, some m => Nat.beq m (2 ^ z - 1)
      | _, _ => false
    | _ => false
  | _ => false

def xdrawD (tb : Tab) (ops : Array Oper) (l : List Oper) (z : Nat) (T1 T : List (Nat × SV)) (H : List (Nat × SO)) (nx n : Nat) (ds pm W : List (Nat × Nat)) (K : St → Prop) : Prop :=
  xdops tb true ops ⟨T, T1, H, nx, n, ds, pm, W⟩ l 0 [] fun recs =>
    frN (2 ^ z - 1) fun m => sp (baseH W pm z H) fun H => selK W pm z m recs T [] H fun T _ H => frN (nx + z) fun nx => K ⟨T, [], H, nx, n⟩
def xdrawW (tb : Tab) (ops : Array Oper) (l : List Oper) (z : Nat) (T1 T : List (Nat × SV)) (H : List (Nat × SO)) (nx n : Nat) (ds pm : List (Nat × Nat)) (K : St → Prop) : Prop :=
  match mayWrite l with
  | false => xdrawD tb ops l z T1 T H nx n ds pm [] K
  | true => xdops tb false ops ⟨T, T1, H, nx, n, ds, pm, []⟩ l 0 [] fun recs => wrK recs [] fun W => xdrawD tb ops l z T1 T H nx n ds pm W K
def xdraw (P : Program) (tb : Tab) (C : CH) (ops : Array Oper) (s : St) (K : Exit → St → Prop) : Prop :=
  match s with
  | ⟨T, [], H, nx, n⟩ => pmK ops.toList 0 [] fun pm =>
    match dsApart (dsOf ops.toList 0) with
    | false => Stands "temporaries named twice"
    | true => sp (dsOf ops.toList 0) fun ds => match lastL ops.toList with
      | none => Stands "no operation"
      | some o => match lastCall tb pm (initL ops.toList).length o with
        | false => rmDsK ds T fun T1 T => xdrawW tb ops ops.toList ops.size T1 T H nx n ds pm (K .normal)
        | true => rmDsK ds T fun T1 T => frN (initL ops.toList).length fun z => xdrawW tb ops (initL ops.toList) z T1 T H nx n ds pm fun s => xstep P tb C ops o 5 s K
  | _ => Stands "guards at a drawn region"
end Go.Sx

namespace Go.Sx
open Go.RowKit
set_option linter.unusedVariables false
set_option linter.unusedSimpArgs false

section
variable {P : Program} {tb : Tab}

def HsOf (D : Dc) (i m : Nat) (recs : List Rec) (h : Nat) (o : SO) : Prop :=
  (∃ x ∈ recs, bitAt m x.i = true ∧ x.ob = some (h, o) ∧ (x.del = some h ∨ keepH D.W D.pm i h = true)) ∨ (lk h D.H0 = some o ∧ keepH D.W D.pm i h = true)
def Claim (ρ : Vl) (tm : Array Value) (x : Rec) : Prop := ∀ t, x.d = some t → (idsHold tm x.ids → ∃ y, tm[t]? = some y ∧ den ρ x.v = some y) ∧ (¬ idsHold tm x.ids → tm[t]? = some undef)

/-- What comes behind an operation of which r is noted. -/
def Cont (cx : Cx) (ρ : Vl) (M : Nat → SO → Prop) (a : Act) (nx : Nat) (r : Rec) (d : Option Nat) (N : Act → World → Prop) : Prop :=
  ∀ y ρ' w', ρ.le ρ' → (∀ k, k ≠ nx → ρ' k = ρ k) → HSr cx ρ' (fun k o => (r.del ≠ some k ∧ M k o) ∨ r.ob = some (k, o)) w' → (idsHold a.tmps r.ids → den ρ' r.v = some y) → (¬ idsHold a.tmps r.ids → y = undef) → N (a.put d y) w'

def DGoal (P : Program) (ops : Array Oper) (o : Oper) (a : Act) (w : World) (N : Act → World → Prop) (Q : Exit → Act → World → Prop) : Prop :=
  if Region.wanted o (yielded ops a.tmps) then o.wp P a w N Q else N (a.put o.dst undef) w

structure RecOk (P : Program) (ops : Array Oper) (D : Dc) (o : Oper) (i m : Nat) (recs : List Rec) (r : Rec) : Prop where
  ix : r.i = i
  d : r.d = o.dst
  lt : ∀ t, r.d = some t → t < D.n
  ids : ∀ j t b, (j, t) ∈ D.ds → (t, b) ∈ r.ids → bitAt m j = true
  del : ∀ h, r.del = some h → lk h D.W = some i
  run : ∀ cx ρ M a w, HSr cx ρ M w → a.tmps.size = D.n → ρ (D.nx + i) = none → (∀ t v, lk t D.T0 = some v → ∃ y, a.tmps[t]? = some y ∧ den ρ v = some y) → (∀ t v, oldB D.ds D.pm i t = true → lk t D.T1 = some v → ∃ y, a.tmps[t]? = some y ∧ den ρ v = some y) →
    (∀ x ∈ recs, bitAt m x.i = true → Claim ρ a.tmps x) → (∀ h o, HsOf D i m recs h o → M h o) → ∀ N Q, Cont cx ρ M a (D.nx + i) r o.dst N → DGoal P ops o a w N Q

theorem oldK_ok {ds pm : List (Nat × Nat)} {i : Nat} : ∀ {l T : List (Nat × SV)} {K : List (Nat × SV) → Prop}, oldK ds pm i l T K → ∃ T', K T' ∧ ∀ t v, lk t T' = some v → lk t T = some v ∨ (oldB ds pm i t = true ∧ lk t l = some v)
  | [], T, K, h => ⟨T, h, fun _ _ h => .inl h⟩
  | (u, x) :: r, T, K, h => by
    simp only [oldK] at h
    split at h
    · rename_i hb
      obtain ⟨T', h1, h2⟩ := oldK_ok h
      refine ⟨_, h1, fun t v hl => ?_⟩
      by_cases e : t = u
      · subst e
        rw [lk_cons_same] at hl
        exact .inr ⟨hb, by rw [lk_cons_same]; exact hl⟩
      · rw [lk_cons_other _ _ e] at hl
        rcases h2 t v hl with h3 | ⟨h3, h4⟩
        · exact .inl h3
        · exact .inr ⟨h3, by rw [lk_cons_other _ _ e]; exact h4⟩
    · rename_i hb
      obtain ⟨T', h1, h2⟩ := oldK_ok h
      refine ⟨_, h1, fun t v hl => ?_⟩
      rcases h2 t v hl with h3 | ⟨h3, h4⟩
      · exact .inl h3
      · refine .inr ⟨h3, ?_⟩
        rw [lk_cons_other _ _ (by rintro rfl; rw [h3] at hb; cases hb)]
        exact h4
theorem lkT_mem {t j : Nat} : ∀ {l : List (Nat × Nat)}, lkT t l = some j → (j, t) ∈ l
  | [], h => by cases h
  | (k, u) :: r, h => by
    simp only [lkT] at h
    split at h
    · rename_i e
      cases h
      rw [Nat.eq_of_beq_eq_true e]
      exact List.mem_cons_self ..
    · exact List.mem_cons_of_mem _ (lkT_mem h)
theorem oldB_ok {ds pm : List (Nat × Nat)} {i t : Nat} (h : oldB ds pm i t = true) : ∃ j, (j, t) ∈ ds ∧ (i = j ∨ ∃ m, lk j pm = some m ∧ bitAt m i = true) := by
  unfold oldB at h
  split at h
  case h_2 => cases h
  rename_i j hj
  refine ⟨j, lkT_mem hj, ?_⟩
  split at h
  · rename_i e; exact .inl (Nat.eq_of_beq_eq_true e)
  · split at h
    · rename_i m hm; exact .inr ⟨m, hm, h⟩
    · cases h
theorem addO_ok {W pm : List (Nat × Nat)} {i : Nat} {ob : Option (Nat × SO)} {del : Option Nat} {H : List (Nat × SO)} {K : List (Nat × SO) → Prop} (h : addO W pm i ob del H K) :
    ∃ H', K H' ∧ ∀ g o, lk g H' = some o → (ob = some (g, o) ∧ (del = some g ∨ keepH W pm i g = true)) ∨ lk g H = some o := by
  have add : ∀ g o0, (del = some g ∨ keepH W pm i g = true) → ob = some (g, o0) → ∀ g' o, lk g' ((g, o0) :: H) = some o → (ob = some (g', o) ∧ (del = some g' ∨ keepH W pm i g' = true)) ∨ lk g' H = some o := fun g o0 hk ho g' o hl => by
    by_cases e : g' = g
    · subst e; rw [lk_cons_same] at hl; cases hl; exact .inl ⟨ho, hk⟩
    · rw [lk_cons_other _ _ e] at hl; exact .inr hl
  unfold addO at h
  split at h
  · exact ⟨H, h, fun _ _ hl => .inr hl⟩
  · rename_i g o0
    split at h
    · rename_i g'
      split at h
      · rename_i e
        have := Nat.eq_of_beq_eq_true e
        subst this
        exact ⟨_, h, add g o0 (.inl rfl) rfl⟩
      · split at h
        · rename_i hk; exact ⟨_, h, add g o0 (.inr hk) rfl⟩
        · exact ⟨_, h, fun _ _ hl => .inr hl⟩
    · split at h
      · rename_i hk; exact ⟨_, h, add g o0 (.inr hk) rfl⟩
      · exact ⟨_, h, fun _ _ hl => .inr hl⟩

theorem selK_ok {W pm : List (Nat × Nat)} {i m : Nat} : ∀ (recs : List Rec) (T : List (Nat × SV)) (G : GL) (H : List (Nat × SO)) (K : List (Nat × SV) → GL → List (Nat × SO) → Prop), selK W pm i m recs T G H K →
    ∃ T' G' H', K T' G' H' ∧ (∀ t v, lk t T' = some v → (∃ x ∈ recs, bitAt m x.i = true ∧ x.d = some t ∧ x.ids = [] ∧ x.v = v) ∨ lk t T = some v) ∧
      (∀ t ids v, (t, (ids, v)) ∈ G' → (∃ x ∈ recs, bitAt m x.i = true ∧ x.d = some t ∧ x.ids = ids ∧ x.v = v) ∨ (t, (ids, v)) ∈ G) ∧
      (∀ h o, lk h H' = some o → (∃ x ∈ recs, bitAt m x.i = true ∧ x.ob = some (h, o) ∧ (x.del = some h ∨ keepH W pm i h = true)) ∨ lk h H = some o)
  | [], T, G, H, K, h => ⟨T, G, H, h, fun _ _ h => .inr h, fun _ _ _ h => .inr h, fun _ _ h => .inr h⟩
  | ⟨j, d, ids, v, ob, del⟩ :: l, T, G, H, K, h => by
    have up1 : ∀ {p : Rec → Prop}, (∃ x ∈ l, p x) → ∃ x ∈ (⟨j, d, ids, v, ob, del⟩ :: l : List Rec), p x := fun ⟨x, h1, h2⟩ => ⟨x, List.mem_cons_of_mem _ h1, h2⟩
    simp only [selK] at h
    split at h
    · obtain ⟨T', G', H', h1, h2, h3, h4⟩ := selK_ok l T G H K h
      exact ⟨T', G', H', h1, fun t v hl => (h2 t v hl).imp_left up1, fun t ids v hl => (h3 t ids v hl).imp_left up1, fun g o hl => (h4 g o hl).imp_left up1⟩
    · rename_i hb
      obtain ⟨H1, hk, hH⟩ := addO_ok h
      have fin : ∀ (T1 : List (Nat × SV)) (G1 : GL) (T' : List (Nat × SV)) (G' : GL) (H' : List (Nat × SO)), (∀ t v, lk t T' = some v → (∃ x ∈ l, bitAt m x.i = true ∧ x.d = some t ∧ x.ids = [] ∧ x.v = v) ∨ lk t T1 = some v) →
          (∀ t ids v, (t, (ids, v)) ∈ G' → (∃ x ∈ l, bitAt m x.i = true ∧ x.d = some t ∧ x.ids = ids ∧ x.v = v) ∨ (t, (ids, v)) ∈ G1) →
          (∀ h o, lk h H' = some o → (∃ x ∈ l, bitAt m x.i = true ∧ x.ob = some (h, o) ∧ (x.del = some h ∨ keepH W pm i h = true)) ∨ lk h H1 = some o) → K T' G' H' →
          (∀ t u, lk t T1 = some u → (d = some t ∧ ids = [] ∧ v = u) ∨ lk t T = some u) → (∀ t ids' u, (t, (ids', u)) ∈ G1 → (d = some t ∧ ids = ids' ∧ v = u) ∨ (t, (ids', u)) ∈ G) →
          ∃ T' G' H', K T' G' H' ∧ (∀ t u, lk t T' = some u → (∃ x ∈ (⟨j, d, ids, v, ob, del⟩ :: l : List Rec), bitAt m x.i = true ∧ x.d = some t ∧ x.ids = [] ∧ x.v = u) ∨ lk t T = some u) ∧
            (∀ t ids' u, (t, (ids', u)) ∈ G' → (∃ x ∈ (⟨j, d, ids, v, ob, del⟩ :: l : List Rec), bitAt m x.i = true ∧ x.d = some t ∧ x.ids = ids' ∧ x.v = u) ∨ (t, (ids', u)) ∈ G) ∧
            (∀ h o, lk h H' = some o → (∃ x ∈ (⟨j, d, ids, v, ob, del⟩ :: l : List Rec), bitAt m x.i = true ∧ x.ob = some (h, o) ∧ (x.del = some h ∨ keepH W pm i h = true)) ∨ lk h H = some o) := by
        intro T1 G1 T' G' H' h2 h3 h4 h1 hT hG
        refine ⟨T', G', H', h1, fun t u hl => ?_, fun t ids' u hl => ?_, fun g o hl => ?_⟩
        · rcases h2 t u hl with h | h
          · exact .inl (up1 h)
          · exact (hT t u h).imp_left fun ⟨e1, e2, e3⟩ => ⟨_, List.mem_cons_self .., hb, e1, e2, e3⟩
        · rcases h3 t ids' u hl with h | h
          · exact .inl (up1 h)
          · exact (hG t ids' u h).imp_left fun ⟨e1, e2, e3⟩ => ⟨_, List.mem_cons_self .., hb, e1, e2, e3⟩
        · rcases h4 g o hl with h | h
          · exact .inl (up1 h)
          · exact (hH g o h).imp_left fun ⟨e1, e2⟩ => ⟨_, List.mem_cons_self .., hb, e1, e2⟩
      split at hk
      · obtain ⟨T', G', H', h1, h2, h3, h4⟩ := selK_ok l T G H1 K hk
        exact fin T G T' G' H' h2 h3 h4 h1 (fun _ _ h => .inr h) (fun _ _ _ h => .inr h)
      · rename_i t
        split at hk
        · obtain ⟨T', G', H', h1, h2, h3, h4⟩ := selK_ok l _ G H1 K hk
          refine fin _ G T' G' H' h2 h3 h4 h1 (fun t' u hl => ?_) (fun _ _ _ h => .inr h)
          by_cases e : t' = t
          · subst e; rw [lk_cons_same] at hl; cases hl; exact .inl ⟨rfl, rfl, rfl⟩
          · rw [lk_cons_other _ _ e] at hl; exact .inr hl
        · obtain ⟨T', G', H', h1, h2, h3, h4⟩ := selK_ok l T _ H1 K hk
          refine fin T _ T' G' H' h2 h3 h4 h1 (fun _ _ h => .inr h) (fun t' ids' u hl => ?_)
          rcases List.mem_cons.1 hl with e | hl
          · cases e; exact .inl ⟨rfl, rfl, rfl⟩
          · exact .inr hl

theorem lk_filtH {W pm : List (Nat × Nat)} {i : Nat} {h : Nat} {o : SO} : ∀ {H : List (Nat × SO)}, lk h (filtH W pm i H) = some o → lk h H = some o ∧ keepH W pm i h = true
  | [], e => by cases e
  | (k, v) :: r, e => by
    simp only [filtH] at e
    cases hk : keepH W pm i k with
    | true =>
      rw [hk, cond_true] at e
      by_cases e2 : h = k
      · subst e2; rw [lk_cons_same] at e ⊢; exact ⟨e, hk⟩
      · rw [lk_cons_other _ _ e2] at e ⊢; exact lk_filtH e
    | false =>
      rw [hk, cond_false] at e
      obtain ⟨h1, h2⟩ := lk_filtH e
      by_cases e2 : h = k
      · subst e2; rw [hk] at h2; cases h2
      · rw [lk_cons_other _ _ e2]; exact ⟨h1, h2⟩
theorem lk_baseH {W pm : List (Nat × Nat)} {i : Nat} {h : Nat} {o : SO} {H : List (Nat × SO)} (e : lk h (baseH W pm i H) = some o) : lk h H = some o ∧ keepH W pm i h = true := by
  cases W with
  | nil => exact ⟨e, rfl⟩
  | cons x W => exact lk_filtH e

/-- What is asked of an operation of which r is noted. -/
def DGo (P : Program) (W : List (Nat × Nat)) (s : St) (i : Nat) (d : Option Nat) (ids : List (Nat × Bool)) (r : Rec) (H : Vl → Act → World → Oper → Prop) : Prop :=
  r.i = i ∧ r.d = d ∧ r.ids = ids ∧ (∀ h, r.del = some h → lk h W = some i) ∧
    ∀ (ops : Array Oper) (o : Oper) cx ρ M a w, o.dst = d → HSr cx ρ M w → (∀ h o, lk h s.H = some o → M h o) → ρ s.nx = none → TS ρ s.T s.G s.n a.tmps → (Region.wanted o (yielded ops a.tmps) = true ↔ idsHold a.tmps ids) →
      (idsHold a.tmps ids → H ρ a w o) → ∀ N Q, Cont cx ρ M a s.nx r o.dst N → DGoal P ops o a w N Q

theorem xdout1_ok {real : Bool} {W : List (Nat × Nat)} {s : St} {i : Nat} {d : Option Nat} {ids : List (Nat × Bool)} {K : Rec → Prop} : ∀ out, xdout1 real W s i d ids K out →
    ∃ r, K r ∧ (real = true → DGo P W s i d ids r fun ρ a w o => WpOk P ρ a w s.H s.nx o out) := by
  have triv : ∀ (a : Act), idsHold a.tmps [] := fun a e he => by cases he
  have wok : ∀ {h : Nat}, (match real, lk h W with | true, some k => Nat.beq k i | true, none => false | false, _ => true) = true → real = true → lk h W = some i := fun {h} hw hr => by
    subst hr
    split at hw
    · rename_i k hk
      rename_i heq
      rw [hk]
      have := Nat.eq_of_beq_eq_true hw
      rw [this]
    · cases hw
    · rename_i heq; cases heq
  intro out
  induction out with
  | val v =>
    intro h
    simp only [xdout1, fr_eq] at h
    refine ⟨_, h, fun _ => ⟨rfl, rfl, rfl, fun _ e => (nomatch e), ?_⟩⟩
    intro ops o cx ρ M a w ho hs hM hn ts hw hr N Q hc
    unfold DGoal
    by_cases hh : idsHold a.tmps ids
    · rw [if_pos (hw.2 hh)]
      exact hr hh _ _ fun y w' hd hb => hc y ρ w' (Vl.le_refl _) (fun _ _ => rfl) ((hs.grow hb).less fun k o hk => hk.elim (·.2) (fun e => by cases e)) (fun _ => hd) (fun n => absurd hh n)
    · rw [if_neg (fun e => hh (hw.1 e))]
      exact hc undef ρ w (Vl.le_refl _) (fun _ _ => rfl) (hs.less fun k o hk => hk.elim (·.2) (fun e => by cases e)) (fun e => absurd e hh) (fun _ => rfl)
  | new v ob =>
    intro h
    simp only [xdout1] at h
    split at h
    case h_2 => exact h.elim
    simp only [frO_eq, fr_eq] at h
    refine ⟨_, h, fun _ => ⟨rfl, rfl, rfl, fun _ e => (nomatch e), ?_⟩⟩
    intro ops o cx ρ M a w ho hs hM hn ts hw hr N Q hc
    unfold DGoal
    rw [if_pos (hw.2 (triv a))]
    refine hr (triv a) _ _ fun y w' he => ?_
    obtain ⟨hv, hd, hs'⟩ := hs.new hn he
    exact hc y _ w' (Vl.le_upd hn) (fun k hk => Vl.upd_other _ _ hk) (hs'.less fun k o hk => hk.elim (fun h => .inl h.2) (fun e => by cases e; exact .inr ⟨rfl, rfl⟩)) (fun _ => hd) (fun n => absurd (triv a) n)
  | upd v h0 ob =>
    intro h
    simp only [xdout1] at h
    split at h
    case h_2 => exact h.elim
    rename_i hw0
    simp only [frO_eq] at h
    have common : ∀ v', (match v with | none => v' = SV.tu [] | some u => v' = u) → real = true → DGo P W s i d [] ⟨i, d, [], v', some (h0, ob), some h0⟩ fun ρ a w o => WpOk P ρ a w s.H s.nx o (.upd v h0 ob) := by
      intro v' hv' hreal
      refine ⟨rfl, rfl, rfl, fun g e => (by cases e; exact wok hw0 hreal), ?_⟩
      intro ops o cx ρ M a w ho hs hM hn ts hw hr N Q hc
      unfold DGoal
      rw [if_pos (hw.2 (triv a))]
      obtain ⟨hv, o0, hl, hm, hr0, hm1, hwp⟩ := hr (triv a)
      refine hwp _ _ fun y w' hy hu hrep hfp => ?_
      have hs' := hs.put (hM _ _ hl) hm hr0 hu hrep hm1 hfp
      have go : den ρ v' = some y → N (a.put o.dst y) w' := fun hd => hc y ρ w' (Vl.le_refl _) (fun _ _ => rfl) (hs'.less fun k o hk => hk.elim (fun h => .inl ⟨fun e => h.1 (by rw [e]), h.2⟩) (fun e => by cases e; exact .inr ⟨rfl, rfl⟩)) (fun _ => hd) (fun n => absurd (triv a) n)
      cases v with
      | none =>
        simp only [] at hy hv'
        subst hv' hy
        exact go rfl
      | some u =>
        simp only [] at hy hv'
        subst hv'
        exact go hy
    split at h
    · exact ⟨_, h, common _ rfl⟩
    · exact ⟨_, h, common _ rfl⟩
  | mv v h0 ob =>
    intro h
    simp only [xdout1] at h
    split at h
    case h_2 => exact h.elim
    rename_i hw0
    simp only [frO_eq, fr_eq] at h
    refine ⟨_, h, fun hreal => ⟨rfl, rfl, rfl, fun g e => (by cases e; exact wok hw0 hreal), ?_⟩⟩
    intro ops o cx ρ M a w ho hs hM hn ts hw hr N Q hc
    unfold DGoal
    rw [if_pos (hw.2 (triv a))]
    obtain ⟨hv0, o0, hl, hm, hr0, hm1, hwp⟩ := hr (triv a)
    refine hwp _ _ fun y w' hv hd hu hrep hfp => ?_
    have hs' := hs.mv hn (hM _ _ hl) hm hr0 hu hrep hm1 hfp
    exact hc y _ w' (Vl.le_upd hn) (fun k hk => Vl.upd_other _ _ hk) (hs'.less fun k o hk => hk.elim (fun h => .inl ⟨fun e => h.1 (by rw [e]), h.2⟩) (fun e => by cases e; exact .inr ⟨rfl, rfl⟩)) (fun _ => hd) (fun n => absurd (triv a) n)
  | ob p k ih =>
    intro h
    simp only [xdout1] at h
    cases real with
    | true =>
      simp only [] at h
      obtain ⟨r, hk, hr⟩ := ih h.2
      refine ⟨r, hk, fun e => ?_⟩
      obtain ⟨h1, h2, h3, h4, h5⟩ := hr e
      exact ⟨h1, h2, h3, h4, fun ops o cx ρ M a w ho hs hM hn ts hw hr N Q hc => h5 ops o cx ρ M a w ho hs hM hn ts hw (fun hh => hr hh (obP_eq h.1 (idsP_ok ts hh))) N Q hc⟩
    | false =>
      simp only [] at h
      obtain ⟨r, hk, _⟩ := ih h
      exact ⟨r, hk, fun e => by cases e⟩
  | call f args => intro h; exact h.elim
  | pan v => intro h; exact h.elim
  | no why => intro h; exact h.elim

/-- An operation's note, from what is told of it. -/
theorem xdout_ok (hP : TabOk P tb) {real : Bool} {W : List (Nat × Nat)} {s : St} {i : Nat} {d : Option Nat} {ids : List (Nat × Bool)} {K : Rec → Prop} : ∀ out, xdout tb real W s i d ids K out →
    ∃ r, K r ∧ (real = true → DGo P W s i d ids r fun ρ a w o => RunOk ρ w s.H s.nx ((execOp a.eval o).run P w) out) := by
  intro out h
  cases out with
  | call f args =>
    simp only [xdout] at h
    split at h
    case h_2 => exact h.elim
    rename_i out hsum
    obtain ⟨r, hk, hr⟩ := xdout1_ok (P := P) out h
    refine ⟨r, hk, fun hreal => ?_⟩
    obtain ⟨h1, h2, h3, h4, h5⟩ := hr hreal
    exact ⟨h1, h2, h3, h4, fun ops o cx ρ M a w ho hs hM hn ts hw hr N Q hc => h5 ops o cx ρ M a w ho hs hM hn ts hw (fun hh => wpOk_of_sum (wpOk_of_run (hr hh)) fun xs hd => hP.sum f args s.H s.nx _ hsum ρ w xs (fun h o hl => hs.hp h o (hM h o hl)) hd hn) N Q hc⟩
  | _ =>
    obtain ⟨r, hk, hr⟩ := xdout1_ok (P := P) _ h
    refine ⟨r, hk, fun hreal => ?_⟩
    obtain ⟨h1, h2, h3, h4, h5⟩ := hr hreal
    exact ⟨h1, h2, h3, h4, fun ops o cx ρ M a w ho hs hM hn ts hw hr N Q hc => h5 ops o cx ρ M a w ho hs hM hn ts hw (fun hh => wpOk_of_run (hr hh)) N Q hc⟩
end
end Go.Sx

namespace Go.Sx
open Go.RowKit
set_option linter.unusedVariables false
set_option linter.unusedSimpArgs false

section
variable {P : Program} {tb : Tab}

theorem chkIds_ok {m : Nat} {ids : List (Nat × Bool)} : ∀ {ds : List (Nat × Nat)}, chkIds m ids ds = true → ∀ j t b, (j, t) ∈ ds → (t, b) ∈ ids → bitAt m j = true
  | [], _, _, _, _, h, _ => by cases h
  | (k, u) :: r, h, j, t, b, h1, h2 => by
    simp only [chkIds, Bool.and_eq_true, Bool.or_eq_true, Bool.not_eq_true'] at h
    rcases List.mem_cons.1 h1 with e | h1
    · cases e
      rcases h.1 with h3 | h3
      · exact absurd rfl (namesId_ok h3 _ h2)
      · exact h3
    · exact chkIds_ok h.2 j t b h1 h2

theorem xdstep_ok (hP : TabOk P tb) {real : Bool} {ops : Array Oper} {D : Dc} {o : Oper} {i m : Nat} {recs : List Rec} {K : Rec → Prop} (h : xdstep tb real ops D o i m recs K) :
    ∃ r, K r ∧ (real = true → RecOk P ops D o i m recs r) := by
  unfold xdstep at h
  split at h
  case h_1 => exact h.elim
  rename_i hlt
  have hlt' : ∀ t, o.dst = some t → t < D.n := fun t ht => by
    rw [ht] at hlt
    simpa using hlt
  rw [sp_eq] at h
  obtain ⟨T0', h, hT0⟩ := oldK_ok h
  obtain ⟨T, G, H, hk, hT, hG, hH⟩ := selK_ok _ _ _ _ _ h
  simp only [frN_eq] at hk
  have hH' : ∀ {M : Nat → SO → Prop}, (∀ h o, HsOf D i m recs h o → M h o) → ∀ h o, lk h H = some o → M h o := fun hM h o hl => by
    rcases hH h o hl with h1 | h1
    · exact hM h o (.inl h1)
    · exact hM h o (.inr (lk_baseH h1))
  have ts : ∀ {ρ : Vl} {tm : Array Value}, tm.size = D.n → (∀ t v, lk t D.T0 = some v → ∃ y, tm[t]? = some y ∧ den ρ v = some y) → (∀ t v, oldB D.ds D.pm i t = true → lk t D.T1 = some v → ∃ y, tm[t]? = some y ∧ den ρ v = some y) → (∀ x ∈ recs, bitAt m x.i = true → Claim ρ tm x) → TS ρ T G D.n tm := fun hsz h0 h01 hr =>
    { sz := hsz
      vs := fun t v _ hl => by
        rcases hT t v hl with ⟨x, h1, h2, h3, h4, rfl⟩ | h1
        · exact ((hr x h1 h2) t h3).1 (by rw [h4]; intro e he; cases he)
        · rcases hT0 t v h1 with h2 | ⟨h2, h3⟩
          · exact h0 t v h2
          · exact h01 t v h2 h3
      gd := fun t ids v hm => by
        rcases hG t ids v hm with ⟨x, h1, h2, h3, rfl, rfl⟩ | h1
        · exact (hr x h1 h2) t h3
        · cases h1 }
  split at hk
  · exact hk.elim
  · rename_i hgd
    refine ⟨_, hk, fun _ => ⟨rfl, rfl, hlt', fun _ _ _ _ e => (by cases e), fun _ e => (by cases e), ?_⟩⟩
    intro cx ρ M a w hs hsz hn h0 h01 hr hM N Q hc
    have hg := gd_ok (ops := ops) (s := ⟨T, G, H, D.nx + i, D.n⟩) (ts hsz h0 h01 hr) o
    rw [hgd] at hg
    simp only [] at hg
    unfold DGoal
    rw [if_neg (by rw [hg]; simp)]
    exact hc undef ρ w (Vl.le_refl _) (fun _ _ => rfl) (hs.less fun k o hk => hk.elim (·.2) (fun e => by cases e)) (fun _ => rfl) (fun n => absurd (fun e he => by cases he) n)
  · rename_i ids hgd
    split at hk
    · exact hk.elim
    rename_i hchk
    have hids := chkIds_ok hchk
    have fin : ∀ r, r.i = i → r.d = o.dst → r.ids = ids → (∀ h, r.del = some h → lk h D.W = some i) → (∀ cx ρ M a w, HSr cx ρ M w → (∀ h o, lk h H = some o → M h o) → ρ (D.nx + i) = none → TS ρ T G D.n a.tmps → (Region.wanted o (yielded ops a.tmps) = true ↔ idsHold a.tmps ids) → ∀ N Q, Cont cx ρ M a (D.nx + i) r o.dst N → DGoal P ops o a w N Q) → RecOk P ops D o i m recs r := fun r h1 h2 h3 h4 h5 =>
      ⟨h1, h2, fun t ht => hlt' t (by rw [← h2]; exact ht), fun j t b hj hb => hids j t b hj (by rw [← h3]; exact hb), h4, fun cx ρ M a w hs hsz hn h0 h01 hr hM N Q hc => by
        have hts := ts hsz h0 h01 hr
        have hg := gd_ok (ops := ops) (s := ⟨T, G, H, D.nx + i, D.n⟩) hts o
        rw [hgd] at hg
        exact h5 cx ρ M a w hs (hH' hM) hn hts hg N Q hc⟩
    -- a value that the frame yields by itself
    have pure_ : ∀ (v : SV), (∀ (ρ : Vl) (a : Act) (w : World), TS ρ T G D.n a.tmps → idsHold a.tmps ids → ∃ y, den ρ v = some y ∧ (execOp a.eval o).run P w = .ok (.value y) w) → RecOk P ops D o i m recs ⟨i, o.dst, ids, v, none, none⟩ := fun v hv =>
      fin _ rfl rfl rfl (fun _ e => by cases e) fun cx ρ M a w hs hM hn hts hg N Q hc => by
        unfold DGoal
        by_cases hh : idsHold a.tmps ids
        · rw [if_pos (hg.2 hh)]
          obtain ⟨y, hd, hrun⟩ := hv ρ a w hts hh
          unfold Oper.wp
          rw [hrun]
          exact hc y ρ w (Vl.le_refl _) (fun _ _ => rfl) (hs.less fun k o hk => hk.elim (·.2) (fun e => by cases e)) (fun _ => hd) (fun n => absurd hh n)
        · rw [if_neg (fun e => hh (hg.1 e))]
          exact hc undef ρ w (Vl.le_refl _) (fun _ _ => rfl) (hs.less fun k o hk => hk.elim (·.2) (fun e => by cases e)) (fun e => absurd e hh) (fun _ => rfl)
    split at hk
    · rename_i c x y hop
      have hrun : ∀ (a : Act) (w : World) b, a.eval (.tmp c) = .bool b → (execOp a.eval o).run P w = .ok (.value (if b then a.eval x else a.eval y)) w := fun a w b hb => by
        unfold execOp
        simp only [hop, hb, asBool]
        cases b <;> rfl
      split at hk
      · rename_i hc
        split at hk
        case h_2 => exact hk.elim
        rename_i v hv
        simp only [fr_eq] at hk
        refine ⟨_, hk, fun _ => pure_ v fun ρ a w ts hh => ?_⟩
        have h1 := ev_ok (s := ⟨T, G, H, D.nx + i, D.n⟩) ts hh _ _ hc
        simp only [den, Option.some.injEq] at h1
        have e := ev_ok (s := ⟨T, G, H, D.nx + i, D.n⟩) ts (ids := (c, true) :: ids) (fun e he => by rcases List.mem_cons.1 he with rfl | he; exact tmp_bool h1.symm; exact hh e he)
        exact ⟨_, e _ _ hv, by rw [hrun a w true h1.symm]; rfl⟩
      · rename_i hc
        split at hk
        case h_2 => exact hk.elim
        rename_i v hv
        simp only [fr_eq] at hk
        refine ⟨_, hk, fun _ => pure_ v fun ρ a w ts hh => ?_⟩
        have h1 := ev_ok (s := ⟨T, G, H, D.nx + i, D.n⟩) ts hh _ _ hc
        simp only [den, Option.some.injEq] at h1
        have e := ev_ok (s := ⟨T, G, H, D.nx + i, D.n⟩) ts (ids := (c, false) :: ids) (fun e he => by rcases List.mem_cons.1 he with rfl | he; exact tmp_bool h1.symm; exact hh e he)
        exact ⟨_, e _ _ hv, by rw [hrun a w false h1.symm]; rfl⟩
      · rename_i b hc
        split at hk
        case h_2 => exact hk.elim
        rename_i u v hu hv
        split at hk
        case h_2 => exact hk.elim
        rename_i r hr
        simp only [fr_eq] at hk
        refine ⟨_, hk, fun _ => pure_ r fun ρ a w ts hh => ?_⟩
        have h1 := ev_ok (s := ⟨T, G, H, D.nx + i, D.n⟩) ts hh _ _ hc
        simp only [den, Option.some.injEq] at h1
        have hct : a.tmps[c]? = some (.bool b) := by
          simp only [Act.eval] at h1
          cases ht : a.tmps[c]? with
          | none => simp [ht, undef] at h1
          | some z => simp [ht] at h1; rw [h1]
        refine ⟨_, ?_, hrun a w b h1.symm⟩
        cases b with
        | true =>
          have e := ev_ok (s := ⟨T, G, H, D.nx + i, D.n⟩) ts (ids := (c, true) :: ids) (fun e he => by rcases List.mem_cons.1 he with rfl | he; exact hct; exact hh e he)
          have hx := e _ _ hu
          unfold pickV at hr
          split at hr <;> cases hr <;> simp only [den, Option.some.injEq] at hx ⊢ <;> simp [← hx]
        | false =>
          have e := ev_ok (s := ⟨T, G, H, D.nx + i, D.n⟩) ts (ids := (c, false) :: ids) (fun e he => by rcases List.mem_cons.1 he with rfl | he; exact hct; exact hh e he)
          have hx := e _ _ hv
          unfold pickV at hr
          split at hr <;> cases hr <;> simp only [den, Option.some.injEq] at hx ⊢ <;> simp [← hx]
      · exact hk.elim
    · obtain ⟨r, hkr, hr⟩ := xdout_ok (P := P) hP _ hk
      refine ⟨r, hkr, fun hreal => ?_⟩
      obtain ⟨h1, h2, h3, h4, h5⟩ := hr hreal
      refine fin r h1 h2 h3 h4 fun cx ρ M a w hs hM hn hts hg N Q hc => h5 ops o cx ρ M a w rfl hs hM hn hts hg (fun hh => ?_) N Q hc
      exact xop_ok hP (fun h o hl => hs.hp h o (hM h o hl)) hn (ev_ok (s := ⟨T, G, H, D.nx + i, D.n⟩) hts hh) o

/-! ### masks -/
theorem bitAt_eq (m j : Nat) : bitAt m j = m.testBit j := by
  have h : Nat.land (Nat.shiftRight m j) 1 = (m >>> j) % 2 := Nat.and_one_is_mod _
  unfold bitAt Nat.testBit
  rw [h, Nat.and_comm, Nat.and_one_is_mod]
  rcases Nat.mod_two_eq_zero_or_one (m >>> j) with e | e <;> rw [e] <;> rfl
theorem bitAt_or {a b j : Nat} : bitAt (Nat.lor a b) j = (bitAt a j || bitAt b j) := by
  rw [bitAt_eq, bitAt_eq, bitAt_eq]; exact Nat.testBit_or a b j
theorem bitAt_pow {a j : Nat} : bitAt (2 ^ a) j = decide (a = j) := by
  rw [bitAt_eq]; exact Nat.testBit_two_pow
theorem bitAt_zero {j : Nat} : bitAt 0 j = false := by rw [bitAt_eq]; exact Nat.zero_testBit j

theorem edK_ok {acc : List (Nat × Nat)} : ∀ (l : List Edge) (m : Nat) (K : Nat → Prop), edK acc l m K → ∃ m', K m' ∧ (∀ e ∈ l, Region.binds .any e = true → (∃ me, lk e.on acc = some me) ∧ bitAt m' e.on = true) ∧
    (∀ j, bitAt m' j = true → bitAt m j = true ∨ ∃ e ∈ l, Region.binds .any e = true ∧ (j = e.on ∨ ∃ me, lk e.on acc = some me ∧ bitAt me j = true)) ∧ (∀ j, bitAt m j = true → bitAt m' j = true)
  | [], m, K, h => ⟨m, h, fun e he => (by cases he), fun j hj => .inl hj, fun _ h => h⟩
  | e :: r, m, K, h => by
    simp only [edK] at h
    split at h
    · rename_i hb
      split at h
      case h_2 => exact h.elim
      rename_i me hme
      obtain ⟨m', h1, h2, h3, h4⟩ := edK_ok r _ K h
      refine ⟨m', h1, fun e' he hb' => ?_, fun j hj => ?_, fun j hj => h4 j (by rw [bitAt_or, bitAt_or, hj]; rfl)⟩
      · rcases List.mem_cons.1 he with rfl | he
        · exact ⟨⟨me, hme⟩, h4 _ (by rw [bitAt_or, bitAt_or, bitAt_pow]; simp)⟩
        · exact h2 e' he hb'
      · rcases h3 j hj with h5 | ⟨e', h5, h6⟩
        · rw [bitAt_or, bitAt_or, bitAt_pow, Bool.or_eq_true, Bool.or_eq_true, decide_eq_true_eq] at h5
          rcases h5 with (h5 | h5) | h5
          · exact .inl h5
          · exact .inr ⟨e, List.mem_cons_self .., hb, .inl h5.symm⟩
          · exact .inr ⟨e, List.mem_cons_self .., hb, .inr ⟨me, hme, h5⟩⟩
        · exact .inr ⟨e', List.mem_cons_of_mem _ h5, h6⟩
    · rename_i hb
      obtain ⟨m', h1, h2, h3, h4⟩ := edK_ok r _ K h
      refine ⟨m', h1, fun e' he hb' => ?_, fun j hj => ?_, h4⟩
      · rcases List.mem_cons.1 he with rfl | he
        · rw [hb] at hb'; cases hb'
        · exact h2 e' he hb'
      · exact (h3 j hj).imp_right fun ⟨e', h5, h6⟩ => ⟨e', List.mem_cons_of_mem _ h5, h6⟩

/-- What the masks say. -/
def MaskOk (pm : List (Nat × Nat)) (i : Nat) (o : Oper) : Prop :=
  ∃ m, lk i pm = some m ∧ (∀ e ∈ o.after.toList, Region.binds .any e = true → e.on < i ∧ bitAt m e.on = true) ∧
    (∀ j, bitAt m j = true → ∃ e ∈ o.after.toList, Region.binds .any e = true ∧ (j = e.on ∨ ∃ m', lk e.on pm = some m' ∧ bitAt m' j = true))

theorem pmK_ok : ∀ (l : List Oper) (i : Nat) (acc : List (Nat × Nat)) (K : List (Nat × Nat) → Prop), pmK l i acc K → (∀ j m, lk j acc = some m → j < i) →
    ∃ pm, K pm ∧ (∀ j, j < i → lk j pm = lk j acc) ∧ ∀ k o, l[k]? = some o → MaskOk pm (i + k) o
  | [], i, acc, K, h, hacc => ⟨acc, h, fun _ _ => rfl, fun k o e => by simp at e⟩
  | o :: r, i, acc, K, h, hacc => by
    simp only [pmK] at h
    obtain ⟨m, h1, h2, h3, _⟩ := edK_ok _ _ _ h
    rw [frN_eq] at h1
    obtain ⟨pm, h4, h5, h6⟩ := pmK_ok r (i + 1) ((i, m) :: acc) K h1 (fun j m' hl => by
      by_cases e : j = i
      · omega
      · rw [lk_cons_other _ _ e] at hl
        have := hacc j m' hl
        omega)
    have old : ∀ j, j < i → lk j pm = lk j acc := fun j hj => by
      rw [h5 j (by omega), lk_cons_other _ _ (by omega)]
    refine ⟨pm, h4, old, fun k o' e => ?_⟩
    cases k with
    | zero =>
      simp at e; subst e
      refine ⟨m, by rw [Nat.add_zero, h5 i (by omega), lk_cons_same], fun e he hb => ?_, fun j hj => ?_⟩
      · obtain ⟨⟨me, h7⟩, h8⟩ := h2 e he hb
        exact ⟨hacc _ _ h7, h8⟩
      · rcases h3 j hj with h7 | ⟨e, h7, h8, h9⟩
        · rw [bitAt_zero] at h7; cases h7
        · refine ⟨e, h7, h8, h9.imp_right fun ⟨me, h10, h11⟩ => ⟨me, ?_, h11⟩⟩
          rw [old _ (hacc _ _ h10)]; exact h10
    | succ k =>
      have := h6 k o' (by simpa using e)
      rwa [show i + 1 + k = i + (k + 1) by omega] at this

/-! ### all operations -/
structure AllOk (P : Program) (ops : Array Oper) (D : Dc) (l : List Oper) (i : Nat) (full : List Rec) : Prop where
  all : ∀ k o, l[k]? = some o → ∃ r ∈ full, ∃ m recs', lk (i + k) D.pm = some m ∧ (∀ x ∈ recs', x ∈ full) ∧ RecOk P ops D o (i + k) m recs' r

theorem spK_ok {ops : Array Oper} {D : Dc} {o : Oper} {i m : Nat} {recs : List Rec} {real sp : Bool} {r : Rec} {K : Rec → Prop} (h : spK sp r K) (hr : real = true → RecOk P ops D o i m recs r) :
    ∃ r, K r ∧ (real = true → RecOk P ops D o i m recs r) := by
  unfold spK at h
  split at h
  · rename_i i' d x ob del
    cases x with
    | true => exact ⟨_, h.1 rfl, fun e => ⟨(hr e).ix, (hr e).d, (hr e).lt, (hr e).ids, (hr e).del, (hr e).run⟩⟩
    | false => exact ⟨_, h.2 rfl, fun e => ⟨(hr e).ix, (hr e).d, (hr e).lt, (hr e).ids, (hr e).del, (hr e).run⟩⟩
  · exact ⟨_, h, hr⟩

theorem xdops_ok (hP : TabOk P tb) {real : Bool} {ops : Array Oper} {D : Dc} : ∀ (l : List Oper) (i : Nat) (recs : List Rec) (K : List Rec → Prop), xdops tb real ops D l i recs K →
    ∃ full, K full ∧ (real = true → (∀ x ∈ recs, x ∈ full) ∧ (∀ x ∈ full, x ∈ recs ∨ (i ≤ x.i ∧ x.i < i + l.length)) ∧ ((∀ x ∈ recs, x.i < i) → (∀ x ∈ recs, ∀ y ∈ recs, x.i = y.i → x = y) → ∀ x ∈ full, ∀ y ∈ full, x.i = y.i → x = y) ∧
      ∀ k o, l[k]? = some o → ∃ r ∈ full, ∃ m recs', lk (i + k) D.pm = some m ∧ (∀ x ∈ recs', x ∈ full) ∧ RecOk P ops D o (i + k) m recs' r)
  | [], i, recs, K, h => ⟨recs, h, fun _ => ⟨fun _ h => h, fun _ h => .inl h, fun _ h => h, fun k o e => by simp at e⟩⟩
  | o :: r, i, recs, K, h => by
    simp only [xdops] at h
    split at h
    case h_2 => exact h.elim
    rename_i m hm
    obtain ⟨x, hx, hr⟩ := xdstep_ok hP h
    obtain ⟨x, hx, hr⟩ := spK_ok hx hr
    obtain ⟨full, h1, h2⟩ := xdops_ok hP r (i + 1) (x :: recs) K hx
    refine ⟨full, h1, fun hreal => ?_⟩
    obtain ⟨h3, h4, h5, h6⟩ := h2 hreal
    have hix := (hr hreal).ix
    refine ⟨fun y hy => h3 y (List.mem_cons_of_mem _ hy), fun y hy => ?_, fun hlt huq => h5 (fun y hy => ?_) (fun y hy z hz e => ?_), fun k o' e => ?_⟩
    · rcases h4 y hy with h7 | h7
      · rcases List.mem_cons.1 h7 with rfl | h7
        · exact .inr ⟨by omega, by simp only [List.length_cons]; omega⟩
        · exact .inl h7
      · exact .inr ⟨by omega, by simp only [List.length_cons]; omega⟩
    · rcases List.mem_cons.1 hy with rfl | hy
      · omega
      · have := hlt y hy; omega
    · rcases List.mem_cons.1 hy with rfl | hy
      · rcases List.mem_cons.1 hz with e2 | hz
        · exact e2.symm
        · have := hlt z hz; omega
      · rcases List.mem_cons.1 hz with e2 | hz
        · have := hlt y hy; rw [e2] at e; omega
        · exact huq y hy z hz e
    · cases k with
      | zero =>
        simp at e; subst e
        exact ⟨x, h3 x (List.mem_cons_self ..), m, recs, hm, fun y hy => h3 y (List.mem_cons_of_mem _ hy), hr hreal⟩
      | succ k =>
        have := h6 k o' (by simpa using e)
        rwa [show i + 1 + k = i + (k + 1) by omega] at this

/-! ### the orders -/
def ML (D : Dc) (full : List Rec) (L : Nat → Prop) (h : Nat) (o : SO) : Prop :=
  (∃ x ∈ full, L x.i ∧ x.del = some h ∧ x.ob = some (h, o)) ∨ ((∀ x ∈ full, L x.i → x.del ≠ some h) ∧ ((∃ x ∈ full, L x.i ∧ x.ob = some (h, o)) ∨ lk h D.H0 = some o))

structure DInv (cx : Cx) (D : Dc) (full : List Rec) (L : Nat → Prop) (ρ : Vl) (a : Act) (w : World) : Prop where
  hs : HSr cx ρ (ML D full L) w
  sz : a.tmps.size = D.n
  t0 : ∀ t v, lk t D.T0 = some v → ∃ y, a.tmps[t]? = some y ∧ den ρ v = some y
  t1 : ∀ j t v, (j, t) ∈ D.ds → ¬ L j → lk t D.T1 = some v → ∃ y, a.tmps[t]? = some y ∧ den ρ v = some y
  rc : ∀ x ∈ full, L x.i → Claim ρ a.tmps x
  hn : ∀ k v, D.nx ≤ k → ρ k = some v → ∃ i, L i ∧ k = D.nx + i
  cl : ∀ i m j, L i → lk i D.pm = some m → bitAt m j = true → L j
  df : a.defers = cx.ds

structure DOk (P : Program) (ops : Array Oper) (D : Dc) (full : List Rec) (z : Nat) : Prop where
  zle : z ≤ ops.size
  masks : ∀ k o, ops[k]? = some o → MaskOk D.pm k o
  uq : ∀ x ∈ full, ∀ y ∈ full, x.i = y.i → x = y
  lt : ∀ x ∈ full, x.i < z
  recs : ∀ k o, k < z → ops[k]? = some o → ∃ r ∈ full, ∃ m recs', lk k D.pm = some m ∧ (∀ x ∈ recs', x ∈ full) ∧ RecOk P ops D o k m recs' r
  ds : ∀ k o t, ops[k]? = some o → o.dst = some t → (k, t) ∈ D.ds
  apart : ∀ j k t, (j, t) ∈ D.ds → (k, t) ∈ D.ds → j = k
  t0 : ∀ j t, (j, t) ∈ D.ds → lk t D.T0 = none

theorem put_tmps (a : Act) (d : Option Nat) (y : Value) : (a.put d y).tmps = match d with | some t => a.tmps.setIfInBounds t y | none => a.tmps := by cases d <;> rfl
theorem put_defers (a : Act) (d : Option Nat) (y : Value) : (a.put d y).defers = a.defers := by cases d <;> rfl

theorem dstep {ops : Array Oper} {D : Dc} {full : List Rec} {z : Nat} (hD : DOk P ops D full z) {cx : Cx} {L : Nat → Prop} {ρ : Vl} {a : Act} {w : World} (hI : DInv cx D full L ρ a w) {i : Nat} {o : Oper} (hiz : i < z) (ho : ops[i]? = some o) (hu : ¬ L i)
    (hp : ∀ m j, lk i D.pm = some m → bitAt m j = true → L j) {N : Act → World → Prop} {Q : Exit → Act → World → Prop} (hN : ∀ ρ' a' w', DInv cx D full (fun j => j = i ∨ L j) ρ' a' w' → N a' w') : DGoal P ops o a w N Q := by
  obtain ⟨r, hr, m, recs', hm, hsub, hrec⟩ := hD.recs i o hiz ho
  have hpm := fun j => hp m j hm
  have hwr : ∀ x ∈ full, ∀ h, x.del = some h → lk h D.W = some x.i := fun x hx h he => by
    have hlt := hD.lt x hx
    obtain ⟨r', hr', m', _, _, _, hrec'⟩ := hD.recs x.i _ hlt (Array.getElem?_eq_getElem (Nat.lt_of_lt_of_le hlt hD.zle))
    have := hD.uq x hx r' hr' hrec'.ix.symm
    subst this
    exact hrec'.del h he
  have keep : ∀ h, keepH D.W D.pm i h = true → ∀ x ∈ full, L x.i → x.del ≠ some h := fun h hk x hx hl hd => by
    have := hwr x hx h hd
    unfold keepH at hk
    rw [this] at hk
    simp only [Bool.or_eq_true] at hk
    rcases hk with hk | hk
    · have := Nat.eq_of_beq_eq_true hk
      rw [this] at hl
      exact hu hl
    · split at hk
      · rename_i mk hmk
        exact hu (hI.cl _ _ _ hl hmk hk)
      · cases hk
  refine hrec.run cx ρ _ a w hI.hs hI.sz ?_ hI.t0 (fun t v hb hl => ?_) (fun x hx hb => hI.rc x (hsub x hx) (hpm _ hb)) ?_ N Q ?_
  · cases e : ρ (D.nx + i) with
    | none => rfl
    | some v =>
      obtain ⟨j, h1, h2⟩ := hI.hn _ v (by omega) e
      have : i = j := by omega
      subst this
      exact absurd h1 hu
  · obtain ⟨j, hj, hjj⟩ := oldB_ok hb
    refine hI.t1 j t v hj (fun hL => ?_) hl
    rcases hjj with rfl | ⟨mj, h1, h2⟩
    · exact hu hL
    · exact hu (hI.cl _ _ _ hL h1 h2)
  · intro h o' hh
    rcases hh with ⟨x, hx, hb, hob, hd⟩ | ⟨hl, hk⟩
    · rcases hd with hd | hk
      · exact .inl ⟨x, hsub x hx, hpm _ hb, hd, hob⟩
      · exact .inr ⟨keep h hk, .inl ⟨x, hsub x hx, hpm _ hb, hob⟩⟩
    · exact .inr ⟨keep h hk, .inr hl⟩
  · intro y ρ' w' hle hoth hs' hd hund
    refine hN ρ' _ w' ⟨hs'.less fun k o' hk => ?_, ?_, fun t v hl => ?_, fun j t v hj hnl hl => ?_, fun x hx hl => ?_, fun k v hk hv => ?_, fun j m' k hj hm' hb => ?_, ?_⟩
    · rcases hk with ⟨x, hx, hl, hd', hob⟩ | ⟨hno, hk⟩
      · by_cases e : x.i = i
        · have : x = r := hD.uq x hx r hr (by rw [e, hrec.ix])
          subst this
          exact .inr hob
        · rcases hl with hl | hl
          · exact absurd hl e
          · refine .inl ⟨fun hdr => e ?_, .inl ⟨x, hx, hl, hd', hob⟩⟩
            have h1 := hwr x hx k hd'
            have h2 := hrec.del k hdr
            rw [h1] at h2
            cases h2; rfl
      · have hdr : r.del ≠ some k := hno r hr (.inl hrec.ix)
        rcases hk with ⟨x, hx, hl, hob⟩ | hk
        · by_cases e : x.i = i
          · have : x = r := hD.uq x hx r hr (by rw [e, hrec.ix])
            subst this
            exact .inr hob
          · rcases hl with hl | hl
            · exact absurd hl e
            · exact .inl ⟨hdr, .inr ⟨fun z hz hzl => hno z hz (.inr hzl), .inl ⟨x, hx, hl, hob⟩⟩⟩
        · exact .inl ⟨hdr, .inr ⟨fun z hz hzl => hno z hz (.inr hzl), .inr hk⟩⟩
    · rw [put_tmps]; cases o.dst <;> simp [hI.sz]
    · obtain ⟨z, h1, h2⟩ := hI.t0 t v hl
      refine ⟨z, ?_, den_mono hle _ _ h2⟩
      rw [put_tmps]
      cases ht : o.dst with
      | none => exact h1
      | some u =>
        have : u ≠ t := by
          rintro rfl
          rw [hD.t0 i u (hD.ds i o u ho ht)] at hl
          cases hl
        simp only []
        rw [Array.getElem?_setIfInBounds_ne this]; exact h1
    · obtain ⟨z, h1, h2⟩ := hI.t1 j t v hj (fun h => hnl (.inr h)) hl
      refine ⟨z, ?_, den_mono hle _ _ h2⟩
      rw [put_tmps]
      cases ht : o.dst with
      | none => exact h1
      | some u =>
        have : u ≠ t := by
          rintro rfl
          exact hnl (.inl (hD.apart _ _ _ hj (hD.ds i o u ho ht)))
        simp only []
        rw [Array.getElem?_setIfInBounds_ne this]; exact h1
    · by_cases e : x.i = i
      · have : x = r := hD.uq x hx r hr (by rw [e, hrec.ix])
        subst this
        intro t ht
        have htd : o.dst = some t := by rw [← hrec.d]; exact ht
        have hne : ∀ e ∈ x.ids, e.1 ≠ t := fun ⟨t', b⟩ he e1 => by
          simp only at e1
          subst e1
          exact hu (hpm _ (hrec.ids i t' b (hD.ds i o t' ho htd) he))
        rw [put_tmps, htd]
        simp only []
        have hsz : t < a.tmps.size := by rw [hI.sz]; exact hrec.lt t ht
        rw [idsHold_set hne, Array.getElem?_setIfInBounds_self_of_lt hsz]
        exact ⟨fun hh => ⟨y, rfl, hd hh⟩, fun hh => by rw [hund hh]⟩
      · have hl : L x.i := hl.resolve_left e
        intro t ht
        obtain ⟨c1, c2⟩ := hI.rc x hx hl t ht
        rw [put_tmps]
        cases htd : o.dst with
        | none => exact ⟨fun hh => let ⟨z, h1, h2⟩ := c1 hh; ⟨z, h1, den_mono hle _ _ h2⟩, c2⟩
        | some u =>
          simp only []
          have hx' := Array.getElem?_eq_getElem (Nat.lt_of_lt_of_le (hD.lt x hx) hD.zle)
          obtain ⟨r', hr', m', _, hm', _, hrec'⟩ := hD.recs x.i _ (hD.lt x hx) hx'
          have := hD.uq x hx r' hr' hrec'.ix.symm
          subst this
          have hud := hD.ds i o u ho htd
          have hne : ∀ e ∈ x.ids, e.1 ≠ u := fun ⟨t', b⟩ he e1 => by
            simp only at e1
            subst e1
            exact hu (hI.cl _ _ _ hl hm' (hrec'.ids i t' b hud he))
          have hut : u ≠ t := by
            rintro rfl
            have := hD.ds x.i _ u hx' (by rw [← hrec'.d]; exact ht)
            exact e (hD.apart _ _ _ this hud)
          rw [idsHold_set hne, Array.getElem?_setIfInBounds_ne hut]
          exact ⟨fun hh => let ⟨z, h1, h2⟩ := c1 hh; ⟨z, h1, den_mono hle _ _ h2⟩, c2⟩
    · by_cases e : k = D.nx + i
      · exact ⟨i, .inl rfl, e⟩
      · rw [hoth k e] at hv
        obtain ⟨j, h1, h2⟩ := hI.hn k v hk hv
        exact ⟨j, .inr h1, h2⟩
    · rcases hj with rfl | hj
      · exact .inr (hp m' k hm' hb)
      · exact .inr (hI.cl _ _ _ hj hm' hb)
    · rw [put_defers]; exact hI.df

theorem countP_set_false : ∀ {l : List Bool} {i : Nat}, l[i]? = some false → (l.set i true).countP (· == false) + 1 = l.countP (· == false)
  | [], i, h => by simp at h
  | x :: l, 0, h => by simp at h; subst h; simp
  | x :: l, i + 1, h => by
    have := countP_set_false (l := l) (i := i) (by simpa using h)
    simp only [List.set_cons_succ, List.countP_cons]
    omega

theorem draw_any {ops : Array Oper} {D : Dc} {full : List Rec} {z : Nat} (hD : DOk P ops D full z) {cx : Cx} {Q : Exit → Act → World → Prop}
    (hQ : (z = ops.size ∧ ∀ ρ a w, DInv cx D full (· < z) ρ a w → Q .normal a w) ∨
      (z + 1 = ops.size ∧ ∃ o m, ops[z]? = some o ∧ lk z D.pm = some m ∧ (∀ j, j < z → bitAt m j = true) ∧ ∀ ρ a w, DInv cx D full (· < z) ρ a w → StepGoal P ops o Q a w)) :
    ∀ (fuel : Nat) (listed : Array Bool) (ρ : Vl) (a : Act) (w : World), listed.size = ops.size → listed.toList.countP (· == false) ≤ fuel → (∀ i, listed.getD i false = true → i < z) → DInv cx D full (fun i => listed.getD i false = true) ρ a w → wpAny P .any ops Q fuel listed a w := by
  have all : ∀ (listed : Array Bool) (ρ : Vl) (a : Act) (w : World), (∀ i, listed.getD i false = true → i < z) → (∀ i, i < z → listed.getD i false = true) → DInv cx D full (fun i => listed.getD i false = true) ρ a w → DInv cx D full (· < z) ρ a w := fun listed ρ a w hlt hall hI => by
    have : (fun i => listed.getD i false = true) = (· < z) := by
      funext i
      exact propext ⟨hlt i, hall i⟩
    rwa [this] at hI
  have unlisted : ∀ (listed : Array Bool), listed.size = ops.size → Region.ready .any ops listed = [] → ∀ i, i < ops.size → listed.getD i false = true := fun listed hsz hr i => by
    induction i using Nat.strongRecOn with
    | _ i ih =>
      intro hi
      cases hl : listed.getD i false with
      | true => rfl
      | false =>
        exfalso
        have hmem : i ∈ Region.ready .any ops listed := by
          rw [mem_ready]
          refine ⟨?_, _, Array.getElem?_eq_getElem hi, fun e he hb => ?_⟩
          · rw [Array.getD_eq_getD_getElem?] at hl ⊢
            rw [Array.getElem?_eq_getElem (by omega)] at hl ⊢
            exact hl
          · obtain ⟨m, _, h1, _⟩ := hD.masks i _ (Array.getElem?_eq_getElem hi)
            have h2 := (h1 e (Array.mem_toList_iff.2 he) hb).1
            exact ih e.on h2 (by omega)
        rw [hr] at hmem
        cases hmem
  have noready : ∀ (listed : Array Bool), listed.size = ops.size → (∀ i, i < ops.size → listed.getD i false = true) → Region.ready .any ops listed = [] := fun listed hsz hall => by
    cases hr : Region.ready .any ops listed with
    | nil => rfl
    | cons j r =>
      have hj : j ∈ Region.ready .any ops listed := by rw [hr]; exact List.mem_cons_self ..
      rw [mem_ready] at hj
      obtain ⟨h1, o, ho, _⟩ := hj
      have hlt : j < ops.size := (Array.getElem?_eq_some_iff.1 ho).1
      have h2 := hall j hlt
      rw [Array.getD_eq_getD_getElem?, Array.getElem?_eq_getElem (by omega)] at h1 h2
      simp only [Option.getD_some] at h1 h2
      rw [h1] at h2; cases h2
  -- where all is listed, nothing was left over for the last
  have done : ∀ (listed : Array Bool) (ρ : Vl) (a : Act) (w : World), listed.size = ops.size → (∀ i, listed.getD i false = true → i < z) → (∀ i, i < ops.size → listed.getD i false = true) → DInv cx D full (fun i => listed.getD i false = true) ρ a w → Q .normal a w := fun listed ρ a w hsz hlt hall hI => by
    rcases hQ with ⟨hz, hQ⟩ | ⟨hz, _⟩
    · exact hQ ρ a w (all listed ρ a w hlt (fun i hi => hall i (by omega)) hI)
    · have := hlt z (hall z (by omega))
      omega
  intro fuel
  induction fuel with
  | zero =>
    intro listed ρ a w hsz hc hlt hI
    have hall : ∀ i, i < ops.size → listed.getD i false = true := fun i hi => by
      have h0 : listed.toList.countP (· == false) = 0 := by omega
      rw [List.countP_eq_zero] at h0
      rw [Array.getD_eq_getD_getElem?, Array.getElem?_eq_getElem (by omega)]
      have := h0 (listed[i]'(by omega)) (by simp)
      simpa using this
    exact ⟨noready listed hsz hall, done listed ρ a w hsz hlt hall hI⟩
  | succ fuel ih =>
    intro listed ρ a w hsz hc hlz hI
    refine ⟨fun hr => done listed ρ a w hsz hlz (unlisted listed hsz hr) hI, fun i hi => ?_⟩
    rw [mem_ready] at hi
    obtain ⟨h1, o, ho, hpre⟩ := hi
    have hlt : i < ops.size := (Array.getElem?_eq_some_iff.1 ho).1
    have hlf : listed[i]? = some false := by
      rw [Array.getD_eq_getD_getElem?, Array.getElem?_eq_getElem (by omega)] at h1
      rw [Array.getElem?_eq_getElem (by omega)]
      simpa using h1
    have hu : ¬ listed.getD i false = true := by rw [Array.getD_eq_getD_getElem?, hlf]; simp
    obtain ⟨m, hm, hm1, hm2⟩ := hD.masks i o ho
    have hp : ∀ m' j, lk i D.pm = some m' → bitAt m' j = true → listed.getD j false = true := fun m' j hm' hb => by
      rw [hm] at hm'; cases hm'
      obtain ⟨e, he, hbi, h2⟩ := hm2 j hb
      have hon := hpre e (Array.mem_toList_iff.1 he) hbi
      rcases h2 with rfl | ⟨me, h3, h4⟩
      · exact hon
      · exact hI.cl _ _ _ hon h3 h4
    have fin : ∀ {N : Act → World → Prop}, DGoal P ops o a w N Q → (∀ a w, N a w → wpAny P .any ops Q fuel (listed.setIfInBounds i true) a w) → wpOp P ops Q i (wpAny P .any ops Q fuel (listed.setIfInBounds i true)) a w := fun {N} goal hN => by
      unfold wpOp
      rw [ho]
      simp only []
      unfold DGoal at goal
      split
      · rename_i hw
        rw [if_pos hw] at goal
        exact .inl (Oper.wp_mono hN goal)
      · rename_i hw
        rw [if_neg hw] at goal
        exact hN _ _ goal
    have setD : ∀ j, (listed.setIfInBounds i true).getD j false = true ↔ (j = i ∨ listed.getD j false = true) := fun j => by
      refine ⟨fun h => ?_, fun h => ?_⟩
      · by_cases e : j = i
        · exact .inl e
        · rw [getD_set_ne false (Ne.symm e)] at h; exact .inr h
      · rcases h with rfl | h
        · rw [Array.getD_eq_getD_getElem?, Array.getElem?_setIfInBounds_self_of_lt (by omega)]; rfl
        · exact getD_set_true h
    by_cases hiz : i < z
    · refine fin (dstep hD hI hiz ho hu hp (N := wpAny P .any ops Q fuel (listed.setIfInBounds i true)) (Q := Q) fun ρ' a' w' hI' => ?_) fun _ _ h => h
      refine ih _ ρ' a' w' (by simp [hsz]) ?_ (fun j hj => ?_) ?_
      · have := countP_set_false (l := listed.toList) (i := i) (by simpa using hlf)
        rw [Array.toList_setIfInBounds]
        omega
      · rcases (setD j).1 hj with rfl | hj
        · exact hiz
        · exact hlz j hj
      · have : (fun j => (listed.setIfInBounds i true).getD j false = true) = (fun j => j = i ∨ listed.getD j false = true) := by
          funext j
          exact propext (setD j)
        rw [this]
        exact hI'
    · rcases hQ with ⟨hz, _⟩ | ⟨hz, oz, mz, hoz, hmz, hbz, hZ⟩
      · omega
      · have : i = z := by omega
        subst this
        rw [hoz] at ho; cases ho
        have hall : ∀ j, j < i → listed.getD j false = true := fun j hj => hp mz j hmz (hbz j hj)
        have goal := hZ ρ a w (all listed ρ a w hlz hall hI)
        refine fin (N := Q .normal) goal fun a' w' hq => ?_
        refine wpAny_done (noready _ (by simp [hsz]) fun j hj => (setD j).2 ?_) hq fuel
        by_cases e : j = i
        · exact .inl e
        · exact .inr (hall j (by omega))

theorem dsOf_mem : ∀ (l : List Oper) (i k : Nat) (o : Oper) (t : Nat), l[k]? = some o → o.dst = some t → (i + k, t) ∈ dsOf l i
  | [], _, _, _, _, h, _ => by simp at h
  | x :: l, i, 0, o, t, h, ht => by
    simp at h; subst h
    simp only [dsOf, ht]
    exact List.mem_cons_self ..
  | x :: l, i, k + 1, o, t, h, ht => by
    have := dsOf_mem l (i + 1) k o t (by simpa using h) ht
    rw [show i + 1 + k = i + (k + 1) by omega] at this
    simp only [dsOf]
    split
    · exact List.mem_cons_of_mem _ this
    · exact this
theorem notIn_ok {t : Nat} : ∀ {l : List (Nat × Nat)}, notIn t l = true → ∀ j, (j, t) ∉ l
  | [], _, _, h => by cases h
  | (k, u) :: r, h, j, hm => by
    simp only [notIn, Bool.and_eq_true, Bool.not_eq_true'] at h
    rcases List.mem_cons.1 hm with e | hm
    · cases e; rw [Nat.beq_refl] at h; cases h.1
    · exact notIn_ok h.2 j hm
theorem dsApart_ok : ∀ {l : List (Nat × Nat)}, dsApart l = true → ∀ j k t, (j, t) ∈ l → (k, t) ∈ l → j = k
  | [], _, _, _, _, h, _ => by cases h
  | (j0, t0) :: r, h, j, k, t, h1, h2 => by
    simp only [dsApart, Bool.and_eq_true] at h
    rcases List.mem_cons.1 h1 with e1 | h1
    · cases e1
      rcases List.mem_cons.1 h2 with e2 | h2
      · cases e2; rfl
      · exact absurd h2 (notIn_ok h.1 k)
    · rcases List.mem_cons.1 h2 with e2 | h2
      · cases e2; exact absurd h1 (notIn_ok h.1 j)
      · exact dsApart_ok h.2 j k t h1 h2
theorem lk_rmDs : ∀ {ds : List (Nat × Nat)} {T : List (Nat × SV)}, (∀ t v, lk t (rmDs ds T) = some v → lk t T = some v) ∧ ∀ j t, (j, t) ∈ ds → lk t (rmDs ds T) = none
  | [], T => ⟨fun _ _ h => h, fun _ _ h => by cases h⟩
  | (j, t) :: r, T => by
    obtain ⟨h1, h2⟩ := lk_rmDs (ds := r) (T := rmT t T)
    refine ⟨fun u v h => ?_, fun k u hm => ?_⟩
    · have := h1 u v h
      by_cases e : u = t
      · subst e; rw [lk_rmT_same] at this; cases this
      · rwa [lk_rmT e] at this
    · simp only [rmDs]
      rcases List.mem_cons.1 hm with e | hm
      · cases e
        cases hl : lk t (rmDs r (rmT t T)) with
        | none => rfl
        | some v => have := h1 _ _ hl; rw [lk_rmT_same] at this; cases this
      · exact h2 k u hm
theorem msk_ok {α : Type} {u : Nat} : ∀ {l : List (Nat × α)} {m : Nat}, (bitAt m u = true ∨ ∃ v, (u, v) ∈ l) → bitAt (msk l m) u = true
  | [], m, h => by
    rcases h with h | ⟨v, h⟩
    · exact h
    · cases h
  | (k, x) :: r, m, h => by
    refine msk_ok (l := r) ?_
    rcases h with h | ⟨v, h⟩
    · exact .inl (by rw [bitAt_or, h]; rfl)
    · rcases List.mem_cons.1 h with e | h
      · cases e; exact .inl (by rw [bitAt_or, bitAt_pow]; simp)
      · exact .inr ⟨v, h⟩
theorem msk_apart {α β : Type} {l : List (Nat × α)} {l' : List (Nat × β)} (h : Nat.beq (Nat.land (msk l 0) (msk l' 0)) 0 = true) {u : Nat} {x : α} (hu : (u, x) ∈ l) : lk u l' = none := by
  cases hl : lk u l' with
  | none => rfl
  | some y =>
    have h1 := msk_ok (m := 0) (.inr ⟨x, hu⟩)
    have h2 := msk_ok (m := 0) (.inr ⟨y, lk_mem hl⟩)
    have h3 := Nat.eq_of_beq_eq_true h
    rw [bitAt_eq] at h1 h2
    have h4 : (Nat.land (msk l 0) (msk l' 0)).testBit u = true := by
      rw [show Nat.land (msk l 0) (msk l' 0) = (msk l 0) &&& (msk l' 0) from rfl, Nat.testBit_and, h1, h2]; rfl
    rw [h3, Nat.zero_testBit] at h4
    cases h4
theorem mskK_eq {α : Type} : ∀ (l : List (Nat × α)) (m : Nat) (K : Nat → Prop), mskK l m K = K (msk l m)
  | [], _, _ => rfl
  | (u, _) :: r, m, K => mskK_eq r _ K
theorem swp_mem {i t : Nat} : ∀ {ds : List (Nat × Nat)}, (i, t) ∈ ds → (t, i) ∈ swp ds
  | (j, u) :: r, h => by
    rcases List.mem_cons.1 h with e | h
    · cases e; exact List.mem_cons_self ..
    · exact List.mem_cons_of_mem _ (swp_mem h)
theorem dropK_eq {α : Type} {m : Nat} : ∀ (l : List (Nat × α)) (K : List (Nat × α) → Prop), dropK m l K = K (dropM m l)
  | [], K => rfl
  | (u, v) :: r, K => by
    simp only [dropK, dropM]
    cases bitAt m u with
    | true => simp only [cond_true, dropK_eq r]
    | false => simp only [cond_false, dropK_eq r]
theorem lk_dropM {α : Type} {m u : Nat} {v : α} : ∀ {l : List (Nat × α)}, lk u (dropM m l) = some v → lk u l = some v ∧ bitAt m u = false
  | [], h => by cases h
  | (k, x) :: r, h => by
    simp only [dropM] at h
    cases hb : bitAt m k with
    | true =>
      rw [hb, cond_true] at h
      obtain ⟨h1, h2⟩ := lk_dropM h
      refine ⟨?_, h2⟩
      rw [lk_cons_other _ _ (by rintro rfl; rw [hb] at h2; cases h2)]
      exact h1
    | false =>
      rw [hb, cond_false] at h
      by_cases e : u = k
      · subst e; rw [lk_cons_same] at h ⊢; exact ⟨h, hb⟩
      · rw [lk_cons_other _ _ e] at h ⊢; exact lk_dropM h
theorem keepK_ok {α : Type} {m : Nat} : ∀ {l : List (Nat × α)} {K : List (Nat × α) → Prop}, keepK m l K → ∃ l', K l' ∧ ∀ t v, lk t l' = some v → lk t l = some v ∧ bitAt m t = true
  | [], K, h => ⟨[], h, fun _ _ h => by cases h⟩
  | (u, x) :: r, K, h => by
    simp only [keepK] at h
    split at h
    · rename_i hb
      obtain ⟨l', h1, h2⟩ := keepK_ok h
      refine ⟨l', h1, fun t v hl => ?_⟩
      obtain ⟨h3, h4⟩ := h2 t v hl
      refine ⟨?_, h4⟩
      rw [lk_cons_other _ _ (by rintro rfl; rw [hb] at h4; cases h4)]
      exact h3
    · rename_i hb
      obtain ⟨l', h1, h2⟩ := keepK_ok h
      refine ⟨_, h1, fun t v hl => ?_⟩
      by_cases e : t = u
      · subst e; rw [lk_cons_same] at hl ⊢; exact ⟨hl, hb⟩
      · rw [lk_cons_other _ _ e] at hl ⊢; exact h2 t v hl
theorem rmDsK_ok {ds : List (Nat × Nat)} {T : List (Nat × SV)} {K : List (Nat × SV) → List (Nat × SV) → Prop} (h : rmDsK ds T K) : ∃ T1 T', K T1 T' ∧ (∀ t v, lk t T1 = some v → lk t T = some v) ∧ (∀ t v, lk t T' = some v → lk t T = some v) ∧ ∀ j t, (j, t) ∈ ds → lk t T' = none := by
  unfold rmDsK at h
  simp only [mskK_eq, dropK_eq] at h
  obtain ⟨T1, h, hT1⟩ := keepK_ok h
  refine ⟨_, _, h, fun t v hl => (hT1 t v hl).1, fun t v hl => (lk_dropM hl).1, fun j t hd => ?_⟩
  cases hl : lk t (dropM (msk (swp ds) 0) T) with
  | none => rfl
  | some v =>
    have h1 := (lk_dropM hl).2
    rw [msk_ok (m := 0) (.inr ⟨j, swp_mem hd⟩)] at h1
    cases h1
theorem wrK_ok : ∀ (l : List Rec) (W : List (Nat × Nat)) (K : List (Nat × Nat) → Prop), wrK l W K → ∃ W', K W'
  | [], W, K, h => ⟨W, h⟩
  | ⟨_, _, _, _, _, some _⟩ :: r, W, K, h => wrK_ok r _ K h
  | ⟨_, _, _, _, _, none⟩ :: r, W, K, h => wrK_ok r _ K h

theorem initL_get : ∀ {l : List Oper} {k : Nat}, k < (initL l).length → (initL l)[k]? = l[k]?
  | [], k, h => by simp [initL] at h
  | [o], k, h => by simp [initL] at h
  | o :: o' :: r, 0, h => by simp [initL]
  | o :: o' :: r, k + 1, h => by
    simp only [initL, List.length_cons, Nat.add_lt_add_iff_right] at h
    simpa [initL] using initL_get (l := o' :: r) h
theorem lastL_get : ∀ {l : List Oper} {o : Oper}, lastL l = some o → (initL l).length + 1 = l.length ∧ l[(initL l).length]? = some o
  | [], o, h => by cases h
  | [o'], o, h => by cases h; exact ⟨rfl, rfl⟩
  | x :: o' :: r, o, h => by
    obtain ⟨h1, h2⟩ := lastL_get (l := o' :: r) h
    exact ⟨by simp only [initL, List.length_cons] at h1 ⊢; omega, by simpa [initL] using h2⟩

theorem xdrawD_ok (hP : TabOk P tb) {ops : Array Oper} {l : List Oper} {z : Nat} {TO T T1 : List (Nat × SV)} {H : List (Nat × SO)} {nx n : Nat} {pm W : List (Nat × Nat)} {K : St → Prop} (h : xdrawD tb ops l z TO T H nx n (dsOf ops.toList 0) pm W K) (hTO : ∀ t v, lk t TO = some v → lk t T1 = some v) (hT1 : ∀ t v, lk t T = some v → lk t T1 = some v) (hT2 : ∀ j t, (j, t) ∈ dsOf ops.toList 0 → lk t T = none)
    (hlz : l.length = z) (hl : ∀ k, k < z → l[k]? = ops[k]?) (hzs : z ≤ ops.size)
    (hpm : ∀ k o, ops.toList[k]? = some o → MaskOk pm (0 + k) o) (hds : dsApart (dsOf ops.toList 0) = true) {cx : Cx} {ρ : Vl} {a : Act} {w : World} (hs : Sat cx ρ ⟨T1, [], H, nx, n⟩ a w) {Q : Exit → Act → World → Prop}
    (hQ : (z = ops.size ∧ ∀ ρ s a w, K s → Sat cx ρ s a w → Q .normal a w) ∨
      (z + 1 = ops.size ∧ ∃ o m, ops[z]? = some o ∧ lk z pm = some m ∧ (∀ j, j < z → bitAt m j = true) ∧ ∀ ρ s a w, K s → Sat cx ρ s a w → StepGoal P ops o Q a w)) (id : Nat) :
    (Code.region id ops true).wp P Q a w := by
  unfold xdrawD at h
  obtain ⟨full, hk, hr⟩ := xdops_ok hP _ _ _ _ h
  obtain ⟨_, hr2, hr3, hr4⟩ := hr rfl
  have huq := hr3 (fun _ h => by cases h) (fun _ h => by cases h)
  have hlt : ∀ x ∈ full, x.i < z := fun x hx => by
    rcases hr2 x hx with h1 | h1
    · cases h1
    · simpa [hlz] using h1.2
  let D : Dc := ⟨T, TO, H, nx, n, dsOf ops.toList 0, pm, W⟩
  have hD : DOk P ops D full z := {
    zle := hzs
    masks := fun k o ho => by have := hpm k o (by simpa using ho); rwa [Nat.zero_add] at this
    uq := huq
    lt := hlt
    recs := fun k o hkz ho => by have := hr4 k o (by rw [hl k hkz]; exact ho); rwa [Nat.zero_add] at this
    ds := fun k o t ho ht => by have := dsOf_mem ops.toList 0 k o t (by simpa using ho) ht; rwa [Nat.zero_add] at this
    apart := dsApart_ok hds
    t0 := fun j t hm => hT2 j t hm }
  have fin : ∀ ρ' a' w', DInv cx D full (· < z) ρ' a' w' → ∃ s', K s' ∧ Sat cx ρ' s' a' w' := fun ρ' a' w' hI => by
    simp only [frN_eq, sp_eq] at hk
    obtain ⟨T', G', H', hk, hT', hG', hH'⟩ := selK_ok _ _ _ _ _ hk
    refine ⟨_, hk, ⟨hI.hs.less fun g o hl => ?_, fun k hk' => ?_⟩, ⟨hI.sz, fun t v _ hl => ?_, fun _ _ _ hm => by cases hm⟩, hI.df⟩
    · have keep : keepH W pm z g = true → ∀ x ∈ full, x.i < z → x.del ≠ some g := fun hk x hx hxl hd => by
        have hw : lk g W = some x.i := by
          obtain ⟨r', hr', m', _, _, _, hrec'⟩ := hD.recs x.i _ hxl (Array.getElem?_eq_getElem (Nat.lt_of_lt_of_le hxl hzs))
          have := huq x hx r' hr' hrec'.ix.symm
          subst this
          exact hrec'.del g hd
        unfold keepH at hk
        rw [hw] at hk
        simp only [Bool.or_eq_true] at hk
        rcases hk with hk | hk
        · have := Nat.eq_of_beq_eq_true hk; omega
        · split at hk
          · rename_i mk hmk
            have := hI.cl _ _ _ hxl hmk hk
            omega
          · cases hk
      rcases hH' g o hl with ⟨x, hx, _, hob, hd⟩ | h1
      · rcases hd with hd | hd
        · exact .inl ⟨x, hx, hlt x hx, hd, hob⟩
        · exact .inr ⟨keep hd, .inl ⟨x, hx, hlt x hx, hob⟩⟩
      · obtain ⟨h2, h3⟩ := lk_baseH h1
        exact .inr ⟨keep h3, .inr h2⟩
    · cases e : ρ' k with
      | none => rfl
      | some v =>
        have hk' : nx + z ≤ k := hk'
        obtain ⟨i, h1, h2⟩ := hI.hn k v (show nx ≤ k by omega) e
        have h2 : k = nx + i := h2
        omega
    · rcases hT' t v hl with ⟨x, h1, h2, h3, h4, rfl⟩ | h1
      · exact ((hI.rc x h1 (hlt x h1)) t h3).1 (by rw [h4]; intro e he; cases he)
      · exact hI.t0 t v h1
  have hno : ∀ i, ¬ (Array.replicate ops.size false).getD i false = true := fun i => by
    rw [Array.getD_eq_getD_getElem?, Array.getElem?_replicate]
    split <;> simp
  refine wp_region_any hP.mixed (draw_any hD (cx := cx) ?_ _ _ ρ _ _ (by simp) ?_ (fun i hi => absurd hi (hno i)) ?_)
  · rcases hQ with ⟨h1, h2⟩ | ⟨h1, o, m, h2, h3, h4, h5⟩
    · exact .inl ⟨h1, fun ρ a w hI => let ⟨s', k, hs'⟩ := fin ρ a w hI; h2 ρ s' a w k hs'⟩
    · exact .inr ⟨h1, o, m, h2, h3, h4, fun ρ a w hI => let ⟨s', k, hs'⟩ := fin ρ a w hI; h5 ρ s' a w k hs'⟩
  · simp only [Array.toList_replicate]
    exact Nat.le_trans (List.countP_le_length) (by simp)
  · refine ⟨(hs.hs.r.grow (w' := { w with drawn := w.drawn + 1 }) ⟨rfl, rfl, rfl, Nat.le_refl _, fun _ _ => rfl⟩).less fun g o hm => ?_, hs.ts.sz, fun t v hl => ?_, fun j t v _ _ hl => ?_, fun x hx hl => absurd hl (hno _), fun k v hk hv => ?_, fun i m j hl => absurd hl (hno _), hs.df⟩
    · rcases hm with ⟨x, _, hl, _⟩ | ⟨_, ⟨x, _, hl, _⟩ | hm⟩
      · exact absurd hl (hno _)
      · exact absurd hl (hno _)
      · exact hm
    · have hl : lk t T = some v := hl
      exact hs.ts.vs t v rfl (hT1 t v hl)
    · have hl : lk t TO = some v := hl
      exact hs.ts.vs t v rfl (hTO t v hl)
    · have := hs.hs.nx k hk
      rw [hv] at this; cases this

theorem mask_full {m z : Nat} (h : Nat.beq m (2 ^ z - 1) = true) : ∀ j, j < z → bitAt m j = true := fun j hj => by
  rw [Nat.eq_of_beq_eq_true h, bitAt_eq, Nat.testBit_two_pow_sub_one]
  simpa using hj

theorem xdraw_ok (hP : TabOk P tb) {C : CH} (hC : COk P C) {id : Nat} {ops : Array Oper} {s : St} {K : Exit → St → Prop} (h : xdraw P tb C ops s K) {cx : Cx} {ρ : Vl} {a : Act} {w : World} (hs : Sat cx ρ s a w) {Q : Exit → Act → World → Prop} (hQ : KQ cx K Q) :
    (Code.region id ops true).wp P Q a w := by
  unfold xdraw at h
  split at h
  case h_2 => exact h.elim
  rename_i T H nx n
  obtain ⟨pm, hk, _, hpm⟩ := pmK_ok _ _ _ _ h (fun j m hl => by cases hl)
  split at hk
  · exact hk.elim
  rename_i hds
  simp only [sp_eq] at hk
  split at hk
  · exact hk.elim
  rename_i o ho
  split at hk
  · obtain ⟨TO, T', hk, hTO, hT1, hT2⟩ := rmDsK_ok hk
    unfold xdrawW at hk
    have q := fun (ρ : Vl) (s : St) (a : Act) (w : World) (k : K .normal s) (hs : Sat cx ρ s a w) => hQ .normal ρ s a w k hs
    split at hk
    · exact xdrawD_ok hP hk hTO hT1 hT2 (by simp) (fun k _ => by simp) (Nat.le_refl _) hpm hds hs (.inl ⟨rfl, q⟩) id
    · obtain ⟨recs, hk, _⟩ := xdops_ok hP _ _ _ _ hk
      obtain ⟨W, hk⟩ := wrK_ok _ _ _ hk
      exact xdrawD_ok hP hk hTO hT1 hT2 (by simp) (fun k _ => by simp) (Nat.le_refl _) hpm hds hs (.inl ⟨rfl, q⟩) id
  · rename_i hlc
    obtain ⟨TO, T', hk, hTO, hT1, hT2⟩ := rmDsK_ok hk
    simp only [frN_eq] at hk
    obtain ⟨h1, h2⟩ := lastL_get ho
    simp only [Array.length_toList] at h1
    have hmask : ∃ m, lk (initL ops.toList).length pm = some m ∧ ∀ j, j < (initL ops.toList).length → bitAt m j = true := by
      unfold lastCall at hlc
      split at hlc
      case h_2 => cases hlc
      split at hlc
      case h_2 => cases hlc
      split at hlc
      case h_2 => cases hlc
      rename_i m _ hm
      exact ⟨m, hm, mask_full hlc⟩
    obtain ⟨m, hm1, hm2⟩ := hmask
    have q : ((initL ops.toList).length = ops.size ∧ ∀ ρ s a w, xstep P tb C ops o 5 s K → Sat cx ρ s a w → Q .normal a w) ∨
      ((initL ops.toList).length + 1 = ops.size ∧ ∃ o' m, ops[(initL ops.toList).length]? = some o' ∧ lk (initL ops.toList).length pm = some m ∧ (∀ j, j < (initL ops.toList).length → bitAt m j = true) ∧ ∀ ρ s a w, xstep P tb C ops o 5 s K → Sat cx ρ s a w → StepGoal P ops o' Q a w) :=
      .inr ⟨h1, o, m, by simpa using h2, hm1, hm2, fun ρ s a w k hs => xstep_ok hP hC 5 k hQ hs⟩
    have hl : ∀ k, k < (initL ops.toList).length → (initL ops.toList)[k]? = ops[k]? := fun k hk => by rw [initL_get hk]; simp
    unfold xdrawW at hk
    split at hk
    · exact xdrawD_ok hP hk hTO hT1 hT2 rfl hl (by omega) hpm hds hs q id
    · obtain ⟨recs, hk, _⟩ := xdops_ok hP _ _ _ _ hk
      obtain ⟨W, hk⟩ := wrK_ok _ _ _ hk
      exact xdrawD_ok hP hk hTO hT1 hT2 rfl hl (by omega) hpm hds hs q id
end
end Go.Sx
