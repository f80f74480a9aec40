/- The walk of code: what it asks, and that it is right; a function's beginning and end; loops, jumps. -/
import Derived.Test.YtiibmnoikgfcbaaDoorX9A
import Derived.LoopN
namespace Go.Sx
open Go.RowKit
set_option linter.unusedVariables false
set_option linter.unusedSimpArgs false

/-- From every frame and world that the state tells, code comes to K. -/
def X (P : Program) (c : Code) (s : St) (K : Exit → St → Prop) : Prop :=
  ∀ cx ρ a w, Sat cx ρ s a w → ∀ Q, KQ cx K Q → c.wp P Q a w

/-- A loop, a range over a function, a jump: the prover's to carry on. -/
def XLoop (P : Program) (tb : Tab) (c : Code) (s : St) (K : Exit → St → Prop) : Prop := X P (.loop c) s K
def XCode (P : Program) (tb : Tab) (c : Code) (s : St) (K : Exit → St → Prop) : Prop := X P c s K

def clrT : List (Nat × (List (Nat × Bool) × SV)) → List (Nat × SV) → List (Nat × SV)
  | [], T => T
  | (u, _) :: r, T => clrT r (rmT u T)
/-- Behind a region no guarded value counts any more. -/
def clr (s : St) (K : St → Prop) : Prop :=
  match s with
  | ⟨T, [], H, nx, n⟩ => K ⟨T, [], H, nx, n⟩
  | ⟨T, e :: G, H, nx, n⟩ => mskK (e :: G) 0 fun m => dropK m T fun T => K ⟨T, [], H, nx, n⟩

def setC (c : Operand) (b : Bool) (s : St) (K : St → Prop) : Prop :=
  match c, s with
  | .tmp t, ⟨T, [], H, nx, n⟩ => K ⟨(t, .lb b) :: T, [], H, nx, n⟩
  | _, s => K s

/-- Rounds of a loop, one by one. -/
def iter (body : St → (Exit → St → Prop) → Prop) : Nat → St → (Exit → St → Prop) → Prop
  | 0, _, _ => Stands "a loop that goes on"
  | n + 1, s, K => body s fun e s' => match e with
    | .normal => iter body n s' K
    | e => K e s'

def wpx (P : Program) (tb : Tab) (C : CH) : Code → St → (Exit → St → Prop) → Prop
  | .skip, s, K => K .normal s
  | .label _, s, K => K .normal s
  | .region id ops draw, s, K => match draw with
    | false => xops P tb C ops ops.toList s fun e s' => clr s' (K e)
    | true => match tb.own id with
      | true => XCode P tb (.region id ops true) s K
      | false => xdraw P tb C ops s fun e s' => clr s' (K e)
  | .seq a b, s, K => wpx P tb C a s fun e s' => match e with
    | .normal => wpx P tb C b s' K
    | e => K e s'
  | .cond c t f, s, K => match ev s [] c with
    | some (.lb true) => wpx P tb C t s K
    | some (.lb false) => wpx P tb C f s K
    | some (.b x) => (x = true → setC c true s fun s => wpx P tb C t s K) ∧ (x = false → setC c false s fun s => wpx P tb C f s K)
    | _ => Stands "a condition"
  | .block id c, s, K => wpx P tb C c s fun e s' => match e with
    | .exit j => match Nat.beq j id with
      | true => K .normal s'
      | false => K (.exit j) s'
    | e => K e s'
  | .loop c, s, K => match tb.unr with
    | 0 => XLoop P tb c s K
    | n + 1 => iter (fun s K => wpx P tb C c s K) (n + 1) s K
  | .exit id, s, K => K (.exit id) s
  | .goto l, s, K => K (.goto l) s
  | .ret, s, K => K .ret s
  | .scope c, s, K => wpx P tb C c s fun e s' => match e with
    | .goto l => match findLabel c l with
      | some rest => XCode P tb rest s' fun e s' => match e with | .goto _ => False | e => K e s'
      | none => Stands "a label"
    | e => K e s'
  | c, s, K => XCode P tb c s K

section
variable {P : Program} {tb : Tab}

theorem lk_clrT : ∀ {G : List (Nat × (List (Nat × Bool) × SV))} {T : List (Nat × SV)} {u : Nat} {v : SV}, lk u (clrT G T) = some v → lk u T = some v ∧ lk u G = none
  | [], T, u, v, h => ⟨h, rfl⟩
  | (k, p) :: r, T, u, v, h => by
    simp only [clrT] at h
    obtain ⟨h1, h2⟩ := lk_clrT h
    by_cases e : u = k
    · subst e; rw [lk_rmT_same] at h1; cases h1
    · rw [lk_rmT e] at h1
      exact ⟨h1, by rw [lk_cons_other _ _ e]; exact h2⟩

theorem clr_ok {cx : Cx} {ρ : Vl} {s : St} {a : Act} {w : World} {K : St → Prop} (h : clr s K) (hs : Sat cx ρ s a w) : ∃ s', K s' ∧ Sat cx ρ s' a w := by
  obtain ⟨T, G, H, nx, n⟩ := s
  cases G with
  | nil => exact ⟨_, h, hs⟩
  | cons e G =>
    simp only [clr, dropK_eq, mskK_eq] at h
    refine ⟨_, h, hs.hs, ⟨hs.ts.sz, fun u v _ hl => ?_, fun _ _ _ hm => by cases hm⟩, hs.df⟩
    obtain ⟨h1, h2⟩ := lk_dropM hl
    refine hs.ts.vs u v ?_ h1
    cases hg : lk u (e :: G) with
    | none => rfl
    | some y =>
      rw [msk_ok (m := 0) (.inr ⟨y, lk_mem hg⟩)] at h2
      cases h2

theorem setC_ok {cx : Cx} {ρ : Vl} {s : St} {a : Act} {w : World} {c : Operand} {b : Bool} {K : St → Prop} (h : setC c b s K) (hs : Sat cx ρ s a w) (he : ev s [] c = some (.b b)) : ∃ s', K s' ∧ Sat cx ρ s' a w := by
  unfold setC at h
  split at h
  · rename_i t T H nx n
    refine ⟨_, h, hs.hs, ⟨hs.ts.sz, fun u v hg hl => ?_, hs.ts.gd⟩, hs.df⟩
    by_cases e : u = t
    · subst e
      rw [lk_cons_same] at hl
      cases hl
      obtain ⟨y, h1, h2⟩ := hs.ts.vs u (.b b) rfl he
      exact ⟨y, h1, h2⟩
    · rw [lk_cons_other _ _ e] at hl
      exact hs.ts.vs u v hg hl
  · exact ⟨_, h, hs⟩

/-- A scope in which the run jumps ahead, and behind a jump no more. -/
theorem wp_scope_fwd {c : Code} {Q : Exit → Act → World → Prop} {a : Act} {w : World}
    (h : c.wp P (fun e a w => match e with | .goto l => ∃ rest, findLabel c l = some rest ∧ rest.wp P (Exit.noGoto Q) a w | e => Q e a w) a w) : (Code.scope c).wp P Q a w := by
  intro b k cs
  obtain ⟨e, a₁, w₁, hq, harr⟩ := h b (.inScope c :: k) cs
  cases e with
  | normal => exact ⟨.normal, a₁, w₁, hq, .head step_scope (Steps.trans harr (.one step_inScope))⟩
  | exit id => exact ⟨.exit id, a₁, w₁, hq, fun k' hk => .head step_scope (harr k' (by simp [exitTo, hk]))⟩
  | goto l =>
    obtain ⟨rest, hr, hwp⟩ := hq
    have hg : gotoIn l (.inScope c :: k) = some (.code rest :: .inScope c :: k) := by simp [gotoIn, hr]
    have h1 := harr _ hg
    obtain ⟨e2, a2, w2, hq2, harr2⟩ := hwp b (.inScope c :: k) cs
    cases e2 with
    | normal => exact ⟨.normal, a2, w2, hq2, .head step_scope (Steps.trans h1 (Steps.trans harr2 (.one step_inScope)))⟩
    | exit id => exact ⟨.exit id, a2, w2, hq2, fun k' hk => .head step_scope (Steps.trans h1 (harr2 k' (by simp [exitTo, hk])))⟩
    | goto l => exact hq2.elim
    | ret => exact ⟨_, a2, w2, hq2, .of_steps (.one step_scope) (.of_steps h1 harr2)⟩
    | panic ch => exact ⟨_, a2, w2, hq2, .of_steps (.one step_scope) (.of_steps h1 harr2)⟩
    | outgrown => exact ⟨_, a2, w2, hq2, .of_steps (.one step_scope) (.of_steps h1 harr2)⟩
  | ret => exact ⟨_, a₁, w₁, hq, .of_steps (.one step_scope) harr⟩
  | panic ch => exact ⟨_, a₁, w₁, hq, .of_steps (.one step_scope) harr⟩
  | outgrown => exact ⟨_, a₁, w₁, hq, .of_steps (.one step_scope) harr⟩

theorem iter_ok {c : Code} {body : St → (Exit → St → Prop) → Prop} (hb : ∀ s K, body s K → X P c s K) : ∀ (n : Nat) {s : St} {K : Exit → St → Prop}, iter body n s K → ∀ cx ρ a w, Sat cx ρ s a w → ∀ Q, KQ cx K Q → Code.rounds P c Q n a w
  | 0, s, K, h, _, _, _, _, _, _, _ => h.elim
  | n + 1, s, K, h, cx, ρ, a, w, hs, Q, hK => by
    rw [rounds_succ]
    refine hb _ _ h cx ρ a w hs _ fun e ρ' s' a' w' hk hs' => ?_
    cases e with
    | normal => exact iter_ok hb n hk cx ρ' a' w' hs' Q hK
    | _ => exact hK _ _ _ _ _ hk hs'

theorem wpx_ok (hP : TabOk P tb) {C : CH} (hC : COk P C) : ∀ (c : Code) {s : St} {K : Exit → St → Prop}, wpx P tb C c s K → X P c s K
  | .skip, s, K, h => fun cx ρ a w hs Q hK => wp_skip (hK _ _ _ _ _ h hs)
  | .label l, s, K, h => fun cx ρ a w hs Q hK => wp_label (hK _ _ _ _ _ h hs)
  | .region id ops draw, s, K, h => fun cx ρ a w hs Q hK => by
    cases draw with
    | true =>
      simp only [wpx] at h
      split at h
      · exact h cx ρ a w hs Q hK
      · exact xdraw_ok hP hC h hs (fun e ρ' s' a' w' hk hs' => by
          obtain ⟨s2, k2, hs2⟩ := clr_ok hk hs'
          exact hK _ _ _ _ _ k2 hs2)
    | false =>
      simp only [wpx] at h
      exact wp_region_list (xops_ok hP hC ops.toList h (fun e ρ' s' a' w' hk hs' => by
        obtain ⟨s2, k2, hs2⟩ := clr_ok hk hs'
        exact hK _ _ _ _ _ k2 hs2) hs)
  | .seq c d, s, K, h => fun cx ρ a w hs Q hK => by
    simp only [wpx] at h
    refine wp_seq (wpx_ok hP hC c h cx ρ a w hs _ fun e ρ' s' a' w' hk hs' => ?_)
    cases e with
    | normal => exact wpx_ok hP hC d hk cx ρ' a' w' hs' Q hK
    | _ => exact hK _ _ _ _ _ hk hs'
  | .cond c t f, s, K, h => fun cx ρ a w hs Q hK => by
    simp only [wpx] at h
    have e := ev_ok hs.ts (ids := []) (fun e he => by cases he)
    split at h
    · rename_i hc
      have h1 := e _ _ hc
      simp only [den, Option.some.injEq] at h1
      exact wp_cond_true h1.symm (wpx_ok hP hC t h cx ρ a w hs Q hK)
    · rename_i hc
      have h1 := e _ _ hc
      simp only [den, Option.some.injEq] at h1
      exact wp_cond_false h1.symm (wpx_ok hP hC f h cx ρ a w hs Q hK)
    · rename_i x hc
      have h1 := e _ _ hc
      simp only [den, Option.some.injEq] at h1
      cases x with
      | true =>
        obtain ⟨s', k, hs'⟩ := setC_ok (h.1 rfl) hs hc
        exact wp_cond_true h1.symm (wpx_ok hP hC t k cx ρ a w hs' Q hK)
      | false =>
        obtain ⟨s', k, hs'⟩ := setC_ok (h.2 rfl) hs hc
        exact wp_cond_false h1.symm (wpx_ok hP hC f k cx ρ a w hs' Q hK)
    · exact h.elim
  | .block id c, s, K, h => fun cx ρ a w hs Q hK => by
    simp only [wpx] at h
    refine wp_block (wpx_ok hP hC c h cx ρ a w hs _ fun e ρ' s' a' w' hk hs' => ?_)
    cases e with
    | exit j =>
      simp only [Exit.inBlock]
      simp only [] at hk
      cases hj : Nat.beq j id with
      | true =>
        rw [hj] at hk
        rw [if_pos (Nat.eq_of_beq_eq_true hj)]
        exact hK _ _ _ _ _ hk hs'
      | false =>
        rw [hj] at hk
        rw [if_neg (by rintro rfl; rw [Nat.beq_refl] at hj; cases hj)]
        exact hK _ _ _ _ _ hk hs'
    | _ => exact hK _ _ _ _ _ hk hs'
  | .loop c, s, K, h => fun cx ρ a w hs Q hK => by
    simp only [wpx] at h
    split at h
    · exact h cx ρ a w hs Q hK
    · exact wp_loop_rounds _ (iter_ok (fun s K h => wpx_ok hP hC c h) _ h cx ρ a w hs Q hK)
  | .exit id, s, K, h => fun cx ρ a w hs Q hK => wp_exit (hK _ _ _ _ _ h hs)
  | .goto l, s, K, h => fun cx ρ a w hs Q hK => wp_goto (hK _ _ _ _ _ h hs)
  | .ret, s, K, h => fun cx ρ a w hs Q hK => wp_ret (hK _ _ _ _ _ h hs)
  | .scope c, s, K, h => fun cx ρ a w hs Q hK => by
    simp only [wpx] at h
    refine wp_scope_fwd (wpx_ok hP hC c h cx ρ a w hs _ fun e ρ' s' a' w' hk hs' => ?_)
    cases e with
    | goto l =>
      simp only [] at hk
      split at hk
      · rename_i rest hr
        refine ⟨rest, hr, hk cx ρ' a' w' hs' _ fun e ρ'' s'' a'' w'' hk' hs'' => ?_⟩
        cases e with
        | goto l => exact hk'.elim
        | _ => exact hK _ _ _ _ _ hk' hs''
      · exact hk.elim
    | _ => exact hK _ _ _ _ _ hk hs'
  | .rangeFunc f ps as_ b, s, K, h => h
  | .refuse why, s, K, h => h

/-! ### a function's beginning and end -/
def argsT : Nat → List SV → List (Nat × SV)
  | _, [] => []
  | i, v :: l => (i, v) :: argsT (i + 1) l

def resV (tb : Tab) (s : St) : List ResultVar → Option (List SV)
  | [] => some []
  | r :: l => match (match r with
      | .tmp t => ev s [] (.tmp t)
      | .cell t ty => match ev s [] (.tmp t), tb.ti ty with
        | some (.p h o), some i => match xload i s.H h o with | .val v => some v | _ => none
        | _, _ => none), resV tb s l with
    | some v, some l => some (v :: l)
    | _, _ => none
def xres (tb : Tab) (s : St) (rs : List ResultVar) : Option SV :=
  match resV tb s rs with
  | some [v] => some v
  | some l => some (.tu l)
  | none => none

theorem lk_argsT {ρ : Vl} : ∀ {i : Nat} {vs : List SV} {xs : List Value} {t : Nat} {v : SV}, denL ρ vs = some xs → lk t (argsT i vs) = some v → ∃ j y, t = i + j ∧ xs[j]? = some y ∧ den ρ v = some y
  | i, [], xs, t, v, h, hl => by cases hl
  | i, u :: vs, xs, t, v, h, hl => by
    obtain ⟨x, ys, rfl, h1, h2⟩ := denL_cons h
    by_cases e : t = i
    · subst e
      simp only [argsT, lk_cons_same, Option.some.injEq] at hl
      subst hl
      exact ⟨0, x, rfl, by simp, h1⟩
    · simp only [argsT] at hl
      rw [lk_cons_other _ _ e] at hl
      obtain ⟨j, y, e1, e2, e3⟩ := lk_argsT h2 hl
      exact ⟨j + 1, y, by omega, by simpa using e2, e3⟩

def resF (tm : Array Value) : ResultVar → Sem Value
  | .tmp t => pure (tm.getD t undef)
  | .cell p t => do loadVar t (← asAddr (tm.getD p undef))

theorem results_ok (hP : TabOk P tb) {cx : Cx} {ρ : Vl} {s : St} {a : Act} {w : World} (hs : Sat cx ρ s a w) {fn : Func} {v : SV} (h : xres tb s fn.results.toList = some v) :
    ∃ y, den ρ v = some y ∧ (results fn a.tmps).run P w = .ok y w := by
  have key : ∀ (rs : List ResultVar) (vs : List SV), resV tb s rs = some vs → ∃ ys, denL ρ vs = some ys ∧ (rs.mapM (resF a.tmps)).run P w = .ok ys w := by
    intro rs
    induction rs with
    | nil => intro vs h; cases h; exact ⟨[], rfl, rfl⟩
    | cons r rs ih =>
      intro vs h
      simp only [resV] at h
      split at h
      case h_2 => cases h
      rename_i v l hv hl
      cases h
      obtain ⟨ys, h1, h2⟩ := ih l hl
      have e := ev_ok hs.ts (ids := []) (fun e he => by cases he)
      cases r with
      | tmp t =>
        have hd := e _ _ hv
        refine ⟨_, denL_mk hd h1, ?_⟩
        rw [List.mapM_cons]
        simp only [resF, Sem.run_bind, Sem.run_pure, Result.andThen_ok, h2]
        rfl
      | cell p t =>
        simp only [] at hv
        split at hv
        case h_2 => cases hv
        rename_i h o i hp hi
        have hd := e _ _ hp
        have hx := xload_ok (P := P) (nx := s.nx) (hP.ti t i hi) hs.hs.hp hd
        split at hv
        case h_2 => cases hv
        rename_i v' hv'
        cases hv
        rw [hv'] at hx
        obtain ⟨y, hdy, hrun⟩ := hx
        refine ⟨y :: ys, denL_mk hdy h1, ?_⟩
        simp only [den] at hd
        split at hd
        case h_2 => cases hd
        rename_i b hb
        have hd := Option.some.inj hd
        rw [← hd] at hrun
        simp only [Act.eval] at hd
        rw [List.mapM_cons]
        simp only [Sem.run_bind, Instr.loadAt, Instr.sureAddr, Sem.run_pure, Result.andThen_ok] at hrun
        simp only [Sem.run_bind, resF, ← hd, asAddr, Sem.run_pure, Result.andThen_ok]
        cases hr : (loadVar t ⟨b, o, none⟩).run P w with
        | ok z w' =>
          rw [hr] at hrun
          simp only [Result.andThen_ok, Result.ok.injEq, Next.value.injEq] at hrun
          obtain ⟨rfl, rfl⟩ := hrun
          simp only [Result.andThen_ok, h2]
        | halt z w' => rw [hr] at hrun; cases hrun
  unfold xres at h
  have hrun : ∀ vs, resV tb s fn.results.toList = some vs → ∃ ys, denL ρ vs = some ys ∧ (results fn a.tmps).run P w = .ok (if h : ys.length = 1 then ys[0] else .tuple ys.toArray) w := fun vs hvs => by
    obtain ⟨ys, h1, h2⟩ := key _ vs hvs
    refine ⟨ys, h1, ?_⟩
    have e : results fn a.tmps = (do let vs ← fn.results.mapM (resF a.tmps); pure (if h : vs.size = 1 then vs[0] else .tuple vs)) := rfl
    rw [e, Sem.run_bind, ← Array.toArray_toList (xs := fn.results), List.mapM_toArray, Sem.run_map, h2]
    simp
  split at h
  · rename_i u hu
    cases h
    obtain ⟨ys, h1, h2⟩ := hrun _ hu
    obtain ⟨x, zs, rfl, h3, h4⟩ := denL_cons h1
    cases h4
    exact ⟨x, h3, by simpa using h2⟩
  · rename_i l hne hl
    cases h
    obtain ⟨ys, h1, h2⟩ := hrun _ hl
    refine ⟨.tuple ys.toArray, by simp only [den, h1], ?_⟩
    have hlen := denL_length h1
    rw [dif_neg (by
      intro e
      cases l with
      | nil => simp only [List.length_nil] at hlen; omega
      | cons u l =>
        cases l with
        | nil => exact hne u rfl
        | cons => simp only [List.length_cons] at hlen; omega)] at h2
    exact h2
  · cases h

/-- What is asked at a function's end. -/
def RetK (tb : Tab) (rs : List ResultVar) (fin : SV → List (Nat × SO) → Nat → Prop) (finP : List PanicEntry → List (Nat × SO) → Nat → Prop) : Exit → St → Prop := fun e s => match s with
  | ⟨T, G, H, nx, n⟩ => match e with
    | .normal | .ret => match xres tb ⟨T, G, H, nx, n⟩ rs with
      | some v => fr v fun v => frN nx fun nx => fin v H nx
      | none => Stands "a result"
    | .panic c => frN nx fun nx => finP c H nx
    | _ => Stands "a way out"

/-- A call begins: what the caller may turn, the call may. -/
theorem HS.enter {cx : Cx} {ρ : Vl} {H : List (Nat × SO)} {nx : Nat} {w : World} (h : HS cx ρ H nx w) : HS ⟨w, fun k => cx.F k ∨ cx.w0.heap.size ≤ k, ρ, []⟩ ρ H nx w :=
  { r := { hp := h.r.hp
           dj := h.r.dj
           ow := fun g o hv k h1 h2 h3 h4 => .inr ((h.r.ow g o hv k h1 h2 h3 h4).symm)
           fr := Upd.refl _ _
           ag := Vl.le_refl _ }
    nx := h.nx }
theorem HS.leave {cx : Cx} {ρ ρ' : Vl} {H H' : List (Nat × SO)} {nx nx' : Nat} {w w' : World} (h : HS cx ρ H nx w) (h' : HS ⟨w, fun k => cx.F k ∨ cx.w0.heap.size ≤ k, ρ, []⟩ ρ' H' nx' w') : ρ.le ρ' ∧ HS cx ρ' H' nx' w' :=
  ⟨h'.r.ag, { r := { hp := h'.r.hp
                     dj := h'.r.dj
                     ow := fun g o hv k h1 h2 h3 h4 => by
                       rcases h'.r.ow g o hv k h1 h2 h3 h4 with e | e | e
                       · exact .inl (Nat.le_trans h.r.fr.size e)
                       · exact .inr e
                       · exact .inl e
                     fr := h.r.fr.trans h'.r.fr
                     ag := Vl.le_trans h.r.ag h'.r.ag }
              nx := h'.nx }⟩

theorem enter_ok (hP : TabOk P tb) {f : FuncId} {fn : Func} {c : Code} (hf : P.funcs[f]? = some fn) (hb : fn.body = some c) {cx : Cx} {ρ : Vl} {H : List (Nat × SO)} {nx : Nat} {w : World} (hs : HS cx ρ H nx w)
    {vs : List SV} {xs : List Value} (hd : denL ρ vs = some xs) {n : Nat} (hnt : fn.ntmps = n) (hn : Nat.ble vs.length n = true) {R : Ending → World → Prop} {fin : SV → List (Nat × SO) → Nat → Prop} {finP : List PanicEntry → List (Nat × SO) → Nat → Prop}
    (h : X P c ⟨argsT 0 vs, [], H, nx, n⟩ (RetK tb fn.results.toList fin finP))
    (hfin : ∀ ρ' v H' nx' y w', fin v H' nx' → HS cx ρ' H' nx' w' → den ρ' v = some y → R (.returned y) w')
    (hfinP : ∀ ρ' c H' nx' w', finP c H' nx' → HS cx ρ' H' nx' w' → R (.panicked c) w') (hds : cx.ds = [] := by rfl) : Calls P f xs.toArray w R := by
  subst hnt
  refine calls_of_wp hf hb (h cx ρ _ w ⟨hs, ⟨?_, ?_, fun _ _ _ hm => by cases hm⟩, hds.symm⟩ _ ?_)
  · have := denL_length hd
    have := Nat.le_of_ble_eq_true hn
    simp; omega
  · intro t v _ hl
    obtain ⟨j, y, rfl, e1, e2⟩ := lk_argsT hd hl
    have hj : j < xs.length := by
      rcases Nat.lt_or_ge j xs.length with h | h
      · exact h
      · rw [List.getElem?_eq_none h] at e1; cases e1
    refine ⟨y, ?_, e2⟩
    rw [Nat.zero_add, Array.getElem?_append_left (by simpa using hj)]
    simpa using e1
  · intro e ρ' s' a' w' hk hs'
    have ret : ∀ (e : Exit), (e = .normal ∨ e = .ret) → (match xres tb s' fn.results.toList with | some v => fr v fun v => frN s'.nx fun nx => fin v s'.H nx | none => Stands "a result") → bodyPost P fn R e a' w' := fun e he hk => by
      split at hk
      case h_2 => exact hk.elim
      rename_i v hv
      simp only [fr_eq, frN_eq] at hk
      obtain ⟨y, h1, h2⟩ := results_ok hP hs' hv
      rcases he with rfl | rfl
      · exact ⟨hs'.df.trans hds, y, h2, hfin _ _ _ _ _ _ hk hs'.hs h1⟩
      · exact ⟨hs'.df.trans hds, y, h2, hfin _ _ _ _ _ _ hk hs'.hs h1⟩
    cases e with
    | normal => exact ret _ (.inl rfl) hk
    | ret => exact ret _ (.inr rfl) hk
    | panic c =>
      simp only [RetK, frN_eq] at hk
      exact ⟨hs'.df.trans hds, hfinP _ _ _ _ _ hk hs'.hs⟩
    | exit id => exact hk.elim
    | goto l => exact hk.elim
    | outgrown => exact hk.elim

/-- A world at a call's beginning. -/
theorem HS.start (w : World) : HS ⟨w, fun _ => False, Vl.none, []⟩ Vl.none [] 0 w :=
  { r := { hp := fun _ _ h => by cases h
           dj := fun _ _ _ _ _ _ _ h => by cases h
           ow := fun _ _ _ _ h => by cases h
           fr := Upd.refl _ _
           ag := Vl.le_refl _ }
    nx := fun _ _ => rfl }

/-- Calls are entered, so deep; then they are the prover's. -/
def CI (P : Program) (tb : Tab) : Nat → CH
  | 0 => XCall P
  | n + 1 => fun f args H nx K KP => match tb.inl f with
    | some fn => match fn.body, Nat.ble args.length fn.ntmps with
      | some c, true => wpx P tb (CI P tb n) c ⟨argsT 0 args, [], H, nx, fn.ntmps⟩ (RetK tb fn.results.toList K KP)
      | _, _ => Stands "a function without a body"
    | none => XCall P f args H nx K KP

theorem CI_ok (hP : TabOk P tb) : ∀ n, COk P (CI P tb n)
  | 0 => fun _ _ _ _ _ _ h => h
  | n + 1 => fun f args H nx K KP h => by
    simp only [CI] at h
    split at h
    case h_2 => exact h
    rename_i fn hfn
    split at h
    case h_2 => exact h.elim
    rename_i c hb hn
    intro cx ρ w hs xs hd
    refine enter_ok hP (hP.inl f fn hfn) hb hs.enter hd rfl hn (wpx_ok hP (CI_ok hP n) c h) (fun ρ' v H' nx' y w' hk hs' hd' => ?_) (fun ρ' c H' nx' w' hk hs' => ?_)
    · obtain ⟨h1, h2⟩ := hs.leave hs'
      exact ⟨ρ', v, H', nx', h1, hd', h2, hk⟩
    · obtain ⟨h1, h2⟩ := hs.leave hs'
      exact ⟨ρ', H', nx', h1, h2, hk⟩

/-- A function that only computes: a value without handles comes back, no old block is turned. -/
theorem calls_pure (hP : TabOk P tb) {f : FuncId} {fn : Func} {c : Code} (hf : P.funcs[f]? = some fn) (hb : fn.body = some c) (vs : List SV) {xs : List Value} (hd : denL Vl.none vs = some xs) {n : Nat} (hnt : fn.ntmps = n) (hn : Nat.ble vs.length n = true) (y : Value)
    (h : X P c ⟨argsT 0 vs, [], [], 0, n⟩ (RetK tb fn.results.toList (fun v _ _ => shut v = some y) (fun _ _ _ => False))) (w : World) :
    Calls P f xs.toArray w fun e w' => e = .returned y ∧ Below w.heap.size w w' :=
  enter_ok hP hf hb (HS.start w) hd hnt hn h
    (fun ρ' v H' nx' y' w' hk hs hd' => by
      have := den_mono (Vl.none_le ρ') _ _ hk
      rw [hd'] at this
      cases this
      exact ⟨rfl, hs.fr.below⟩)
    (fun _ _ _ _ _ hk _ => hk.elim)

/-! ### a table of types, row by row -/
def fsAll (P : Program) : List (Nat × Nat × Nat) → Prop
  | [] => True
  | x :: r => ((P.info? x.1).map (·.size) = some x.2.2 ∧ x.2.2 ≠ 0) ∧ fsAll P r
theorem fsOk_all {P : Program} : ∀ {l : List (Nat × Nat × Nat)}, fsAll P l → ∀ x ∈ l, (P.info? x.1).map (·.size) = some x.2.2 ∧ x.2.2 ≠ 0
  | [], _, x, hx => by cases hx
  | y :: r, h, x, hx => by
    rcases List.mem_cons.1 hx with rfl | hx
    · exact h.1
    · exact fsOk_all h.2 x hx
theorem TiOk.mk2 {P : Program} {t : Nat} {i : Ti} {d : TypeDesc} {z : Value} (hd : P.underlying t = some d) (hf : i.k.fits P d) (hi : (P.info? t).map (fun x => (x.size, x.bytes, x.zero)) = some (i.size, i.bytes, some z))
    (hz : denL Vl.none i.zero = some z.cells.toList) (hl : i.zero.length = i.size) (ha : isAggV z = i.k.agg) : TiOk P t i := by
  obtain ⟨inf, h1, h2⟩ := Option.map_eq_some_iff.1 hi
  simp only [Prod.mk.injEq] at h2
  exact ⟨⟨d, hd, hf⟩, ⟨inf, z, h1, h2.1, h2.2.1, h2.2.2, hz, hl⟩, fun inf' z' e1 e2 => by
    rw [h1] at e1; cases e1
    rw [h2.2.2] at e2; cases e2
    exact ha⟩
def rowsAll (P : Program) : List (Nat × Ti) → Prop
  | [] => True
  | x :: r => TiOk P x.1 x.2 ∧ rowsAll P r
theorem tiRows_all {P : Program} : ∀ {l : List (Nat × Ti)}, rowsAll P l → ∀ t i, lk t l = some i → TiOk P t i
  | [], _, t, i, h => by cases h
  | (k, j) :: r, hr, t, i, h => by
    by_cases e : t = k
    · subst e; rw [lk_cons_same] at h; cases h; exact hr.1
    · rw [lk_cons_other _ _ e] at h; exact tiRows_all hr.2 t i h
end
end Go.Sx
