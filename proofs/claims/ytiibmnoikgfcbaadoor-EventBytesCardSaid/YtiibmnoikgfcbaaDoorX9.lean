/- The walk of a region's operations is right: one operation, and all. -/
import Derived.Test.YtiibmnoikgfcbaaDoorX8
namespace Go.Sx
open Go.RowKit
set_option linter.unusedVariables false
set_option linter.unusedSimpArgs false
section
variable {P : Program} {tb : Tab} {cx : Cx} {ρ : Vl} {w : World} {a : Act}

def Gok (ρ : Vl) (tm : Array Value) (G : List (Nat × (List (Nat × Bool) × SV))) : Prop := ∀ t ids v, (t, (ids, v)) ∈ G → (idsHold tm ids → ∃ y, tm[t]? = some y ∧ den ρ v = some y) ∧ (¬ idsHold tm ids → tm[t]? = some undef)
def Tok (ρ : Vl) (tm : Array Value) (T : List (Nat × SV)) (G : List (Nat × (List (Nat × Bool) × SV))) (p : Nat → Prop) : Prop := ∀ u v, lk u T = some v → lk u G = none → ¬ p u → ∃ y, tm[u]? = some y ∧ den ρ v = some y

theorem rmId_hold {tm : Array Value} {t : Nat} {b : Bool} (ht : tm[t]? = some (.bool b)) : ∀ {ids : List (Nat × Bool)}, idsHold tm (rmId t b ids) ↔ idsHold tm ids
  | [] => Iff.rfl
  | (u, c) :: r => by
    simp only [rmId]
    cases e : (Nat.beq t u && (b == c)) with
    | true =>
      simp only [Bool.and_eq_true, beq_iff_eq] at e
      have h1 := Nat.eq_of_beq_eq_true e.1
      subst h1
      have h2 := e.2
      subst h2
      simp only [cond_true]
      rw [rmId_hold ht (ids := r)]
      constructor
      · intro h e he
        rcases List.mem_cons.1 he with rfl | he
        · exact ht
        · exact h e he
      · intro h e he; exact h e (List.mem_cons_of_mem _ he)
    | false =>
      simp only [cond_false]
      have ih := rmId_hold ht (ids := r)
      constructor
      · intro h e he
        rcases List.mem_cons.1 he with rfl | he
        · exact h _ (List.mem_cons_self ..)
        · exact ih.1 (fun e he => h e (List.mem_cons_of_mem _ he)) e he
      · intro h e he
        rcases List.mem_cons.1 he with rfl | he
        · exact h _ (List.mem_cons_self ..)
        · exact ih.2 (fun e he => h e (List.mem_cons_of_mem _ he)) e he

theorem resG_ok {tm : Array Value} {t : Nat} {b : Bool} (ht : tm[t]? = some (.bool b)) :
    ∀ (L : List (Nat × (List (Nat × Bool) × SV))) (T : List (Nat × SV)) (G : List (Nat × (List (Nat × Bool) × SV))) (p : Nat → Prop) (K : List (Nat × SV) → List (Nat × (List (Nat × Bool) × SV)) → Prop),
      resG t b L T G K → Gok ρ tm L → Gok ρ tm G → Tok ρ tm T G (fun u => p u ∨ ∃ e ∈ L, e.1 = u) → ∃ T' G', K T' G' ∧ Gok ρ tm G' ∧ Tok ρ tm T' G' p
  | [], T, G, p, K, h, _, hG, hT => ⟨T, G, h, hG, fun u v h1 h2 h3 => hT u v h1 h2 (by rintro (h | ⟨e, he, _⟩); exact h3 h; cases he)⟩
  | (u, (ids, v)) :: r, T, G, p, K, h, hL, hG, hT => by
    simp only [resG] at h
    obtain ⟨T1, G1, h1, hG1, hT1⟩ := resG_ok ht r T G (fun k => p k ∨ k = u) _ h (fun t ids v hm => hL t ids v (List.mem_cons_of_mem _ hm)) hG (fun k x e1 e2 e3 => hT k x e1 e2 (by
      rintro (h | ⟨e, he, rfl⟩)
      · exact e3 (.inl (.inl h))
      · rcases List.mem_cons.1 he with rfl | he
        · exact e3 (.inl (.inr rfl))
        · exact e3 (.inr ⟨e, he, rfl⟩)))
    obtain ⟨g1, g2⟩ := hL u ids v (List.mem_cons_self ..)
    have push : ∀ x y, tm[u]? = some y → den ρ x = some y → Tok ρ tm ((u, x) :: T1) G1 p := fun x y hy hd k z e1 e2 e3 => by
      by_cases e : k = u
      · subst e; rw [lk_cons_same] at e1; cases e1; exact ⟨y, hy, hd⟩
      · rw [lk_cons_other _ _ e] at e1; exact hT1 k z e1 e2 (by rintro (h | h); exact e3 h; exact e h)
    split at h1
    · rename_i hid
      have hno : ¬ idsHold tm ids := fun hh => by
        have := hh _ (hasId_ok hid)
        rw [ht] at this
        cases b <;> cases this
      exact ⟨_, _, h1, hG1, push (.tu []) undef (g2 hno) rfl⟩
    · split at h1
      · rename_i hnil
        have hh : idsHold tm ids := (rmId_hold ht).1 (by rw [hnil]; intro e he; cases he)
        obtain ⟨y, hy, hd⟩ := g1 hh
        exact ⟨_, _, h1, hG1, push v y hy hd⟩
      · rename_i e ids' hcons
        refine ⟨_, _, h1, fun k i x hm => ?_, fun k x e1 e2 e3 => ?_⟩
        · rcases List.mem_cons.1 hm with hm | hm
          · cases hm
            rw [← hcons, rmId_hold ht]
            exact ⟨g1, g2⟩
          · exact hG1 k i x hm
        · by_cases e : k = u
          · subst e; rw [lk_cons_same] at e2; cases e2
          · rw [lk_cons_other _ _ e] at e2
            exact hT1 k x e1 e2 (by rintro (h | h); exact e3 h; exact e h)

theorem idsP_ok {s : St} (ts : TS ρ s.T s.G s.n a.tmps) : ∀ {ids : List (Nat × Bool)}, idsHold a.tmps ids → idsP s ids
  | [], _ => trivial
  | (t, b) :: r, h => by
    refine ⟨?_, idsP_ok ts fun e he => h e (List.mem_cons_of_mem _ he)⟩
    have ht := h _ (List.mem_cons_self ..)
    simp only at ht
    cases hg : lk t s.G with
    | some p =>
      obtain ⟨ids', v⟩ := p
      cases v <;> try trivial
      rename_i x
      obtain ⟨g1, g2⟩ := ts.gd t ids' _ (lk_mem hg)
      by_cases hh : idsHold a.tmps ids'
      · obtain ⟨y, h1, h2⟩ := g1 hh
        simp only [den, Option.some.injEq] at h2
        subst h2
        rw [h1] at ht
        cases ht; rfl
      · rw [g2 hh] at ht; cases ht
    | none =>
      simp only []
      cases hT : lk t s.T with
      | none => trivial
      | some v =>
        cases v <;> try trivial
        obtain ⟨y, h1, h2⟩ := ts.vs t _ hg hT
        simp only [den, Option.some.injEq] at h2
        subst h2
        rw [h1] at ht
        cases ht; rfl

/-- One operation of a region, done if it is wanted. -/
def StepGoal (P : Program) (ops : Array Oper) (o : Oper) (Q : Exit → Act → World → Prop) (a : Act) (w : World) : Prop :=
  if Region.wanted o (yielded ops a.tmps) then o.wp P a w (Q .normal) Q else Q .normal (a.put o.dst undef) w

def KQ (cx : Cx) (K : Exit → St → Prop) (Q : Exit → Act → World → Prop) : Prop := ∀ e ρ' s' a' w', K e s' → Sat cx ρ' s' a' w' → Q e a' w'

/-- What an operation, or a call's summary, comes to. -/
def WpOk (P : Program) (ρ : Vl) (a : Act) (w : World) (H : List (Nat × SO)) (nx : Nat) (o : Oper) : Out → Prop
  | .val v => ∀ (N : Act → World → Prop) (Q : Exit → Act → World → Prop), (∀ y w', den ρ v = some y → Below w.heap.size w w' → N (a.put o.dst y) w') → o.wp P a w N Q
  | .new v ob => ∀ (N : Act → World → Prop) (Q : Exit → Act → World → Prop), (∀ y w', Eff ρ w nx (.new v ob) y w' → N (a.put o.dst y) w') → o.wp P a w N Q
  | .upd v h ob => ∃ hv o0, lk h H = some o0 ∧ o0.mine = true ∧ ρ h = some hv ∧ ob.mine = true ∧ ∀ (N : Act → World → Prop) (Q : Exit → Act → World → Prop),
      (∀ y w', (match v with | none => y = undef | some u => den ρ u = some y) → Upd (o0.fp w hv) w w' → ob.rep ρ w' hv → (∀ k, ob.fp w' hv k → (o0.fp w hv k ∨ w.heap.size ≤ k) ∧ k < w'.heap.size) → N (a.put o.dst y) w') → o.wp P a w N Q
  | .mv v h ob => ∃ hv0 o0, lk h H = some o0 ∧ o0.mine = true ∧ ρ h = some hv0 ∧ ob.mine = true ∧ ∀ (N : Act → World → Prop) (Q : Exit → Act → World → Prop),
      (∀ y w' hv, den (ρ.upd nx hv) v = some y → Upd (o0.fp w hv0) w w' → ob.rep (ρ.upd nx hv) w' hv → (∀ k, ob.fp w' hv k → (o0.fp w hv0 k ∨ w.heap.size ≤ k) ∧ k < w'.heap.size) → N (a.put o.dst y) w') → o.wp P a w N Q
  | .ob p k => p → WpOk P ρ a w H nx o k
  | .pan v => ∃ y, den ρ v = some y ∧ ∀ (N : Act → World → Prop) (Q : Exit → Act → World → Prop), (∀ w', Below w.heap.size w w' → Q (.panic [{ v := y, recovered := false }]) a w') → o.wp P a w N Q
  | .call f args => ∃ xs, denL ρ args = some xs ∧ ∀ (R : Ending → World → Prop) (N : Act → World → Prop) (Q : Exit → Act → World → Prop), Calls P f xs.toArray w R →
      (∀ e w', R e w' → match e with | .returned v => N (a.put o.dst v) w' | .panicked c => Q (.panic c) a w' | .outgrown => False) → o.wp P a w N Q
  | .no _ => True

theorem wpOk_of_run {H : List (Nat × SO)} {nx : Nat} {o : Oper} : ∀ {out : Out}, RunOk ρ w H nx ((execOp a.eval o).run P w) out → WpOk P ρ a w H nx o out := by
  intro out
  induction out with
  | val v =>
    rintro ⟨y, hd, hrun⟩ N Q h
    unfold Oper.wp
    rw [hrun]
    exact h y w hd (Below.refl _ _)
  | new v ob =>
    rintro ⟨y, w', hrun, he⟩ N Q h
    unfold Oper.wp
    rw [hrun]
    exact h y w' he
  | upd v h0 ob =>
    rintro ⟨hv, o0, w', hl, hm, hr0, hrun, hu, hrep, hm1, hfp⟩
    refine ⟨hv, o0, hl, hm, hr0, hm1, fun N Q h => ?_⟩
    unfold Oper.wp
    cases v with
    | none =>
      simp only [] at hrun
      rw [hrun]
      exact h undef w' rfl hu hrep hfp
    | some v =>
      simp only [] at hrun
      obtain ⟨y, hd, hrun⟩ := hrun
      rw [hrun]
      exact h y w' hd hu hrep hfp
  | mv v h0 ob =>
    rintro ⟨hv0, o0, hv, y, w', hl, hm, hr0, hrun, hd, hu, hrep, hm1, hfp⟩
    refine ⟨hv0, o0, hl, hm, hr0, hm1, fun N Q h => ?_⟩
    unfold Oper.wp
    rw [hrun]
    exact h y w' hv hd hu hrep hfp
  | ob p k ih => exact fun h hp => ih (h hp)
  | call f args =>
    rintro ⟨xs, hd, hrun⟩
    refine ⟨xs, hd, fun R N Q hc hR => ?_⟩
    unfold Oper.wp
    rw [hrun]
    refine hc.mono fun e w' he => ?_
    have := hR e w' he
    cases e with
    | returned v => exact this
    | panicked c => exact this
    | outgrown => exact this.elim
  | pan v =>
    rintro ⟨y, hd, hrun⟩
    refine ⟨y, hd, fun N Q h => ?_⟩
    unfold Oper.wp
    rw [hrun]
    exact h w (Below.refl _ _)
  | no why => exact fun _ => trivial

theorem wpOk_of_sum {H : List (Nat × SO)} {nx : Nat} {o : Oper} {f : FuncId} {args : List SV} (hc : WpOk P ρ a w H nx o (.call f args)) : ∀ {out : Out}, (∀ xs, denL ρ args = some xs → SumRes P f xs ρ w H nx out) → WpOk P ρ a w H nx o out := by
  obtain ⟨xs, hd, hc⟩ := hc
  have key : ∀ out, SumRes P f xs ρ w H nx out → WpOk P ρ a w H nx o out := by
   intro out hs
   induction out with
   | val v =>
     intro N Q h
     refine hc _ N Q hs fun e w' => ?_
     rintro ⟨y, rfl, h1, h2⟩
     exact h y w' h1 h2
   | new v ob =>
     intro N Q h
     refine hc _ N Q hs fun e w' => ?_
     rintro ⟨y, rfl, h1⟩
     exact h y w' h1
   | upd v h0 ob =>
     obtain ⟨hv, o0, h1, h2, h3, h4, h5⟩ := hs
     refine ⟨hv, o0, h1, h2, h3, h4, fun N Q h => hc _ N Q h5 fun e w' => ?_⟩
     rintro ⟨y, rfl, h6, h7, h8, h9⟩
     exact h y w' h6 h7 h8 h9
   | mv v h0 ob =>
     obtain ⟨hv, o0, h1, h2, h3, h4, h5⟩ := hs
     refine ⟨hv, o0, h1, h2, h3, h4, fun N Q h => hc _ N Q h5 fun e w' => ?_⟩
     rintro ⟨y, hv', rfl, h6, h7, h8, h9⟩
     exact h y w' hv' h6 h7 h8 h9
   | ob p k ih => exact fun hp => ih (hs hp)
   | pan v =>
     obtain ⟨y, h1, h2⟩ := hs
     refine ⟨y, h1, fun N Q h => hc _ N Q h2 fun e w' => ?_⟩
     rintro ⟨rfl, h3⟩
     exact h w' h3
   | call f args => exact hs.elim
   | no why => exact hs.elim
  intro out hs
  exact key out (hs xs hd)

theorem xout1_ok {ops : Array Oper} {o : Oper} {s : St} {ids : List (Nat × Bool)} {splits : Prop} {K : Exit → St → Prop} {Q : Exit → Act → World → Prop} (hK : KQ cx K Q) (hsat : Sat cx ρ s a w)
    (hw : Region.wanted o (yielded ops a.tmps) = true ↔ idsHold a.tmps ids) (hsp : splits → StepGoal P ops o Q a w) :
    ∀ out, xout1 P s ids o splits K out → (idsHold a.tmps ids → WpOk P ρ a w s.H s.nx o out) → StepGoal P ops o Q a w := by
  have hs := hsat.hs
  have ts := hsat.ts
  have df := hsat.df
  have plain : ids = [] → o.wp P a w (Q .normal) Q → StepGoal P ops o Q a w := fun e h => by
    subst e
    unfold StepGoal
    rw [if_pos (hw.2 fun e he => by cases he)]
    exact h
  intro out
  induction out with
  | val v =>
    intro h hr
    simp only [xout1, fr_eq] at h
    unfold StepGoal
    by_cases hh : idsHold a.tmps ids
    · rw [if_pos (hw.2 hh)]
      refine hr hh _ _ fun y w' hd hb => ?_
      obtain ⟨s', k, st⟩ := put_ok h (hs.grow hb) ts df (fun _ => hd) (fun n => absurd hh n)
      exact hK _ _ _ _ _ k st
    · rw [if_neg (fun e => hh (hw.1 e))]
      obtain ⟨s', k, st⟩ := put_ok h hs ts df (x := undef) (fun e => absurd e hh) (fun _ => rfl)
      exact hK _ _ _ _ _ k st
  | new v ob =>
    intro h hr
    obtain ⟨T, G, H, nx, n⟩ := s
    cases ids with
    | cons e r => exact hsp h
    | nil =>
      simp only [xout1, frO_eq, fr_eq] at h
      refine plain rfl (hr (fun e he => by cases he) _ _ fun y w' heff => ?_)
      obtain ⟨ρ', hle, hd, hs'⟩ := hs.new heff
      obtain ⟨s', k, st⟩ := put_ok h hs' (ts.mono hle) df (fun _ => hd) (fun n => absurd (fun e he => by cases he) n)
      exact hK _ _ _ _ _ k st
  | upd v h0 ob =>
    intro h hr
    obtain ⟨T, G, H, nx, n⟩ := s
    cases ids with
    | cons e r => exact hsp h
    | nil =>
      simp only [xout1, frO_eq, sp_eq] at h
      obtain ⟨hv, o0, hl, hm, hr0, hm1, hwp⟩ := hr fun e he => by cases he
      refine plain rfl (hwp _ _ fun y w' hy hu hrep hfp => ?_)
      have hs' := hs.put hl hm hr0 hu hrep hm1 hfp
      cases v with
      | none =>
        simp only [] at hy h
        subst hy
        obtain ⟨s', k, st⟩ := put_ok h hs' ts df (x := undef) (fun _ => rfl) (fun n => absurd (fun e he => by cases he) n)
        exact hK _ _ _ _ _ k st
      | some v =>
        simp only [] at hy h
        obtain ⟨s', k, st⟩ := put_ok h hs' ts df (fun _ => hy) (fun n => absurd (fun e he => by cases he) n)
        exact hK _ _ _ _ _ k st
  | mv v h0 ob =>
    intro h hr
    obtain ⟨T, G, H, nx, n⟩ := s
    cases ids with
    | cons e r => exact hsp h
    | nil =>
      simp only [xout1, frO_eq, fr_eq, sp_eq] at h
      obtain ⟨hv0, o0, hl, hm, hr0, hm1, hwp⟩ := hr fun e he => by cases he
      refine plain rfl (hwp _ _ fun y w' hv hd hu hrep hfp => ?_)
      obtain ⟨ρ', hle, hd', hs'⟩ := hs.mv hd hl hm hr0 hu hrep hm1 hfp
      obtain ⟨s', k, st⟩ := put_ok h hs' (ts.mono hle) df (fun _ => hd') (fun n => absurd (fun e he => by cases he) n)
      exact hK _ _ _ _ _ k st
  | ob p k ih =>
    intro h hr
    simp only [xout1] at h
    refine ih h.2 fun hh => hr hh (obP_eq h.1 (idsP_ok ts hh))
  | call f args => intro h hr; exact h.elim
  | pan v =>
    intro h hr
    cases ids with
    | cons e r => exact hsp h
    | nil =>
      simp only [xout1] at h
      obtain ⟨y, hd, hwp⟩ := hr fun e he => by cases he
      split at h
      case h_2 => exact h.elim
      rename_i y' hy
      have := den_mono (Vl.none_le ρ) _ _ hy
      rw [hd] at this
      cases this
      exact plain rfl (hwp _ _ fun w' hb => hK _ _ _ _ _ h ⟨hs.grow hb, ts, df⟩)
  | no why =>
    intro h hr
    cases ids with
    | cons e r => exact hsp h
    | nil =>
      simp only [xout1] at h
      exact plain rfl (h cx ρ a w hsat Q hK)

/-- The one who answers calls answers rightly. -/
def COk (P : Program) (C : CH) : Prop := ∀ f args H nx K KP, C f args H nx K KP → XCall P f args H nx K KP

theorem xout_ok (hP : TabOk P tb) {C : CH} (hC : COk P C) {ops : Array Oper} {o : Oper} {s : St} {ids : List (Nat × Bool)} {splits : Prop} {K : Exit → St → Prop} {Q : Exit → Act → World → Prop} (hK : KQ cx K Q) (hsat : Sat cx ρ s a w)
    (hw : Region.wanted o (yielded ops a.tmps) = true ↔ idsHold a.tmps ids) (hsp : splits → StepGoal P ops o Q a w) :
    ∀ out, xout P tb C s ids o splits K out → (idsHold a.tmps ids → RunOk ρ w s.H s.nx ((execOp a.eval o).run P w) out) → StepGoal P ops o Q a w := by
  intro out
  cases out with
  | call f args =>
    intro h hr
    simp only [xout] at h
    split at h
    · rename_i out hsum
      exact xout1_ok hK hsat hw hsp out h fun hh => wpOk_of_sum (wpOk_of_run (hr hh)) fun xs hd => hP.sum f args s.H s.nx _ hsum ρ w xs hsat.hs.hp hd (hsat.hs.nx _ (Nat.le_refl _))
    · obtain ⟨T, G, H, nx, n⟩ := s
      cases ids with
      | cons e r => exact hsp h
      | nil =>
        simp only [frL_eq] at h
        have hwt : Region.wanted o (yielded ops a.tmps) = true := hw.2 fun e he => by cases he
        unfold StepGoal
        rw [if_pos hwt]
        obtain ⟨xs, hd, hc⟩ := wpOk_of_run (hr fun e he => by cases he)
        refine hc _ _ _ (hC _ _ _ _ _ _ h cx ρ w hsat.hs xs hd) fun e w' he => ?_
        cases e with
        | returned y =>
          obtain ⟨ρ', v, H', nx', hle, hd, hs', hp⟩ := he
          obtain ⟨s', k, st⟩ := put_ok hp hs' (hsat.ts.mono hle) hsat.df (fun _ => hd) (fun n => absurd (fun e he => by cases he) n)
          exact hK _ _ _ _ _ k st
        | panicked c =>
          obtain ⟨ρ', H', nx', hle, hs', hp⟩ := he
          exact hK _ _ _ _ _ hp ⟨hs', hsat.ts.mono hle, hsat.df⟩
        | outgrown => exact he.elim
  | _ => exact fun h hr => xout1_ok hK hsat hw hsp _ h fun hh => wpOk_of_run (hr hh)

theorem tmp_bool {a : Act} {c : Nat} {b : Bool} (h : a.eval (.tmp c) = .bool b) : a.tmps[c]? = some (.bool b) := by
  simp only [Act.eval] at h
  cases ht : a.tmps[c]? with
  | none => simp [ht, undef] at h
  | some z => simp [ht] at h; rw [h]

theorem xstep_ok (hP : TabOk P tb) {C : CH} (hC : COk P C) {ops : Array Oper} {o : Oper} : ∀ (fuel : Nat) {s : St} {K : Exit → St → Prop} {Q : Exit → Act → World → Prop}, xstep P tb C ops o fuel s K → KQ cx K Q → Sat cx ρ s a w → StepGoal P ops o Q a w
  | 0, s, K, Q, h, _, _ => h.elim
  | fuel + 1, ⟨T, G, H, nx, n⟩, K, Q, h, hK, hsat => by
    have hs := hsat.hs
    have ts := hsat.ts
    have df := hsat.df
    have hg := gd_ok (ops := ops) ts o
    simp only [xstep] at h
    split at h
    · exact h.elim
    · rename_i hgd
      rw [hgd] at hg
      simp only [] at hg
      unfold StepGoal
      rw [if_neg (by rw [hg]; simp)]
      obtain ⟨s', k, st⟩ := put_ok h hs ts df (x := undef) (fun _ => rfl) (fun n => absurd (fun e he => by cases he) n)
      exact hK _ _ _ _ _ k st
    · rename_i ids hgd
      rw [hgd] at hg
      simp only [] at hg
      -- a value that the frame yields by itself
      have pure_ : ∀ (v : SV) (f : Operand → Value), put ⟨T, G, H, nx, n⟩ ids o.dst v (K .normal) → (idsHold a.tmps ids → ∃ y, den ρ v = some y ∧ (execOp a.eval o).run P w = .ok (.value y) w) → StepGoal P ops o Q a w := fun v f hp hr => by
        unfold StepGoal
        by_cases hh : idsHold a.tmps ids
        · rw [if_pos (hg.2 hh)]
          obtain ⟨y, hd, hrun⟩ := hr hh
          unfold Oper.wp
          rw [hrun]
          obtain ⟨s', k, st⟩ := put_ok hp hs ts df (fun _ => hd) (fun n => absurd hh n)
          exact hK _ _ _ _ _ k st
        · rw [if_neg (fun e => hh (hg.1 e))]
          obtain ⟨s', k, st⟩ := put_ok hp hs ts df (x := undef) (fun e => absurd e hh) (fun _ => rfl)
          exact hK _ _ _ _ _ k st
      split at h
      · rename_i c x y hop
        have hrun : ∀ b, a.eval (.tmp c) = .bool b → (execOp a.eval o).run P w = .ok (.value (if b then a.eval x else a.eval y)) w := fun b hb => by
          unfold execOp
          simp only [hop, hb, asBool]
          cases b <;> rfl
        split at h
        · rename_i hc
          split at h
          case h_2 => exact h.elim
          rename_i v hv
          simp only [fr_eq] at h
          refine pure_ v a.eval h fun hh => ?_
          have h1 := ev_ok ts hh _ _ hc
          simp only [den, Option.some.injEq] at h1
          have e := ev_ok ts (ids := (c, true) :: ids) (fun e he => by rcases List.mem_cons.1 he with rfl | he; exact tmp_bool h1.symm; exact hh e he)
          exact ⟨_, e _ _ hv, by rw [hrun true h1.symm]; rfl⟩
        · rename_i hc
          split at h
          case h_2 => exact h.elim
          rename_i v hv
          simp only [fr_eq] at h
          refine pure_ v a.eval h fun hh => ?_
          have h1 := ev_ok ts hh _ _ hc
          simp only [den, Option.some.injEq] at h1
          have e := ev_ok ts (ids := (c, false) :: ids) (fun e he => by rcases List.mem_cons.1 he with rfl | he; exact tmp_bool h1.symm; exact hh e he)
          exact ⟨_, e _ _ hv, by rw [hrun false h1.symm]; rfl⟩
        · rename_i b hc
          split at h
          case h_2 => exact h.elim
          rename_i u v hu hv
          split at h
          case h_2 => exact h.elim
          rename_i r hr
          simp only [fr_eq] at h
          refine pure_ r a.eval h fun hh => ?_
          have h1 := ev_ok ts hh _ _ hc
          simp only [den, Option.some.injEq] at h1
          have hct : a.tmps[c]? = some (.bool b) := by
            simp only [Act.eval] at h1
            cases ht : a.tmps[c]? with
            | none => simp [ht, undef] at h1
            | some z => simp [ht] at h1; rw [h1]
          refine ⟨_, ?_, hrun b h1.symm⟩
          cases b with
          | true =>
            have e := ev_ok ts (ids := (c, true) :: ids) (fun e he => by rcases List.mem_cons.1 he with rfl | he; exact hct; exact hh e he)
            have hx := e _ _ hu
            unfold pickV at hr
            split at hr <;> cases hr <;> simp only [den, Option.some.injEq] at hx ⊢ <;> simp [← hx]
          | false =>
            have e := ev_ok ts (ids := (c, false) :: ids) (fun e he => by rcases List.mem_cons.1 he with rfl | he; exact hct; exact hh e he)
            have hx := e _ _ hv
            unfold pickV at hr
            split at hr <;> cases hr <;> simp only [den, Option.some.injEq] at hx ⊢ <;> simp [← hx]
        · exact h.elim
      · refine xout_ok hP hC hK hsat hg ?_ _ h fun hh => xop_ok hP hs.hp (hs.nx _ (Nat.le_refl _)) (ev_ok ts hh) o
        intro hsp
        split at hsp
        case h_2 => exact hsp.elim
        rename_i t hl
        split at hsp
        case h_2 => exact hsp.elim
        rename_i x hG hT
        obtain ⟨y, h1, h2⟩ := ts.vs t _ hG hT
        simp only [den, Option.some.injEq] at h2
        subst h2
        have go : ∀ b, x = b → (resG t b G ((t, .lb b) :: T) [] fun T G => xstep P tb C ops o fuel ⟨T, G, H, nx, n⟩ K) → StepGoal P ops o Q a w := fun b hb hr => by
          subst hb
          obtain ⟨T', G', hk, hG', hT'⟩ := resG_ok (ρ := ρ) h1 G ((t, .lb x) :: T) [] (fun _ => False) _ hr ts.gd (fun _ _ _ hm => by cases hm) (fun u v e1 _ e3 => by
            by_cases e : u = t
            · subst e; rw [lk_cons_same] at e1; cases e1; exact ⟨_, h1, rfl⟩
            · rw [lk_cons_other _ _ e] at e1
              refine ts.vs u v ?_ e1
              cases hlk : lk u G with
              | none => rfl
              | some p => exact absurd (.inr ⟨_, lk_mem hlk, rfl⟩) e3)
          exact xstep_ok hP hC fuel hk hK ⟨hs, ⟨ts.sz, fun u v e1 e2 => hT' u v e2 e1 id, hG'⟩, df⟩
        cases x with
        | true => exact go true rfl (hsp.1 rfl)
        | false => exact go false rfl (hsp.2 rfl)

theorem wp_post {o : Oper} {N : Act → World → Prop} {Q Q' : Exit → Act → World → Prop} (hq : ∀ c a w, Q (.panic c) a w → Q' (.panic c) a w) (ho : LetsOut Q → LetsOut Q') (h : o.wp P a w N Q) : o.wp P a w N Q' := by
  unfold Oper.wp at *
  generalize (execOp a.eval o).run P w = r at *
  cases r with
  | ok n w' =>
    cases n <;> simp only [Oper.upon] at h ⊢ <;>
      first
        | exact h
        | exact Calls.mono h (fun e w'' he => by cases e <;> first | exact he | exact hq _ _ _ he | exact ho he)
  | halt x w' => cases x <;> simp only [Oper.upon] at h ⊢ <;> exact hq _ _ _ h

theorem xops_ok (hP : TabOk P tb) {C : CH} (hC : COk P C) {ops : Array Oper} : ∀ (l : List Oper) {s : St} {ρ : Vl} {a : Act} {w : World} {K : Exit → St → Prop} {Q : Exit → Act → World → Prop}, xops P tb C ops l s K → KQ cx K Q → Sat cx ρ s a w → wpList P ops Q l a w
  | [], s, ρ, a, w, K, Q, h, hK, hsat => hK _ _ _ _ _ h hsat
  | o :: l, s, ρ, a, w, K, Q, h, hK, hsat => by
    simp only [xops] at h
    have := xstep_ok (Q := fun e a w => match e with | .normal => wpList P ops Q l a w | e => Q e a w) hP hC 5 h (fun e ρ' s' a' w' hk hs' => by
      cases e with
      | normal => exact xops_ok hP hC l hk hK hs'
      | _ => exact hK _ _ _ _ _ hk hs') hsat
    unfold StepGoal at this
    unfold wpList
    split
    · rename_i hw
      rw [if_pos hw] at this
      exact .inl (wp_post (fun c a w h => h) (fun ⟨a, w, h⟩ => ⟨a, w, h⟩) this)
    · rename_i hw
      rw [if_neg hw] at this
      exact this
end
end Go.Sx
