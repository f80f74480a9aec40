/- The walk of a region in any order is right. No condition. -/
import Derived.Test.YtiibmnoikgfcbaaDoorX9A
namespace Go.Sx
open Go.RowKit
set_option linter.unusedVariables false
set_option linter.unusedSimpArgs false

section
variable {P : Program} {tb : Tab}

def HsOf (D : Dc) (i m : Nat) (recs : List Rec) (h : Nat) (o : SO) : Prop :=
  (∃ x ∈ recs, bitAt m x.i = true ∧ x.ob = some (h, o) ∧ (x.del = some h ∨ keepH D.W D.pm i h = true)) ∨ (lk h D.H0 = some o ∧ keepH D.W D.pm i h = true)
def Claim (ρ : Vl) (tm : Array Value) (x : Rec) : Prop := ∀ t, x.d = some t → (idsHold tm x.ids → ∃ y, tm[t]? = some y ∧ den ρ x.v = some y) ∧ (¬ idsHold tm x.ids → tm[t]? = some undef)

/-- What comes behind an operation of which r is noted. -/
def Cont (cx : Cx) (ρ : Vl) (M : Nat → SO → Prop) (a : Act) (nx : Nat) (r : Rec) (d : Option Nat) (N : Act → World → Prop) : Prop :=
  ∀ y ρ' w', ρ.le ρ' → (∀ k, k ≠ nx → ρ' k = ρ k) → HSr cx ρ' (fun k o => (r.del ≠ some k ∧ M k o) ∨ r.ob = some (k, o)) w' → (idsHold a.tmps r.ids → den ρ' r.v = some y) → (¬ idsHold a.tmps r.ids → y = undef) → N (a.put d y) w'

def DGoal (P : Program) (ops : Array Oper) (o : Oper) (a : Act) (w : World) (N : Act → World → Prop) (Q : Exit → Act → World → Prop) : Prop :=
  if Region.wanted o (yielded ops a.tmps) then o.wp P a w N Q else N (a.put o.dst undef) w

structure RecOk (P : Program) (ops : Array Oper) (D : Dc) (o : Oper) (i m : Nat) (recs : List Rec) (r : Rec) : Prop where
  ix : r.i = i
  d : r.d = o.dst
  lt : ∀ t, r.d = some t → t < D.n
  ids : ∀ j t b, (j, t) ∈ D.ds → (t, b) ∈ r.ids → bitAt m j = true
  del : ∀ h, r.del = some h → lk h D.W = some i
  run : ∀ cx ρ M a w, HSr cx ρ M w → a.tmps.size = D.n → ρ (D.nx + i) = none → (∀ t v, lk t D.T0 = some v → ∃ y, a.tmps[t]? = some y ∧ den ρ v = some y) → (∀ t v, oldB D.ds D.pm i t = true → lk t D.T1 = some v → ∃ y, a.tmps[t]? = some y ∧ den ρ v = some y) →
    (∀ x ∈ recs, bitAt m x.i = true → Claim ρ a.tmps x) → (∀ h o, HsOf D i m recs h o → M h o) → ∀ N Q, Cont cx ρ M a (D.nx + i) r o.dst N → DGoal P ops o a w N Q

theorem oldK_ok {ds pm : List (Nat × Nat)} {i : Nat} : ∀ {l T : List (Nat × SV)} {K : List (Nat × SV) → Prop}, oldK ds pm i l T K → ∃ T', K T' ∧ ∀ t v, lk t T' = some v → lk t T = some v ∨ (oldB ds pm i t = true ∧ lk t l = some v)
  | [], T, K, h => ⟨T, h, fun _ _ h => .inl h⟩
  | (u, x) :: r, T, K, h => by
    simp only [oldK] at h
    split at h
    · rename_i hb
      obtain ⟨T', h1, h2⟩ := oldK_ok h
      refine ⟨_, h1, fun t v hl => ?_⟩
      by_cases e : t = u
      · subst e
        rw [lk_cons_same] at hl
        exact .inr ⟨hb, by rw [lk_cons_same]; exact hl⟩
      · rw [lk_cons_other _ _ e] at hl
        rcases h2 t v hl with h3 | ⟨h3, h4⟩
        · exact .inl h3
        · exact .inr ⟨h3, by rw [lk_cons_other _ _ e]; exact h4⟩
    · rename_i hb
      obtain ⟨T', h1, h2⟩ := oldK_ok h
      refine ⟨_, h1, fun t v hl => ?_⟩
      rcases h2 t v hl with h3 | ⟨h3, h4⟩
      · exact .inl h3
      · refine .inr ⟨h3, ?_⟩
        rw [lk_cons_other _ _ (by rintro rfl; rw [h3] at hb; cases hb)]
        exact h4
theorem lkT_mem {t j : Nat} : ∀ {l : List (Nat × Nat)}, lkT t l = some j → (j, t) ∈ l
  | [], h => by cases h
  | (k, u) :: r, h => by
    simp only [lkT] at h
    split at h
    · rename_i e
      cases h
      rw [Nat.eq_of_beq_eq_true e]
      exact List.mem_cons_self ..
    · exact List.mem_cons_of_mem _ (lkT_mem h)
theorem oldB_ok {ds pm : List (Nat × Nat)} {i t : Nat} (h : oldB ds pm i t = true) : ∃ j, (j, t) ∈ ds ∧ (i = j ∨ ∃ m, lk j pm = some m ∧ bitAt m i = true) := by
  unfold oldB at h
  split at h
  case h_2 => cases h
  rename_i j hj
  refine ⟨j, lkT_mem hj, ?_⟩
  split at h
  · rename_i e; exact .inl (Nat.eq_of_beq_eq_true e)
  · split at h
    · rename_i m hm; exact .inr ⟨m, hm, h⟩
    · cases h
theorem addO_ok {W pm : List (Nat × Nat)} {i : Nat} {ob : Option (Nat × SO)} {del : Option Nat} {H : List (Nat × SO)} {K : List (Nat × SO) → Prop} (h : addO W pm i ob del H K) :
    ∃ H', K H' ∧ ∀ g o, lk g H' = some o → (ob = some (g, o) ∧ (del = some g ∨ keepH W pm i g = true)) ∨ lk g H = some o := by
  have add : ∀ g o0, (del = some g ∨ keepH W pm i g = true) → ob = some (g, o0) → ∀ g' o, lk g' ((g, o0) :: H) = some o → (ob = some (g', o) ∧ (del = some g' ∨ keepH W pm i g' = true)) ∨ lk g' H = some o := fun g o0 hk ho g' o hl => by
    by_cases e : g' = g
    · subst e; rw [lk_cons_same] at hl; cases hl; exact .inl ⟨ho, hk⟩
    · rw [lk_cons_other _ _ e] at hl; exact .inr hl
  unfold addO at h
  split at h
  · exact ⟨H, h, fun _ _ hl => .inr hl⟩
  · rename_i g o0
    split at h
    · rename_i g'
      split at h
      · rename_i e
        have := Nat.eq_of_beq_eq_true e
        subst this
        exact ⟨_, h, add g o0 (.inl rfl) rfl⟩
      · split at h
        · rename_i hk; exact ⟨_, h, add g o0 (.inr hk) rfl⟩
        · exact ⟨_, h, fun _ _ hl => .inr hl⟩
    · split at h
      · rename_i hk; exact ⟨_, h, add g o0 (.inr hk) rfl⟩
      · exact ⟨_, h, fun _ _ hl => .inr hl⟩

theorem selK_ok {W pm : List (Nat × Nat)} {i m : Nat} : ∀ (recs : List Rec) (T : List (Nat × SV)) (G : GL) (H : List (Nat × SO)) (K : List (Nat × SV) → GL → List (Nat × SO) → Prop), selK W pm i m recs T G H K →
    ∃ T' G' H', K T' G' H' ∧ (∀ t v, lk t T' = some v → (∃ x ∈ recs, bitAt m x.i = true ∧ x.d = some t ∧ x.ids = [] ∧ x.v = v) ∨ lk t T = some v) ∧
      (∀ t ids v, (t, (ids, v)) ∈ G' → (∃ x ∈ recs, bitAt m x.i = true ∧ x.d = some t ∧ x.ids = ids ∧ x.v = v) ∨ (t, (ids, v)) ∈ G) ∧
      (∀ h o, lk h H' = some o → (∃ x ∈ recs, bitAt m x.i = true ∧ x.ob = some (h, o) ∧ (x.del = some h ∨ keepH W pm i h = true)) ∨ lk h H = some o)
  | [], T, G, H, K, h => ⟨T, G, H, h, fun _ _ h => .inr h, fun _ _ _ h => .inr h, fun _ _ h => .inr h⟩
  | ⟨j, d, ids, v, ob, del⟩ :: l, T, G, H, K, h => by
    have up1 : ∀ {p : Rec → Prop}, (∃ x ∈ l, p x) → ∃ x ∈ (⟨j, d, ids, v, ob, del⟩ :: l : List Rec), p x := fun ⟨x, h1, h2⟩ => ⟨x, List.mem_cons_of_mem _ h1, h2⟩
    simp only [selK] at h
    split at h
    · obtain ⟨T', G', H', h1, h2, h3, h4⟩ := selK_ok l T G H K h
      exact ⟨T', G', H', h1, fun t v hl => (h2 t v hl).imp_left up1, fun t ids v hl => (h3 t ids v hl).imp_left up1, fun g o hl => (h4 g o hl).imp_left up1⟩
    · rename_i hb
      obtain ⟨H1, hk, hH⟩ := addO_ok h
      have fin : ∀ (T1 : List (Nat × SV)) (G1 : GL) (T' : List (Nat × SV)) (G' : GL) (H' : List (Nat × SO)), (∀ t v, lk t T' = some v → (∃ x ∈ l, bitAt m x.i = true ∧ x.d = some t ∧ x.ids = [] ∧ x.v = v) ∨ lk t T1 = some v) →
          (∀ t ids v, (t, (ids, v)) ∈ G' → (∃ x ∈ l, bitAt m x.i = true ∧ x.d = some t ∧ x.ids = ids ∧ x.v = v) ∨ (t, (ids, v)) ∈ G1) →
          (∀ h o, lk h H' = some o → (∃ x ∈ l, bitAt m x.i = true ∧ x.ob = some (h, o) ∧ (x.del = some h ∨ keepH W pm i h = true)) ∨ lk h H1 = some o) → K T' G' H' →
          (∀ t u, lk t T1 = some u → (d = some t ∧ ids = [] ∧ v = u) ∨ lk t T = some u) → (∀ t ids' u, (t, (ids', u)) ∈ G1 → (d = some t ∧ ids = ids' ∧ v = u) ∨ (t, (ids', u)) ∈ G) →
          ∃ T' G' H', K T' G' H' ∧ (∀ t u, lk t T' = some u → (∃ x ∈ (⟨j, d, ids, v, ob, del⟩ :: l : List Rec), bitAt m x.i = true ∧ x.d = some t ∧ x.ids = [] ∧ x.v = u) ∨ lk t T = some u) ∧
            (∀ t ids' u, (t, (ids', u)) ∈ G' → (∃ x ∈ (⟨j, d, ids, v, ob, del⟩ :: l : List Rec), bitAt m x.i = true ∧ x.d = some t ∧ x.ids = ids' ∧ x.v = u) ∨ (t, (ids', u)) ∈ G) ∧
            (∀ h o, lk h H' = some o → (∃ x ∈ (⟨j, d, ids, v, ob, del⟩ :: l : List Rec), bitAt m x.i = true ∧ x.ob = some (h, o) ∧ (x.del = some h ∨ keepH W pm i h = true)) ∨ lk h H = some o) := by
        intro T1 G1 T' G' H' h2 h3 h4 h1 hT hG
        refine ⟨T', G', H', h1, fun t u hl => ?_, fun t ids' u hl => ?_, fun g o hl => ?_⟩
        · rcases h2 t u hl with h | h
          · exact .inl (up1 h)
          · exact (hT t u h).imp_left fun ⟨e1, e2, e3⟩ => ⟨_, List.mem_cons_self .., hb, e1, e2, e3⟩
        · rcases h3 t ids' u hl with h | h
          · exact .inl (up1 h)
          · exact (hG t ids' u h).imp_left fun ⟨e1, e2, e3⟩ => ⟨_, List.mem_cons_self .., hb, e1, e2, e3⟩
        · rcases h4 g o hl with h | h
          · exact .inl (up1 h)
          · exact (hH g o h).imp_left fun ⟨e1, e2⟩ => ⟨_, List.mem_cons_self .., hb, e1, e2⟩
      split at hk
      · obtain ⟨T', G', H', h1, h2, h3, h4⟩ := selK_ok l T G H1 K hk
        exact fin T G T' G' H' h2 h3 h4 h1 (fun _ _ h => .inr h) (fun _ _ _ h => .inr h)
      · rename_i t
        split at hk
        · obtain ⟨T', G', H', h1, h2, h3, h4⟩ := selK_ok l _ G H1 K hk
          refine fin _ G T' G' H' h2 h3 h4 h1 (fun t' u hl => ?_) (fun _ _ _ h => .inr h)
          by_cases e : t' = t
          · subst e; rw [lk_cons_same] at hl; cases hl; exact .inl ⟨rfl, rfl, rfl⟩
          · rw [lk_cons_other _ _ e] at hl; exact .inr hl
        · obtain ⟨T', G', H', h1, h2, h3, h4⟩ := selK_ok l T _ H1 K hk
          refine fin T _ T' G' H' h2 h3 h4 h1 (fun _ _ h => .inr h) (fun t' ids' u hl => ?_)
          rcases List.mem_cons.1 hl with e | hl
          · cases e; exact .inl ⟨rfl, rfl, rfl⟩
          · exact .inr hl

theorem lk_filtH {W pm : List (Nat × Nat)} {i : Nat} {h : Nat} {o : SO} : ∀ {H : List (Nat × SO)}, lk h (filtH W pm i H) = some o → lk h H = some o ∧ keepH W pm i h = true
  | [], e => by cases e
  | (k, v) :: r, e => by
    simp only [filtH] at e
    cases hk : keepH W pm i k with
    | true =>
      rw [hk, cond_true] at e
      by_cases e2 : h = k
      · subst e2; rw [lk_cons_same] at e ⊢; exact ⟨e, hk⟩
      · rw [lk_cons_other _ _ e2] at e ⊢; exact lk_filtH e
    | false =>
      rw [hk, cond_false] at e
      obtain ⟨h1, h2⟩ := lk_filtH e
      by_cases e2 : h = k
      · subst e2; rw [hk] at h2; cases h2
      · rw [lk_cons_other _ _ e2]; exact ⟨h1, h2⟩
theorem lk_baseH {W pm : List (Nat × Nat)} {i : Nat} {h : Nat} {o : SO} {H : List (Nat × SO)} (e : lk h (baseH W pm i H) = some o) : lk h H = some o ∧ keepH W pm i h = true := by
  cases W with
  | nil => exact ⟨e, rfl⟩
  | cons x W => exact lk_filtH e

/-- What is asked of an operation of which r is noted. -/
def DGo (P : Program) (W : List (Nat × Nat)) (s : St) (i : Nat) (d : Option Nat) (ids : List (Nat × Bool)) (r : Rec) (H : Vl → Act → World → Oper → Prop) : Prop :=
  r.i = i ∧ r.d = d ∧ r.ids = ids ∧ (∀ h, r.del = some h → lk h W = some i) ∧
    ∀ (ops : Array Oper) (o : Oper) cx ρ M a w, o.dst = d → HSr cx ρ M w → (∀ h o, lk h s.H = some o → M h o) → ρ s.nx = none → TS ρ s.T s.G s.n a.tmps → (Region.wanted o (yielded ops a.tmps) = true ↔ idsHold a.tmps ids) →
      (idsHold a.tmps ids → H ρ a w o) → ∀ N Q, Cont cx ρ M a s.nx r o.dst N → DGoal P ops o a w N Q

theorem xdout1_ok {real : Bool} {W : List (Nat × Nat)} {s : St} {i : Nat} {d : Option Nat} {ids : List (Nat × Bool)} {K : Rec → Prop} : ∀ out, xdout1 real W s i d ids K out →
    ∃ r, K r ∧ (real = true → DGo P W s i d ids r fun ρ a w o => WpOk P ρ a w s.H s.nx o out) := by
  have triv : ∀ (a : Act), idsHold a.tmps [] := fun a e he => by cases he
  have wok : ∀ {h : Nat}, (match real, lk h W with | true, some k => Nat.beq k i | true, none => false | false, _ => true) = true → real = true → lk h W = some i := fun {h} hw hr => by
    subst hr
    split at hw
    · rename_i k hk
      rename_i heq
      rw [hk]
      have := Nat.eq_of_beq_eq_true hw
      rw [this]
    · cases hw
    · rename_i heq; cases heq
  intro out
  induction out with
  | val v =>
    intro h
    simp only [xdout1, fr_eq] at h
    refine ⟨_, h, fun _ => ⟨rfl, rfl, rfl, fun _ e => (nomatch e), ?_⟩⟩
    intro ops o cx ρ M a w ho hs hM hn ts hw hr N Q hc
    unfold DGoal
    by_cases hh : idsHold a.tmps ids
    · rw [if_pos (hw.2 hh)]
      exact hr hh _ _ fun y w' hd hb => hc y ρ w' (Vl.le_refl _) (fun _ _ => rfl) ((hs.grow hb).less fun k o hk => hk.elim (·.2) (fun e => by cases e)) (fun _ => hd) (fun n => absurd hh n)
    · rw [if_neg (fun e => hh (hw.1 e))]
      exact hc undef ρ w (Vl.le_refl _) (fun _ _ => rfl) (hs.less fun k o hk => hk.elim (·.2) (fun e => by cases e)) (fun e => absurd e hh) (fun _ => rfl)
  | new v ob =>
    intro h
    simp only [xdout1] at h
    split at h
    case h_2 => exact h.elim
    simp only [frO_eq, fr_eq] at h
    refine ⟨_, h, fun _ => ⟨rfl, rfl, rfl, fun _ e => (nomatch e), ?_⟩⟩
    intro ops o cx ρ M a w ho hs hM hn ts hw hr N Q hc
    unfold DGoal
    rw [if_pos (hw.2 (triv a))]
    refine hr (triv a) _ _ fun y w' he => ?_
    obtain ⟨hv, hd, hs'⟩ := hs.new hn he
    exact hc y _ w' (Vl.le_upd hn) (fun k hk => Vl.upd_other _ _ hk) (hs'.less fun k o hk => hk.elim (fun h => .inl h.2) (fun e => by cases e; exact .inr ⟨rfl, rfl⟩)) (fun _ => hd) (fun n => absurd (triv a) n)
  | upd v h0 ob =>
    intro h
    simp only [xdout1] at h
    split at h
    case h_2 => exact h.elim
    rename_i hw0
    simp only [frO_eq] at h
    have common : ∀ v', (match v with | none => v' = SV.tu [] | some u => v' = u) → real = true → DGo P W s i d [] ⟨i, d, [], v', some (h0, ob), some h0⟩ fun ρ a w o => WpOk P ρ a w s.H s.nx o (.upd v h0 ob) := by
      intro v' hv' hreal
      refine ⟨rfl, rfl, rfl, fun g e => (by cases e; exact wok hw0 hreal), ?_⟩
      intro ops o cx ρ M a w ho hs hM hn ts hw hr N Q hc
      unfold DGoal
      rw [if_pos (hw.2 (triv a))]
      obtain ⟨hv, o0, hl, hm, hr0, hm1, hwp⟩ := hr (triv a)
      refine hwp _ _ fun y w' hy hu hrep hfp => ?_
      have hs' := hs.put (hM _ _ hl) hm hr0 hu hrep hm1 hfp
      have go : den ρ v' = some y → N (a.put o.dst y) w' := fun hd => hc y ρ w' (Vl.le_refl _) (fun _ _ => rfl) (hs'.less fun k o hk => hk.elim (fun h => .inl ⟨fun e => h.1 (by rw [e]), h.2⟩) (fun e => by cases e; exact .inr ⟨rfl, rfl⟩)) (fun _ => hd) (fun n => absurd (triv a) n)
      cases v with
      | none =>
        simp only [] at hy hv'
        subst hv' hy
        exact go rfl
      | some u =>
        simp only [] at hy hv'
        subst hv'
        exact go hy
    split at h
    · exact ⟨_, h, common _ rfl⟩
    · exact ⟨_, h, common _ rfl⟩
  | mv v h0 ob =>
    intro h
    simp only [xdout1] at h
    split at h
    case h_2 => exact h.elim
    rename_i hw0
    simp only [frO_eq, fr_eq] at h
    refine ⟨_, h, fun hreal => ⟨rfl, rfl, rfl, fun g e => (by cases e; exact wok hw0 hreal), ?_⟩⟩
    intro ops o cx ρ M a w ho hs hM hn ts hw hr N Q hc
    unfold DGoal
    rw [if_pos (hw.2 (triv a))]
    obtain ⟨hv0, o0, hl, hm, hr0, hm1, hwp⟩ := hr (triv a)
    refine hwp _ _ fun y w' hv hd hu hrep hfp => ?_
    have hs' := hs.mv hn (hM _ _ hl) hm hr0 hu hrep hm1 hfp
    exact hc y _ w' (Vl.le_upd hn) (fun k hk => Vl.upd_other _ _ hk) (hs'.less fun k o hk => hk.elim (fun h => .inl ⟨fun e => h.1 (by rw [e]), h.2⟩) (fun e => by cases e; exact .inr ⟨rfl, rfl⟩)) (fun _ => hd) (fun n => absurd (triv a) n)
  | ob p k ih =>
    intro h
    simp only [xdout1] at h
    cases real with
    | true =>
      simp only [] at h
      obtain ⟨r, hk, hr⟩ := ih h.2
      refine ⟨r, hk, fun e => ?_⟩
      obtain ⟨h1, h2, h3, h4, h5⟩ := hr e
      exact ⟨h1, h2, h3, h4, fun ops o cx ρ M a w ho hs hM hn ts hw hr N Q hc => h5 ops o cx ρ M a w ho hs hM hn ts hw (fun hh => hr hh (obP_eq h.1 (idsP_ok ts hh))) N Q hc⟩
    | false =>
      simp only [] at h
      obtain ⟨r, hk, _⟩ := ih h
      exact ⟨r, hk, fun e => by cases e⟩
  | call f args => intro h; exact h.elim
  | pan v => intro h; exact h.elim
  | no why => intro h; exact h.elim

/-- An operation's note, from what is told of it. -/
theorem xdout_ok (hP : TabOk P tb) {real : Bool} {W : List (Nat × Nat)} {s : St} {i : Nat} {d : Option Nat} {ids : List (Nat × Bool)} {K : Rec → Prop} : ∀ out, xdout tb real W s i d ids K out →
    ∃ r, K r ∧ (real = true → DGo P W s i d ids r fun ρ a w o => RunOk ρ w s.H s.nx ((execOp a.eval o).run P w) out) := by
  intro out h
  cases out with
  | call f args =>
    simp only [xdout] at h
    split at h
    case h_2 => exact h.elim
    rename_i out hsum
    obtain ⟨r, hk, hr⟩ := xdout1_ok (P := P) out h
    refine ⟨r, hk, fun hreal => ?_⟩
    obtain ⟨h1, h2, h3, h4, h5⟩ := hr hreal
    exact ⟨h1, h2, h3, h4, fun ops o cx ρ M a w ho hs hM hn ts hw hr N Q hc => h5 ops o cx ρ M a w ho hs hM hn ts hw (fun hh => wpOk_of_sum (wpOk_of_run (hr hh)) fun xs hd => hP.sum f args s.H s.nx _ hsum ρ w xs (fun h o hl => hs.hp h o (hM h o hl)) hd hn) N Q hc⟩
  | _ =>
    obtain ⟨r, hk, hr⟩ := xdout1_ok (P := P) _ h
    refine ⟨r, hk, fun hreal => ?_⟩
    obtain ⟨h1, h2, h3, h4, h5⟩ := hr hreal
    exact ⟨h1, h2, h3, h4, fun ops o cx ρ M a w ho hs hM hn ts hw hr N Q hc => h5 ops o cx ρ M a w ho hs hM hn ts hw (fun hh => wpOk_of_run (hr hh)) N Q hc⟩
end
end Go.Sx
