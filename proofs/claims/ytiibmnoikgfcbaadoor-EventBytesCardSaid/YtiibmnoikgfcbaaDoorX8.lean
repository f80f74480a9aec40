/- The walk of a region's operations is right. -/
import Derived.Test.YtiibmnoikgfcbaaDoorX7
namespace Go.Sx
open Go.RowKit
set_option linter.unusedVariables false
set_option linter.unusedSimpArgs false

theorem frL_eq {β : Prop} : ∀ (l : List SV) (K : List SV → Prop), frL (β := β) l K = K l
  | [], _ => rfl
  | x :: r, K => by simp only [frL]; rw [frL_eq r]
theorem fr_eq (v : SV) (K : SV → Prop) : fr v K = K v := by
  cases v <;> simp only [fr, frL_eq]
  case n k z => cases z <;> rfl
  case lb x => cases x <;> rfl
theorem frO_eq (o : SO) (K : SO → Prop) : frO o K = K o := by cases o <;> simp only [frO, frL_eq]

theorem hasId_ok {t : Nat} {b : Bool} : ∀ {l : List (Nat × Bool)}, hasId t b l = true → (t, b) ∈ l
  | [], h => by cases h
  | (u, c) :: r, h => by
    simp only [hasId, Bool.or_eq_true, Bool.and_eq_true, beq_iff_eq] at h
    rcases h with ⟨h1, h2⟩ | h
    · have := Nat.eq_of_beq_eq_true h1; subst this; subst h2; exact List.mem_cons_self ..
    · exact List.mem_cons_of_mem _ (hasId_ok h)
theorem subIds_ok {tm : Array Value} : ∀ {l l' : List (Nat × Bool)}, subIds l l' = true → idsHold tm l' → idsHold tm l
  | [], _, _, _, e, he => by cases he
  | (t, b) :: r, l', h, hh, e, he => by
    simp only [subIds, Bool.and_eq_true] at h
    rcases List.mem_cons.1 he with rfl | he
    · exact hh _ (hasId_ok h.1)
    · exact subIds_ok h.2 hh e he
theorem namesId_ok {t : Nat} : ∀ {l : List (Nat × Bool)}, namesId t l = false → ∀ e ∈ l, e.1 ≠ t
  | [], _, e, he => by cases he
  | (u, c) :: r, h, e, he => by
    simp only [namesId, Bool.or_eq_false_iff] at h
    rcases List.mem_cons.1 he with rfl | he
    · intro e1
      simp only at e1
      rw [e1] at h
      simp [Nat.beq_refl] at h
    · exact namesId_ok h.2 e he
theorem noG_ok {t : Nat} : ∀ {G : List (Nat × (List (Nat × Bool) × SV))}, noG t G = true → ∀ u ids v, (u, (ids, v)) ∈ G → u ≠ t ∧ ∀ e ∈ ids, e.1 ≠ t
  | [], _, _, _, _, h => by cases h
  | (k, (ids0, v0)) :: r, h, u, ids, v, hl => by
    simp only [noG, Bool.and_eq_true, Bool.not_eq_true'] at h
    rcases List.mem_cons.1 hl with hl | hl
    · cases hl
      refine ⟨fun e1 => ?_, namesId_ok h.2.1⟩
      rw [e1] at h
      simp [Nat.beq_refl] at h
    · exact noG_ok h.2.2 u ids v hl
theorem noG_lk {t : Nat} : ∀ {G : List (Nat × (List (Nat × Bool) × SV))}, noG t G = true → lk t G = none := fun {G} h => by
  cases e : lk t G with
  | none => rfl
  | some p => obtain ⟨ids, v⟩ := p; exact absurd rfl (noG_ok h t ids v (lk_mem e)).1

theorem idsHold_set {tm : Array Value} {t : Nat} {x : Value} {ids : List (Nat × Bool)} (h : ∀ e ∈ ids, e.1 ≠ t) : idsHold (tm.setIfInBounds t x) ids ↔ idsHold tm ids := by
  constructor
  · intro hh e he
    have := hh e he
    rwa [Array.getElem?_setIfInBounds_ne (Ne.symm (h e he))] at this
  · intro hh e he
    rw [Array.getElem?_setIfInBounds_ne (Ne.symm (h e he))]
    exact hh e he

section
variable {cx : Cx} {ρ : Vl} {w : World} {a : Act}

/-- What a temporary is given. -/
theorem TS.put {T : List (Nat × SV)} {G : List (Nat × (List (Nat × Bool) × SV))} {n t : Nat} {tm : Array Value} (h : TS ρ T G n tm) (hlt : t < n) (hno : noG t G = true) {v : SV} {x : Value} :
    (den ρ v = some x → TS ρ ((t, v) :: T) G n (tm.setIfInBounds t x)) ∧
    (∀ ids, (∀ e ∈ ids, e.1 ≠ t) → (idsHold tm ids → den ρ v = some x) → (¬ idsHold tm ids → x = undef) → TS ρ T ((t, (ids, v)) :: G) n (tm.setIfInBounds t x)) := by
  have hsz : t < tm.size := by rw [h.sz]; exact hlt
  have same : (tm.setIfInBounds t x)[t]? = some x := by simp [hsz]
  have other : ∀ u, u ≠ t → (tm.setIfInBounds t x)[u]? = tm[u]? := fun u hu => Array.getElem?_setIfInBounds_ne (Ne.symm hu)
  constructor
  · intro hd
    refine ⟨by simp [h.sz], fun u v' hg hl => ?_, fun u ids v' hg => ?_⟩
    · by_cases e : u = t
      · subst e
        rw [lk_cons_same] at hl; cases hl
        exact ⟨x, same, hd⟩
      · rw [lk_cons_other _ _ e] at hl
        rw [other u e]
        exact h.vs u v' hg hl
    · obtain ⟨h1, h2⟩ := noG_ok hno u ids v' hg
      rw [idsHold_set h2, other u h1]
      exact h.gd u ids v' hg
  · intro ids hids h1 h2
    refine ⟨by simp [h.sz], fun u v' hg hl => ?_, fun u ids' v' hg => ?_⟩
    · by_cases e : u = t
      · subst e; rw [lk_cons_same] at hg; cases hg
      · rw [lk_cons_other _ _ e] at hg
        rw [other u e]
        exact h.vs u v' hg hl
    · rcases List.mem_cons.1 hg with hg | hg
      · cases hg
        rw [idsHold_set hids, same]
        exact ⟨fun hh => ⟨x, rfl, h1 hh⟩, fun hh => by rw [h2 hh]⟩
      · obtain ⟨h3, h4⟩ := noG_ok hno u ids' v' hg
        rw [idsHold_set h4, other u h3]
        exact h.gd u ids' v' hg

theorem put_ok {s : St} {ids : List (Nat × Bool)} {d : Option Nat} {v : SV} {K : St → Prop} (hp : put s ids d v K) (hs : HS cx ρ s.H s.nx w) (ts : TS ρ s.T s.G s.n a.tmps) (df : a.defers = cx.ds) {x : Value}
    (h1 : idsHold a.tmps ids → den ρ v = some x) (h2 : ¬ idsHold a.tmps ids → x = undef) : ∃ s', K s' ∧ Sat cx ρ s' (a.put d x) w := by
  obtain ⟨T, G, H, nx, n⟩ := s
  cases d with
  | none => exact ⟨_, hp, hs, ts, df⟩
  | some t =>
    simp only [put] at hp
    split at hp
    case h_2 => exact hp.elim
    rename_i hc
    simp only [Bool.and_eq_true, Nat.blt_eq] at hc
    obtain ⟨p1, p2⟩ := ts.put (v := v) (x := x) hc.1 hc.2
    split at hp
    · exact ⟨_, hp, hs, p1 (h1 fun e he => by cases he), df⟩
    · rename_i e r
      split at hp
      case h_2 => exact hp.elim
      rename_i hn
      exact ⟨_, hp, hs, p2 _ (namesId_ok hn) h1 h2, df⟩

theorem cv1_ok (ρ : Vl) (v : Value) : den ρ (cv1 v) = some v := by
  unfold cv1
  split <;> rfl
theorem cvL_ok (ρ : Vl) : ∀ l : List Value, denL ρ (l.map cv1) = some l
  | [] => rfl
  | v :: l => denL_mk (cv1_ok ρ v) (cvL_ok ρ l)
theorem cv_ok (ρ : Vl) (v : Value) : den ρ (cv v) = some v := by
  unfold cv
  split
  · simp only [den, cvL_ok]
  · exact cv1_ok ρ _

theorem ev_ok {s : St} (ts : TS ρ s.T s.G s.n a.tmps) {ids : List (Nat × Bool)} (hh : idsHold a.tmps ids) : EOk ρ (ev s ids) a.eval := by
  intro x v h
  cases x with
  | tmp t =>
    simp only [ev] at h
    cases hg : lk t s.G with
    | some p =>
      obtain ⟨ids', v'⟩ := p
      rw [hg] at h
      simp only [] at h
      split at h
      case h_2 => cases h
      rename_i hsub
      cases h
      obtain ⟨y, h1, h2⟩ := (ts.gd t ids' v (lk_mem hg)).1 (subIds_ok hsub hh)
      simp [Act.eval, h1, h2]
    | none =>
      rw [hg] at h
      obtain ⟨y, h1, h2⟩ := ts.vs t v hg h
      simp [Act.eval, h1, h2]
  | const c => simp only [ev, Option.some.injEq] at h; subst h; exact cv_ok ρ c
  | global g => simp only [ev, Option.some.injEq] at h; subst h; rfl
  | func f => simp only [ev, Option.some.injEq] at h; subst h; rfl

/-- What a guard says. -/
theorem gd_ok {ops : Array Oper} {s : St} (ts : TS ρ s.T s.G s.n a.tmps) (o : Oper) :
    match gdOf ops s o with
    | .run ids => (Region.wanted o (yielded ops a.tmps) = true ↔ idsHold a.tmps ids)
    | .skip => Region.wanted o (yielded ops a.tmps) = false
    | .no => True := by
  unfold gdOf
  cases hg : o.guard with
  | none => simp [Region.wanted, hg, idsHold]
  | some jw =>
    obtain ⟨j, want⟩ := jw
    simp only []
    cases hd : (ops.toList[j]?).bind Oper.dst with
    | none => trivial
    | some t =>
      have hy : yielded ops a.tmps j = match a.tmps[t]? with | some (.bool b) => some b | _ => none := by
        unfold yielded
        rw [Array.getElem?_toList] at hd
        have : (ops[j]?).bind (·.dst) = some t := hd
        rw [this]
        rfl
      have hw : Region.wanted o (yielded ops a.tmps) = (yielded ops a.tmps j == some want) := by simp [Region.wanted, hg]
      rw [hw, hy]
      simp only []
      cases hG : lk t s.G with
      | some p =>
        obtain ⟨ids, v⟩ := p
        obtain ⟨g1, g2⟩ := ts.gd t ids v (lk_mem hG)
        cases v with
        | b x =>
          simp only []
          constructor
          · intro h e he
            have : a.tmps[t]? = some (.bool want) := by
              cases ht : a.tmps[t]? with
              | none => rw [ht] at h; simp at h
              | some u =>
                rw [ht] at h
                cases u <;> simp at h
                rw [h]
            rcases List.mem_cons.1 he with rfl | he
            · exact this
            · by_cases hh : idsHold a.tmps ids
              · exact hh e he
              · have := (g2 hh).symm.trans this
                cases this
          · intro h
            rw [h _ (List.mem_cons_self ..)]
            simp
        | lb x =>
          simp only []
          cases hx : x == want with
          | true =>
            simp only []
            have hx' : x = want := by simpa using hx
            subst hx'
            constructor
            · intro h e he
              have : a.tmps[t]? = some (.bool x) := by
                cases ht : a.tmps[t]? with
                | none => rw [ht] at h; simp at h
                | some u =>
                  rw [ht] at h
                  cases u <;> simp at h
                  rw [h]
              rcases List.mem_cons.1 he with rfl | he
              · exact this
              · by_cases hh : idsHold a.tmps ids
                · exact hh e he
                · have := (g2 hh).symm.trans this
                  cases this
            · intro h
              rw [h _ (List.mem_cons_self ..)]
              simp
          | false =>
            simp only []
            have hx' : x ≠ want := by simpa using hx
            by_cases hh : idsHold a.tmps ids
            · obtain ⟨y, h1, h2⟩ := g1 hh
              simp only [den, Option.some.injEq] at h2
              subst h2
              rw [h1]
              simpa using hx'
            · rw [g2 hh]; rfl
        | _ => trivial
      | none =>
        simp only []
        cases hT : lk t s.T with
        | none => trivial
        | some v =>
          obtain ⟨y, h1, h2⟩ := ts.vs t v hG hT
          cases v with
          | b x =>
            simp only [den, Option.some.injEq] at h2
            subst h2
            rw [h1]
            simp only [idsHold, List.mem_singleton, forall_eq, h1]
            simp
          | lb x =>
            simp only [den, Option.some.injEq] at h2
            subst h2
            simp only []
            rw [h1]
            cases hx : x == want with
            | true => simp only [idsHold]; have : x = want := by simpa using hx
                      simp [this]
            | false => simp only []; have : x ≠ want := by simpa using hx
                       simpa using this
          | tu l =>
            cases l with
            | nil =>
              simp only [den, denL, Option.some.injEq] at h2
              subst h2
              simp only []
              rw [h1]
              rfl
            | cons => trivial
          | _ => trivial
end
end Go.Sx
