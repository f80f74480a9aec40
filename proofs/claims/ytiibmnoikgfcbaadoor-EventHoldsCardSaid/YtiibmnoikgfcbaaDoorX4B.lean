/- Rows as sources, slices, append, make, maps: the operations hold of the program's own. The type table must fit the program (TabOk). -/
import Derived.Test.YtiibmnoikgfcbaaDoorX4
import Derived.Laws.IdiomStrings
import Derived.Laws.MakeOwn
import Derived.MapKept
import Derived.ArgAppend
import Derived.Laws.OwnMore
namespace Go.Sx
open Go.RowKit
set_option linter.unusedVariables false
set_option linter.unusedSimpArgs false
section
variable {P : Program} {tb : Tab} {ρ : Vl} {w : World} {H : List (Nat × SO)} {nx : Nat}

/-- What a source tells: the value is a slice of so many, and these are its elements. -/
structure SrcIs (ρ : Vl) (w : World) (sz n : Nat) (get : Nat → List SV) (x : Value) : Prop where
  is : ∃ a c, x = .slice a n c ∧ (a = none → n = 0) ∧ ∀ i, i < n → (get i).length = sz ∧ ∃ ad xs, a = some ad ∧ denL ρ (get i) = some xs ∧ ∀ j u, xs[j]? = some u → w.cell? (ad.add (i * sz + j)) = some u

theorem src_ok (hH : HOk ρ w H) {sz : Nat} {v : SV} {x : Value} (hx : den ρ v = some x) {p : Prop} {n : Nat} {get : Nat → List SV} (h : srcOf H sz v = some (p, n, get)) (hp : p) : SrcIs ρ w sz n get x := by
  cases v <;> simp only [srcOf] at h
  case nils =>
    cases h
    simp only [den, Option.some.injEq] at hx
    exact ⟨none, 0, hx.symm, fun _ => rfl, fun i hi => absurd hi (Nat.not_lt_zero _)⟩
  case r g =>
    split at h
    case h_2 => cases h
    rename_i s m g' hl
    split at h
    case h_2 => cases h
    rename_i hs
    have := Nat.eq_of_beq_eq_true hs
    subst this
    cases h
    obtain ⟨a, c, hr, hrow⟩ := row_lk hH hl
    simp only [den, hr, Option.some.injEq] at hx
    exact ⟨a, c, hx.symm, hrow.no, hrow.at_⟩
  case rs g lo m s' =>
    split at h
    case h_2 => cases h
    rename_i s n0 g' hl
    split at h
    case h_2 => cases h
    rename_i hs
    simp only [Bool.and_eq_true] at hs
    have h1 := Nat.eq_of_beq_eq_true hs.1
    have h2 := Nat.eq_of_beq_eq_true hs.2
    subst h1
    subst h2
    cases h
    obtain ⟨a, c, hr, hrow⟩ := row_lk hH hl
    have hc := hrow.le
    simp only [den, hr, Option.some.injEq] at hx
    refine ⟨_, _, hx.symm, fun ha => ?_, fun i hi => ?_⟩
    · split at ha
      · omega
      · cases a with
        | none => have := hrow.no rfl; omega
        | some ad => cases ha
    · obtain ⟨h3, ad, xs, rfl, h4, h5⟩ := hrow.at_ (lo + i) (by omega)
      rw [if_neg (by omega)]
      refine ⟨h3, ad.add (lo * s'), xs, rfl, h4, fun j u hu => ?_⟩
      rw [addr_add]
      have := h5 j u hu
      rwa [Nat.add_mul, Nat.add_assoc] at this
  case sl g o m c =>
    split at h
    case h_2 => cases h
    rename_i l t hl
    split at h
    case h_2 => cases h
    rename_i hle
    have hle := Nat.le_of_ble_eq_true hle
    cases h
    obtain ⟨hv, hr, hrep⟩ := hH g _ hl
    cases hv with
    | rw a n c => exact hrep.elim
    | blk b =>
      obtain ⟨cs, hd, hb⟩ := hrep
      have hlen := denL_length hd
      simp only [den, hr, Option.some.injEq] at hx
      refine ⟨some ⟨b, o, none⟩, c, hx.symm, fun e => (by cases e), fun i hi => ?_⟩
      have hmul : (i + 1) * sz ≤ n * sz := Nat.mul_le_mul_right _ hi
      rw [Nat.add_mul, Nat.one_mul] at hmul
      refine ⟨by simp; omega, _, (cs.drop (o + i * sz)).take sz, rfl, denL_take sz (denL_drop _ hd), fun j u hu => ?_⟩
      rw [List.getElem?_take] at hu
      split at hu
      case isFalse => cases hu
      rw [List.getElem?_drop] at hu
      rw [addr0, cell_of_row w b _ _ t (0, 0) hb]
      rw [show o + (i * sz + j) = o + i * sz + j by omega]
      simpa using hu
  all_goals cases h

/-- All the cells of a source. -/
theorem src_cells {sz n : Nat} {get : Nat → List SV} {a : Option Addr} (hz : a = none → n = 0) (h : ∀ i, i < n → (get i).length = sz ∧ ∃ ad xs, a = some ad ∧ denL ρ (get i) = some xs ∧ ∀ j u, xs[j]? = some u → w.cell? (ad.add (i * sz + j)) = some u) :
    ∃ news : List Value, news.length = n * sz ∧ (∀ ad, a = some ad → ∀ j u, news[j]? = some u → w.cell? (ad.add j) = some u) ∧ ∀ i, i < n → denL ρ (get i) = some ((news.drop (i * sz)).take sz) := by
  induction n with
  | zero => exact ⟨[], by simp, fun _ _ j u hu => by simp at hu, fun i hi => absurd hi (Nat.not_lt_zero _)⟩
  | succ n ih =>
    obtain ⟨news, h1, h2, h3⟩ := ih (fun ha => absurd (hz ha) (Nat.succ_ne_zero _)) fun i hi => h i (Nat.lt_succ_of_lt hi)
    obtain ⟨hl, ad, xs, ha, hd, hc⟩ := h n (Nat.lt_succ_self _)
    have hxl := denL_length hd
    refine ⟨news ++ xs, by simp [h1, hxl, hl, Nat.add_mul], fun ad' ha' j u hu => ?_, fun i hi => ?_⟩
    · rw [ha] at ha'; cases ha'
      rw [List.getElem?_append] at hu
      split at hu
      · exact h2 ad ha j u hu
      · rename_i hlt
        have := hc _ u hu
        rwa [show n * sz + (j - news.length) = j by omega] at this
    · rcases Nat.lt_succ_iff_lt_or_eq.1 hi with hi | rfl
      · have hmul : (i + 1) * sz ≤ n * sz := Nat.mul_le_mul_right _ hi
        rw [Nat.add_mul, Nat.one_mul] at hmul
        rw [h3 i hi, List.drop_append, List.take_append]
        have e1 : i * sz - news.length = 0 := by omega
        have e2 : sz - (news.drop (i * sz)).length = 0 := by simp; omega
        rw [e2]; simp
      · rw [List.drop_append, List.drop_of_length_le (by omega), h1]
        simp [hd, List.take_of_length_le (show xs.length ≤ sz by omega)]

theorem run_append_nilsrc (t ty e : TypeId) (ht : P.underlying t = some (.slice e)) {ei : Ti} (hei : TiOk P e ei) (base : Option Addr) (n cap c : Nat) (h : n ≤ cap) :
    (Builtin.append_ #[t, t] ty #[.slice base n cap, .slice none 0 c]).run P w = .ok (.slice base n cap) w := by
  cases base <;> simp [Builtin.append_, run_underlying ht, hei.size w, Builtin.lenOf, Builtin.firstCells, h, storeCells]

theorem own_take {sz n : Nat} {get : Nat → List SV} {xs : List Value} (hl : xs.length = n * sz) {m : Nat} {get' : Nat → List SV} {ys : List Value} (hl' : ys.length = m * sz)
    (h : ∀ i, i < n → (get i).length = sz ∧ denL ρ (get i) = some ((xs.drop (i * sz)).take sz)) (h' : ∀ i, i < m → (get' i).length = sz ∧ denL ρ (get' i) = some ((ys.drop (i * sz)).take sz)) :
    ∀ i, i < n + m → (catG n get get' i).length = sz ∧ denL ρ (catG n get get' i) = some (((xs ++ ys).drop (i * sz)).take sz) := by
  intro i hi
  unfold catG
  rcases Nat.lt_or_ge i n with hlt | hge
  · have : Nat.blt i n = true := by simpa using hlt
    rw [this, cond_true]
    obtain ⟨h1, h2⟩ := h i hlt
    have hmul : (i + 1) * sz ≤ n * sz := Nat.mul_le_mul_right _ hlt
    rw [Nat.add_mul, Nat.one_mul] at hmul
    refine ⟨h1, ?_⟩
    rw [h2, List.drop_append, List.take_append]
    have e2 : sz - (xs.drop (i * sz)).length = 0 := by simp; omega
    rw [e2]; simp
  · have : Nat.blt i n = false := by
      cases hb : Nat.blt i n with
      | false => rfl
      | true => simp at hb; omega
    rw [this, cond_false]
    obtain ⟨h1, h2⟩ := h' (i - n) (by omega)
    refine ⟨h1, ?_⟩
    have hmul : n * sz ≤ i * sz := Nat.mul_le_mul_right _ hge
    rw [h2, List.drop_append, List.drop_of_length_le (show xs.length ≤ i * sz by omega), hl, ← Nat.sub_mul]
    simp

/-- What may be grown is the call's own row. -/
theorem own_ok (hH : HOk ρ w H) {el sz : Nat} {v : SV} {x : Value} (hx : den ρ v = some x) {n : Nat} {get : Nat → List SV} {ho : Option Nat} (h : ownOf H el sz v = some (n, get, ho)) :
    (∃ xs, w.ownsRow 0 el sz x n xs ∧ ∀ i, i < n → (get i).length = sz ∧ denL ρ (get i) = some ((xs.drop (i * sz)).take sz)) ∧ (ho = none → x = .slice none 0 0 ∧ n = 0) ∧
      (∀ g, ho = some g → ∃ hv o0, lk g H = some o0 ∧ o0.mine = true ∧ ρ g = some hv ∧ ∀ k, x.ownBlock = some k → o0.fp w hv k) ∧ ∃ a c, x = .slice a n c ∧ n ≤ c := by
  cases v <;> simp only [ownOf] at h
  case nils =>
    cases h
    simp only [den, Option.some.injEq] at hx
    subst hx
    exact ⟨⟨[], World.ownsRow_nil w 0 el sz, fun i hi => absurd hi (Nat.not_lt_zero _)⟩, fun _ => ⟨rfl, rfl⟩, fun g e => (by cases e), _, _, rfl, Nat.le_refl _⟩
  case r g =>
    split at h
    case h_2 => cases h
    rename_i t s m g' hl
    split at h
    case h_2 => cases h
    rename_i hs
    simp only [Bool.and_eq_true] at hs
    have h1 := Nat.eq_of_beq_eq_true hs.1
    have h2 := Nat.eq_of_beq_eq_true hs.2
    subst h1
    subst h2
    cases h
    obtain ⟨hv, hr, hrep⟩ := hH g _ hl
    obtain ⟨a, c, rfl, hrow⟩ := row_is hrep rfl
    obtain ⟨_, xs, hown, hg⟩ := hrep
    simp only [den, hr, Option.some.injEq] at hx
    subst hx
    refine ⟨⟨xs, hown, hg⟩, fun e => (by cases e), fun g0 e => ?_, _, _, rfl, hrow.le⟩
    cases e
    refine ⟨_, _, hl, rfl, hr, fun k hk => ?_⟩
    cases a with
    | none => cases hk
    | some ad => cases hk; exact ⟨ad, rfl, rfl⟩
  case sl g o m c =>
    split at h
    case h_2 => cases h
    rename_i l t hl
    split at h
    case h_2 => cases h
    rename_i hc
    simp only [Bool.and_eq_true] at hc
    obtain ⟨h1, h2, h3, h4, h5⟩ := hc
    have h1 := Nat.eq_of_beq_eq_true h1
    have h2 := Nat.eq_of_beq_eq_true h2
    have h3 := Nat.eq_of_beq_eq_true h3
    have h4 := Nat.le_of_ble_eq_true h4
    have h5 := Nat.le_of_ble_eq_true h5
    subst h1
    subst h2
    cases h
    obtain ⟨hv, hr, hrep⟩ := hH g _ hl
    cases hv with
    | rw a n c => exact hrep.elim
    | blk b =>
      obtain ⟨cs, hd, hb⟩ := hrep
      have hlen := denL_length hd
      simp only [den, hr, Option.some.injEq] at hx
      subst hx
      have hmul : n * sz ≤ c * sz := Nat.mul_le_mul_right _ h4
      refine ⟨⟨cs.take (n * sz), ⟨by simp; omega, .inr ⟨b, c, cs.toArray, rfl, Nat.zero_le _, hb, h4, by simp only [maxLen]; omega, by simp; omega, by simp⟩⟩, fun i hi => ?_⟩, fun e => (by cases e), fun g0 e => ?_, _, _, rfl, h4⟩
      · have hmul : (i + 1) * sz ≤ n * sz := Nat.mul_le_mul_right _ hi
        rw [Nat.add_mul, Nat.one_mul] at hmul
        refine ⟨by simp; omega, ?_⟩
        have := denL_take (ρ := ρ) sz (denL_drop (i * sz) hd)
        rw [this]
        congr 1
        rw [List.drop_take, List.take_take]
        congr 1
        omega
      · cases e
        exact ⟨_, _, hl, rfl, hr, fun k hk => (by cases hk; rfl)⟩
  all_goals cases h

theorem upd_grown {F : Nat → Prop} {w' : World} {row : Option Nat} (h : w.grownBy w' row) (hr : ∀ k, row = some k → F k) : Upd F w w' :=
  ⟨h.os, h.tape, h.output, h.size, fun k hk hF => h.block k hk fun e => hF (hr k e.symm)⟩

theorem xappend_ok (hP : TabOk P tb) (hH : HOk ρ w H) (hn : ρ nx = none) (t ty : Nat) {u v : SV} {x y : Value} (hx : den ρ u = some x) (hy : den ρ v = some y) :
    RunOk ρ w H nx ((do pure (Next.value (← Builtin.append_ #[t, t] ty #[x, y])) : Sem Next).run P w) (xappend tb H nx t u v) := by
  unfold xappend
  cases hti : tb.ti t with
  | none => trivial
  | some i =>
    obtain ⟨d, hu, hfit⟩ := (hP.ti t i hti).und
    simp only []
    split <;> try trivial
    rename_i el hk
    rw [hk] at hfit
    cases d <;> simp only [TK.fits] at hfit
    subst hfit
    cases hei : tb.ti el with
    | none => trivial
    | some ei =>
      simp only []
      split <;> try trivial
      rename_i n g ho p m g' hsz hown hsrc
      have hsz : 0 < ei.size := by simpa using hsz
      have heiok := hP.ti el ei hei
      obtain ⟨inf, z, hinf, hsize, hby, hz, hzd, hzl⟩ := heiok.info
      have hzs : z.cells.size = ei.size := by have := denL_length hzd; simp at this; omega
      obtain ⟨⟨xs, hownx, hgx⟩, hno, hsome, ax, cx, ex, hncx⟩ := own_ok hH hx hown
      -- what comes out, whatever the source
      have run : p → OneG m g' → n + m ≤ 9223372036854775807 → (n + m) * ei.bytes ≤ 140737488355328 → ∃ a' c' w' xs', (Builtin.append_ #[t, t] ty #[x, y]).run P w = .ok (.slice a' (n + m) c') w' ∧ w'.ownsRow 0 el ei.size (.slice a' (n + m) c') (n + m) xs' ∧ w.grownBy w' x.ownBlock ∧
          (∀ ad, a' = some ad → (x.ownBlock = some ad.block ∨ w.heap.size ≤ ad.block) ∧ ad.block < w'.heap.size) ∧
          (∀ i, i < n + m → (catG n g g' i).length = ei.size ∧ denL ρ (catG n g g' i) = some ((xs'.drop (i * ei.size)).take ei.size)) := fun hp hone h63 hbytes => by
        obtain ⟨a, c, rfl, hz0, hat⟩ := (src_ok hH hy hsrc hp).is
        obtain ⟨news, hnl, hnc, hnd⟩ := src_cells hz0 hat
        have h1 : ∀ u ∈ news, u.oneCell' = true := fun u hu => by
          obtain ⟨j, hj, rfl⟩ := List.mem_iff_getElem.1 hu
          have hjm : j / ei.size < m := (Nat.div_lt_iff_lt_mul hsz).2 (by omega)
          refine allOne_ok (hone _ hjm) (hnd _ hjm) _ ?_
          have hmod := Nat.mod_lt j hsz
          have hdm := Nat.div_add_mod j ei.size
          rw [Nat.mul_comm] at hdm
          refine List.mem_of_getElem? (i := j % ei.size) ?_
          rw [List.getElem?_take, if_pos hmod, List.getElem?_drop, hdm, List.getElem?_eq_getElem hj]
        have hcat := own_take (ρ := ρ) hownx.1 hnl hgx (fun i hi => ⟨(hat i hi).1, hnd i hi⟩)
        have hm : n + m ≤ maxLen := by simp only [maxLen]; omega
        have fresh : ∀ {w' : World} {v' : Value} {xs' : List Value}, w'.ownsRow w.heap.size el ei.size v' (n + m) xs' → ∃ a' c', v' = .slice a' (n + m) c' ∧ w'.ownsRow 0 el ei.size (.slice a' (n + m) c') (n + m) xs' ∧ ∀ ad, a' = some ad → w.heap.size ≤ ad.block ∧ ad.block < w'.heap.size := fun {w' v' xs'} ho' => by
          have hlt := ho'.lt
          obtain ⟨hl, h2⟩ := ho'
          rcases h2 with ⟨e, e2⟩ | ⟨g, cap, cur, e, hb, hr⟩
          · exact ⟨none, 0, by rw [e, e2], ⟨hl, .inl ⟨by rw [e2], e2⟩⟩, fun ad e => by cases e⟩
          · subst e
            exact ⟨_, _, rfl, ⟨hl, .inr ⟨g, cap, cur, rfl, Nat.zero_le _, hr⟩⟩, fun ad e => by cases e; exact hlt g rfl⟩
        cases a with
        | none =>
          have := hz0 rfl
          subst this
          have : news = [] := List.eq_nil_of_length_eq_zero (by simpa using hnl)
          subst this
          subst ex
          refine ⟨ax, cx, w, xs, run_append_nilsrc t ty el hu heiok ax n cx c hncx, by simpa using hownx, ⟨rfl, rfl, rfl, Nat.le_refl _, fun _ _ _ => rfl⟩, fun ad e => ?_, by simpa using hcat⟩
          subst e
          exact ⟨.inl rfl, (hownx.lt ad.block rfl).2⟩
        | some ad =>
          rcases hownx.2 with ⟨e, e2⟩ | ⟨b, cap, cur, e, _, hb, hle, hcm, hcs, htake⟩
          · -- nothing was there
            subst e
            obtain ⟨v', w', hrun, ho', hgr, _⟩ := run_append_own (P := P) w w.heap.size t ty el inf z ei.size ei.bytes hu hinf hz hsize hby hzs hsz (.slice none 0 0) n xs ⟨hownx.1, .inl ⟨rfl, e2⟩⟩ ad m c news hnl (hnc ad rfl) h1 hm hbytes (Nat.le_refl _)
            obtain ⟨a', c', rfl, h3, h4⟩ := fresh ho'
            exact ⟨a', c', w', _, hrun, h3, hgr, fun ad e => ⟨.inr (h4 ad e).1, (h4 ad e).2⟩, hcat⟩
          · subst e
            by_cases hroom : n + m ≤ cap
            · obtain ⟨w', hrun, ho', hgr⟩ := run_append_fits (P := P) w 0 t ty el inf ei.size hu hinf hsize b n cap xs hownx ad m c news hnl (hnc ad rfl) h1 hroom
              exact ⟨_, _, w', _, hrun, ho', hgr, fun ad e => by cases e; exact ⟨.inl rfl, (ho'.lt b rfl).2⟩, hcat⟩
            · obtain ⟨v', w', hrun, ho', hgr⟩ := run_append_arg_grows (P := P) w t ty el inf z ei.size ei.bytes hu hinf hz hsize hby hzs hsz ⟨b, 0, none⟩ n cap xs hownx.1 (hownx.cells rfl) ad m c news hnl (hnc ad rfl) (by omega) hm hbytes
              obtain ⟨a', c', rfl, h3, h4⟩ := fresh ho'
              exact ⟨a', c', w', _, hrun, h3, ⟨hgr.os, hgr.tape, hgr.output, hgr.size, fun k hk _ => hgr.block k hk (by simp)⟩, fun ad e => ⟨.inr (h4 ad e).1, (h4 ad e).2⟩, hcat⟩
      have grow : ∀ h', RunOk ρ w H nx ((do pure (Next.value (← Builtin.append_ #[t, t] ty #[x, y])) : Sem Next).run P w) (match ho with
            | some h => match Nat.beq h h' with
              | true => .no "a row behind itself"
              | false => .ob (p ∧ OneG m g' ∧ (n + m) * 1 ≤ 9223372036854775807 ∧ (n + m) * ei.bytes ≤ 140737488355328) (.mv (.r nx) h (.own el ei.size (n + m) (catG n g g')))
            | none => .ob (p ∧ OneG m g' ∧ m * 1 ≤ 9223372036854775807 ∧ m * ei.bytes ≤ 140737488355328) (.new (.r nx) (.own el ei.size m g'))) := fun h' => by
        cases ho with
        | some h =>
          simp only []
          split
          · trivial
          · rintro ⟨hp, hone, h63, hbytes⟩
            obtain ⟨a', c', w', xs', hrun, ho', hgr, hfp, hcat⟩ := run hp hone (by omega) hbytes
            obtain ⟨hv0, o0, h1, h2, h3, h4⟩ := hsome h rfl
            refine ⟨hv0, o0, .rw a' (n + m) c', _, w', h1, h2, h3, by simp only [Sem.run_bind, hrun, Result.andThen_ok]; rfl, by simp only [den, Vl.upd_same], upd_grown hgr h4, ⟨rfl, xs', ho', fun i hi => ⟨(hcat i hi).1, denL_mono (Vl.le_upd hn) _ _ (hcat i hi).2⟩⟩, rfl, fun k hk => ?_⟩
            obtain ⟨ad, e, rfl⟩ := hk
            exact ⟨(hfp ad e).1.imp_left (h4 _), (hfp ad e).2⟩
        | none =>
          obtain ⟨ex', rfl⟩ := hno rfl
          rintro ⟨hp, hone, h63, hbytes⟩
          obtain ⟨a', c', w', xs', hrun, ho', hgr, hfp, hcat⟩ := run hp hone (by omega) (by simpa using hbytes)
          rw [Nat.zero_add] at hrun ho' hcat
          rw [ex'] at hgr hfp
          refine ⟨_, w', by simp only [Sem.run_bind, hrun, Result.andThen_ok]; rfl, .rw a' m c', by simp only [den, Vl.upd_same], ⟨hgr.os, hgr.tape, hgr.output, hgr.size, fun k hk => hgr.block k hk (by simp [Value.ownBlock])⟩, ⟨rfl, xs', ho', fun i hi => ?_⟩, fun k hk => ?_⟩
          · have h5 := hcat i hi
            have : Nat.blt i 0 = false := rfl
            simp only [catG, this, cond_false, Nat.sub_zero] at h5
            exact ⟨h5.1, denL_mono (Vl.le_upd hn) _ _ h5.2⟩
          · obtain ⟨ad, e, rfl⟩ := hk
            obtain ⟨h5, h6⟩ := hfp ad e
            rcases h5 with h5 | h5
            · cases h5
            · exact ⟨h5, h6⟩
      split
      · simp only [srcOf, Option.some.injEq, Prod.mk.injEq] at hsrc
        obtain ⟨-, rfl, -⟩ := hsrc
        simp only [den, Option.some.injEq] at hy
        subst hy
        subst ex
        refine ⟨_, hx, ?_⟩
        simp only [Sem.run_bind, run_append_nilsrc t ty el hu heiok ax n cx 0 hncx, Result.andThen_ok]
        rfl
      · exact grow _
      · exact grow _
      · exact grow _
      · trivial
end
end Go.Sx
