/- Rows as sources, slices, append, make, maps: the operations hold of the program's own. The type table must fit the program (TabOk). Slices, texts of bytes, make, stores into rows, maps: the operations hold of the program's own. The type table must fit the program (TabOk). Structs held against one another, and as keys: from their fields. No condition. -/
import Derived.Test.YtiibmnoikgfcbaaDoorX4
import Derived.Laws.IdiomStrings
import Derived.Laws.MakeOwn
import Derived.MapKept
import Derived.ArgAppend
import Derived.Laws.OwnMore
import Derived.Laws.StructEq
namespace Go.Sx
open Go.RowKit
set_option linter.unusedVariables false
set_option linter.unusedSimpArgs false
section
variable {P : Program} {tb : Tab} {ρ : Vl} {w : World} {H : List (Nat × SO)} {nx : Nat}

/-- What a source tells: the value is a slice of so many, and these are its elements. -/
structure SrcIs (ρ : Vl) (w : World) (sz n : Nat) (get : Nat → List SV) (x : Value) : Prop where
  is : ∃ a c, x = .slice a n c ∧ (a = none → n = 0) ∧ ∀ i, i < n → (get i).length = sz ∧ ∃ ad xs, a = some ad ∧ denL ρ (get i) = some xs ∧ ∀ j u, xs[j]? = some u → w.cell? (ad.add (i * sz + j)) = some u

theorem src_ok (hH : HOk ρ w H) {sz : Nat} {v : SV} {x : Value} (hx : den ρ v = some x) {p : Prop} {n : Nat} {get : Nat → List SV} (h : srcOf H sz v = some (p, n, get)) (hp : p) : SrcIs ρ w sz n get x := by
  cases v <;> simp only [srcOf] at h
  case nils =>
    cases h
    simp only [den, Option.some.injEq] at hx
    exact ⟨none, 0, hx.symm, fun _ => rfl, fun i hi => absurd hi (Nat.not_lt_zero _)⟩
  case r g =>
    split at h
    case h_2 => cases h
    rename_i s m g' hl
    split at h
    case h_2 => cases h
    rename_i hs
    have := Nat.eq_of_beq_eq_true hs
    subst this
    cases h
    obtain ⟨a, c, hr, hrow⟩ := row_lk hH hl
    simp only [den, hr, Option.some.injEq] at hx
    exact ⟨a, c, hx.symm, hrow.no, hrow.at_⟩
  case rs g lo m s' =>
    split at h
    case h_2 => cases h
    rename_i s n0 g' hl
    split at h
    case h_2 => cases h
    rename_i hs
    simp only [Bool.and_eq_true] at hs
    have h1 := Nat.eq_of_beq_eq_true hs.1
    have h2 := Nat.eq_of_beq_eq_true hs.2
    subst h1
    subst h2
    cases h
    obtain ⟨a, c, hr, hrow⟩ := row_lk hH hl
    have hc := hrow.le
    simp only [den, hr, Option.some.injEq] at hx
    refine ⟨_, _, hx.symm, fun ha => ?_, fun i hi => ?_⟩
    · split at ha
      · omega
      · cases a with
        | none => have := hrow.no rfl; omega
        | some ad => cases ha
    · obtain ⟨h3, ad, xs, rfl, h4, h5⟩ := hrow.at_ (lo + i) (by omega)
      rw [if_neg (by omega)]
      refine ⟨h3, ad.add (lo * s'), xs, rfl, h4, fun j u hu => ?_⟩
      rw [addr_add]
      have := h5 j u hu
      rwa [Nat.add_mul, Nat.add_assoc] at this
  case sl g o m c =>
    split at h
    case h_2 => cases h
    rename_i l t hl
    split at h
    case h_2 => cases h
    rename_i hle
    have hle := Nat.le_of_ble_eq_true hle
    cases h
    obtain ⟨hv, hr, hrep⟩ := hH g _ hl
    cases hv with
    | rw a n c => exact hrep.elim
    | blk b =>
      obtain ⟨cs, hd, hb⟩ := hrep
      have hlen := denL_length hd
      simp only [den, hr, Option.some.injEq] at hx
      refine ⟨some ⟨b, o, none⟩, c, hx.symm, fun e => (by cases e), fun i hi => ?_⟩
      have hmul : (i + 1) * sz ≤ n * sz := Nat.mul_le_mul_right _ hi
      rw [Nat.add_mul, Nat.one_mul] at hmul
      refine ⟨by simp; omega, _, (cs.drop (o + i * sz)).take sz, rfl, denL_take sz (denL_drop _ hd), fun j u hu => ?_⟩
      rw [List.getElem?_take] at hu
      split at hu
      case isFalse => cases hu
      rw [List.getElem?_drop] at hu
      rw [addr0, cell_of_row w b _ _ t (0, 0) hb]
      rw [show o + (i * sz + j) = o + i * sz + j by omega]
      simpa using hu
  all_goals cases h

/-- All the cells of a source. -/
theorem src_cells {sz n : Nat} {get : Nat → List SV} {a : Option Addr} (hz : a = none → n = 0) (h : ∀ i, i < n → (get i).length = sz ∧ ∃ ad xs, a = some ad ∧ denL ρ (get i) = some xs ∧ ∀ j u, xs[j]? = some u → w.cell? (ad.add (i * sz + j)) = some u) :
    ∃ news : List Value, news.length = n * sz ∧ (∀ ad, a = some ad → ∀ j u, news[j]? = some u → w.cell? (ad.add j) = some u) ∧ ∀ i, i < n → denL ρ (get i) = some ((news.drop (i * sz)).take sz) := by
  induction n with
  | zero => exact ⟨[], by simp, fun _ _ j u hu => by simp at hu, fun i hi => absurd hi (Nat.not_lt_zero _)⟩
  | succ n ih =>
    obtain ⟨news, h1, h2, h3⟩ := ih (fun ha => absurd (hz ha) (Nat.succ_ne_zero _)) fun i hi => h i (Nat.lt_succ_of_lt hi)
    obtain ⟨hl, ad, xs, ha, hd, hc⟩ := h n (Nat.lt_succ_self _)
    have hxl := denL_length hd
    refine ⟨news ++ xs, by simp [h1, hxl, hl, Nat.add_mul], fun ad' ha' j u hu => ?_, fun i hi => ?_⟩
    · rw [ha] at ha'; cases ha'
      rw [List.getElem?_append] at hu
      split at hu
      · exact h2 ad ha j u hu
      · rename_i hlt
        have := hc _ u hu
        rwa [show n * sz + (j - news.length) = j by omega] at this
    · rcases Nat.lt_succ_iff_lt_or_eq.1 hi with hi | rfl
      · have hmul : (i + 1) * sz ≤ n * sz := Nat.mul_le_mul_right _ hi
        rw [Nat.add_mul, Nat.one_mul] at hmul
        rw [h3 i hi, List.drop_append, List.take_append]
        have e1 : i * sz - news.length = 0 := by omega
        have e2 : sz - (news.drop (i * sz)).length = 0 := by simp; omega
        rw [e2]; simp
      · rw [List.drop_append, List.drop_of_length_le (by omega), h1]
        simp [hd, List.take_of_length_le (show xs.length ≤ sz by omega)]

theorem run_append_nilsrc (t ty e : TypeId) (ht : P.underlying t = some (.slice e)) {ei : Ti} (hei : TiOk P e ei) (base : Option Addr) (n cap c : Nat) (h : n ≤ cap) :
    (Builtin.append_ #[t, t] ty #[.slice base n cap, .slice none 0 c]).run P w = .ok (.slice base n cap) w := by
  cases base <;> simp [Builtin.append_, run_underlying ht, hei.size w, Builtin.lenOf, Builtin.firstCells, h, storeCells]

theorem own_take {sz n : Nat} {get : Nat → List SV} {xs : List Value} (hl : xs.length = n * sz) {m : Nat} {get' : Nat → List SV} {ys : List Value} (hl' : ys.length = m * sz)
    (h : ∀ i, i < n → (get i).length = sz ∧ denL ρ (get i) = some ((xs.drop (i * sz)).take sz)) (h' : ∀ i, i < m → (get' i).length = sz ∧ denL ρ (get' i) = some ((ys.drop (i * sz)).take sz)) :
    ∀ i, i < n + m → (catG n get get' i).length = sz ∧ denL ρ (catG n get get' i) = some (((xs ++ ys).drop (i * sz)).take sz) := by
  intro i hi
  unfold catG
  rcases Nat.lt_or_ge i n with hlt | hge
  · have : Nat.blt i n = true := by simpa using hlt
    rw [this, cond_true]
    obtain ⟨h1, h2⟩ := h i hlt
    have hmul : (i + 1) * sz ≤ n * sz := Nat.mul_le_mul_right _ hlt
    rw [Nat.add_mul, Nat.one_mul] at hmul
    refine ⟨h1, ?_⟩
    rw [h2, List.drop_append, List.take_append]
    have e2 : sz - (xs.drop (i * sz)).length = 0 := by simp; omega
    rw [e2]; simp
  · have : Nat.blt i n = false := by
      cases hb : Nat.blt i n with
      | false => rfl
      | true => simp at hb; omega
    rw [this, cond_false]
    obtain ⟨h1, h2⟩ := h' (i - n) (by omega)
    refine ⟨h1, ?_⟩
    have hmul : n * sz ≤ i * sz := Nat.mul_le_mul_right _ hge
    rw [h2, List.drop_append, List.drop_of_length_le (show xs.length ≤ i * sz by omega), hl, ← Nat.sub_mul]
    simp

/-- What may be grown is the call's own row. -/
theorem own_ok (hH : HOk ρ w H) {el sz : Nat} {v : SV} {x : Value} (hx : den ρ v = some x) {n : Nat} {get : Nat → List SV} {ho : Option Nat} (h : ownOf H el sz v = some (n, get, ho)) :
    (∃ xs, w.ownsRow 0 el sz x n xs ∧ ∀ i, i < n → (get i).length = sz ∧ denL ρ (get i) = some ((xs.drop (i * sz)).take sz)) ∧ (ho = none → x = .slice none 0 0 ∧ n = 0) ∧
      (∀ g, ho = some g → ∃ hv o0, lk g H = some o0 ∧ o0.mine = true ∧ ρ g = some hv ∧ ∀ k, x.ownBlock = some k → o0.fp w hv k) ∧ ∃ a c, x = .slice a n c ∧ n ≤ c := by
  cases v <;> simp only [ownOf] at h
  case nils =>
    cases h
    simp only [den, Option.some.injEq] at hx
    subst hx
    exact ⟨⟨[], World.ownsRow_nil w 0 el sz, fun i hi => absurd hi (Nat.not_lt_zero _)⟩, fun _ => ⟨rfl, rfl⟩, fun g e => (by cases e), _, _, rfl, Nat.le_refl _⟩
  case r g =>
    split at h
    case h_2 => cases h
    rename_i t s m g' hl
    split at h
    case h_2 => cases h
    rename_i hs
    simp only [Bool.and_eq_true] at hs
    have h1 := Nat.eq_of_beq_eq_true hs.1
    have h2 := Nat.eq_of_beq_eq_true hs.2
    subst h1
    subst h2
    cases h
    obtain ⟨hv, hr, hrep⟩ := hH g _ hl
    obtain ⟨a, c, rfl, hrow⟩ := row_is hrep rfl
    obtain ⟨_, xs, hown, hg⟩ := hrep
    simp only [den, hr, Option.some.injEq] at hx
    subst hx
    refine ⟨⟨xs, hown, hg⟩, fun e => (by cases e), fun g0 e => ?_, _, _, rfl, hrow.le⟩
    cases e
    refine ⟨_, _, hl, rfl, hr, fun k hk => ?_⟩
    cases a with
    | none => cases hk
    | some ad => cases hk; exact ⟨ad, rfl, rfl⟩
  case sl g o m c =>
    split at h
    case h_2 => cases h
    rename_i l t hl
    split at h
    case h_2 => cases h
    rename_i hc
    simp only [Bool.and_eq_true] at hc
    obtain ⟨h1, h2, h3, h4, h5⟩ := hc
    have h1 := Nat.eq_of_beq_eq_true h1
    have h2 := Nat.eq_of_beq_eq_true h2
    have h3 := Nat.eq_of_beq_eq_true h3
    have h4 := Nat.le_of_ble_eq_true h4
    have h5 := Nat.le_of_ble_eq_true h5
    subst h1
    subst h2
    cases h
    obtain ⟨hv, hr, hrep⟩ := hH g _ hl
    cases hv with
    | rw a n c => exact hrep.elim
    | blk b =>
      obtain ⟨cs, hd, hb⟩ := hrep
      have hlen := denL_length hd
      simp only [den, hr, Option.some.injEq] at hx
      subst hx
      have hmul : n * sz ≤ c * sz := Nat.mul_le_mul_right _ h4
      refine ⟨⟨cs.take (n * sz), ⟨by simp; omega, .inr ⟨b, c, cs.toArray, rfl, Nat.zero_le _, hb, h4, by simp only [maxLen]; omega, by simp; omega, by simp⟩⟩, fun i hi => ?_⟩, fun e => (by cases e), fun g0 e => ?_, _, _, rfl, h4⟩
      · have hmul : (i + 1) * sz ≤ n * sz := Nat.mul_le_mul_right _ hi
        rw [Nat.add_mul, Nat.one_mul] at hmul
        refine ⟨by simp; omega, ?_⟩
        have := denL_take (ρ := ρ) sz (denL_drop (i * sz) hd)
        rw [this]
        congr 1
        rw [List.drop_take, List.take_take]
        congr 1
        omega
      · cases e
        exact ⟨_, _, hl, rfl, hr, fun k hk => (by cases hk; rfl)⟩
  all_goals cases h

theorem upd_grown {F : Nat → Prop} {w' : World} {row : Option Nat} (h : w.grownBy w' row) (hr : ∀ k, row = some k → F k) : Upd F w w' :=
  ⟨h.os, h.tape, h.output, h.size, fun k hk hF => h.block k hk fun e => hF (hr k e.symm)⟩

theorem xappend_ok (hP : TabOk P tb) (hH : HOk ρ w H) (hn : ρ nx = none) (t ty : Nat) {u v : SV} {x y : Value} (hx : den ρ u = some x) (hy : den ρ v = some y) :
    RunOk ρ w H nx ((do pure (Next.value (← Builtin.append_ #[t, t] ty #[x, y])) : Sem Next).run P w) (xappend tb H nx t u v) := by
  unfold xappend
  cases hti : tb.ti t with
  | none => trivial
  | some i =>
    obtain ⟨d, hu, hfit⟩ := (hP.ti t i hti).und
    simp only []
    split <;> try trivial
    rename_i el hk
    rw [hk] at hfit
    cases d <;> simp only [TK.fits] at hfit
    subst hfit
    cases hei : tb.ti el with
    | none => trivial
    | some ei =>
      simp only []
      split <;> try trivial
      rename_i n g ho p m g' hsz hown hsrc
      have hsz : 0 < ei.size := by simpa using hsz
      have heiok := hP.ti el ei hei
      obtain ⟨inf, z, hinf, hsize, hby, hz, hzd, hzl⟩ := heiok.info
      have hzs : z.cells.size = ei.size := by have := denL_length hzd; simp at this; omega
      obtain ⟨⟨xs, hownx, hgx⟩, hno, hsome, ax, cx, ex, hncx⟩ := own_ok hH hx hown
      -- what comes out, whatever the source
      have run : p → OneG m g' → n + m ≤ 9223372036854775807 → (n + m) * ei.bytes ≤ 140737488355328 → ∃ a' c' w' xs', (Builtin.append_ #[t, t] ty #[x, y]).run P w = .ok (.slice a' (n + m) c') w' ∧ w'.ownsRow 0 el ei.size (.slice a' (n + m) c') (n + m) xs' ∧ w.grownBy w' x.ownBlock ∧
          (∀ ad, a' = some ad → (x.ownBlock = some ad.block ∨ w.heap.size ≤ ad.block) ∧ ad.block < w'.heap.size) ∧
          (∀ i, i < n + m → (catG n g g' i).length = ei.size ∧ denL ρ (catG n g g' i) = some ((xs'.drop (i * ei.size)).take ei.size)) := fun hp hone h63 hbytes => by
        obtain ⟨a, c, rfl, hz0, hat⟩ := (src_ok hH hy hsrc hp).is
        obtain ⟨news, hnl, hnc, hnd⟩ := src_cells hz0 hat
        have h1 : ∀ u ∈ news, u.oneCell' = true := fun u hu => by
          obtain ⟨j, hj, rfl⟩ := List.mem_iff_getElem.1 hu
          have hjm : j / ei.size < m := (Nat.div_lt_iff_lt_mul hsz).2 (by omega)
          refine allOne_ok (hone _ hjm) (hnd _ hjm) _ ?_
          have hmod := Nat.mod_lt j hsz
          have hdm := Nat.div_add_mod j ei.size
          rw [Nat.mul_comm] at hdm
          refine List.mem_of_getElem? (i := j % ei.size) ?_
          rw [List.getElem?_take, if_pos hmod, List.getElem?_drop, hdm, List.getElem?_eq_getElem hj]
        have hcat := own_take (ρ := ρ) hownx.1 hnl hgx (fun i hi => ⟨(hat i hi).1, hnd i hi⟩)
        have hm : n + m ≤ maxLen := by simp only [maxLen]; omega
        have fresh : ∀ {w' : World} {v' : Value} {xs' : List Value}, w'.ownsRow w.heap.size el ei.size v' (n + m) xs' → ∃ a' c', v' = .slice a' (n + m) c' ∧ w'.ownsRow 0 el ei.size (.slice a' (n + m) c') (n + m) xs' ∧ ∀ ad, a' = some ad → w.heap.size ≤ ad.block ∧ ad.block < w'.heap.size := fun {w' v' xs'} ho' => by
          have hlt := ho'.lt
          obtain ⟨hl, h2⟩ := ho'
          rcases h2 with ⟨e, e2⟩ | ⟨g, cap, cur, e, hb, hr⟩
          · exact ⟨none, 0, by rw [e, e2], ⟨hl, .inl ⟨by rw [e2], e2⟩⟩, fun ad e => by cases e⟩
          · subst e
            exact ⟨_, _, rfl, ⟨hl, .inr ⟨g, cap, cur, rfl, Nat.zero_le _, hr⟩⟩, fun ad e => by cases e; exact hlt g rfl⟩
        cases a with
        | none =>
          have := hz0 rfl
          subst this
          have : news = [] := List.eq_nil_of_length_eq_zero (by simpa using hnl)
          subst this
          subst ex
          refine ⟨ax, cx, w, xs, run_append_nilsrc t ty el hu heiok ax n cx c hncx, by simpa using hownx, ⟨rfl, rfl, rfl, Nat.le_refl _, fun _ _ _ => rfl⟩, fun ad e => ?_, by simpa using hcat⟩
          subst e
          exact ⟨.inl rfl, (hownx.lt ad.block rfl).2⟩
        | some ad =>
          rcases hownx.2 with ⟨e, e2⟩ | ⟨b, cap, cur, e, _, hb, hle, hcm, hcs, htake⟩
          · -- nothing was there
            subst e
            obtain ⟨v', w', hrun, ho', hgr, _⟩ := run_append_own (P := P) w w.heap.size t ty el inf z ei.size ei.bytes hu hinf hz hsize hby hzs hsz (.slice none 0 0) n xs ⟨hownx.1, .inl ⟨rfl, e2⟩⟩ ad m c news hnl (hnc ad rfl) h1 hm hbytes (Nat.le_refl _)
            obtain ⟨a', c', rfl, h3, h4⟩ := fresh ho'
            exact ⟨a', c', w', _, hrun, h3, hgr, fun ad e => ⟨.inr (h4 ad e).1, (h4 ad e).2⟩, hcat⟩
          · subst e
            by_cases hroom : n + m ≤ cap
            · obtain ⟨w', hrun, ho', hgr⟩ := run_append_fits (P := P) w 0 t ty el inf ei.size hu hinf hsize b n cap xs hownx ad m c news hnl (hnc ad rfl) h1 hroom
              exact ⟨_, _, w', _, hrun, ho', hgr, fun ad e => by cases e; exact ⟨.inl rfl, (ho'.lt b rfl).2⟩, hcat⟩
            · obtain ⟨v', w', hrun, ho', hgr⟩ := run_append_arg_grows (P := P) w t ty el inf z ei.size ei.bytes hu hinf hz hsize hby hzs hsz ⟨b, 0, none⟩ n cap xs hownx.1 (hownx.cells rfl) ad m c news hnl (hnc ad rfl) (by omega) hm hbytes
              obtain ⟨a', c', rfl, h3, h4⟩ := fresh ho'
              exact ⟨a', c', w', _, hrun, h3, ⟨hgr.os, hgr.tape, hgr.output, hgr.size, fun k hk _ => hgr.block k hk (by simp)⟩, fun ad e => ⟨.inr (h4 ad e).1, (h4 ad e).2⟩, hcat⟩
      have grow : ∀ h', RunOk ρ w H nx ((do pure (Next.value (← Builtin.append_ #[t, t] ty #[x, y])) : Sem Next).run P w) (match ho with
            | some h => match Nat.beq h h' with
              | true => .no "a row behind itself"
              | false => .ob (p ∧ OneG m g' ∧ (n + m) * 1 ≤ 9223372036854775807 ∧ (n + m) * ei.bytes ≤ 140737488355328) (.mv (.r nx) h (.own el ei.size (n + m) (catG n g g')))
            | none => .ob (p ∧ OneG m g' ∧ m * 1 ≤ 9223372036854775807 ∧ m * ei.bytes ≤ 140737488355328) (.new (.r nx) (.own el ei.size m g'))) := fun h' => by
        cases ho with
        | some h =>
          simp only []
          split
          · trivial
          · rintro ⟨hp, hone, h63, hbytes⟩
            obtain ⟨a', c', w', xs', hrun, ho', hgr, hfp, hcat⟩ := run hp hone (by omega) hbytes
            obtain ⟨hv0, o0, h1, h2, h3, h4⟩ := hsome h rfl
            refine ⟨hv0, o0, .rw a' (n + m) c', _, w', h1, h2, h3, by simp only [Sem.run_bind, hrun, Result.andThen_ok]; rfl, by simp only [den, Vl.upd_same], upd_grown hgr h4, ⟨rfl, xs', ho', fun i hi => ⟨(hcat i hi).1, denL_mono (Vl.le_upd hn) _ _ (hcat i hi).2⟩⟩, rfl, fun k hk => ?_⟩
            obtain ⟨ad, e, rfl⟩ := hk
            exact ⟨(hfp ad e).1.imp_left (h4 _), (hfp ad e).2⟩
        | none =>
          obtain ⟨ex', rfl⟩ := hno rfl
          rintro ⟨hp, hone, h63, hbytes⟩
          obtain ⟨a', c', w', xs', hrun, ho', hgr, hfp, hcat⟩ := run hp hone (by omega) (by simpa using hbytes)
          rw [Nat.zero_add] at hrun ho' hcat
          rw [ex'] at hgr hfp
          refine ⟨_, w', by simp only [Sem.run_bind, hrun, Result.andThen_ok]; rfl, .rw a' m c', by simp only [den, Vl.upd_same], ⟨hgr.os, hgr.tape, hgr.output, hgr.size, fun k hk => hgr.block k hk (by simp [Value.ownBlock])⟩, ⟨rfl, xs', ho', fun i hi => ?_⟩, fun k hk => ?_⟩
          · have h5 := hcat i hi
            have : Nat.blt i 0 = false := rfl
            simp only [catG, this, cond_false, Nat.sub_zero] at h5
            exact ⟨h5.1, denL_mono (Vl.le_upd hn) _ _ h5.2⟩
          · obtain ⟨ad, e, rfl⟩ := hk
            obtain ⟨h5, h6⟩ := hfp ad e
            rcases h5 with h5 | h5
            · cases h5
            · exact ⟨h5, h6⟩
      split
      · simp only [srcOf, Option.some.injEq, Prod.mk.injEq] at hsrc
        obtain ⟨-, rfl, -⟩ := hsrc
        simp only [den, Option.some.injEq] at hy
        subst hy
        subst ex
        refine ⟨_, hx, ?_⟩
        simp only [Sem.run_bind, run_append_nilsrc t ty el hu heiok ax n cx 0 hncx, Result.andThen_ok]
        rfl
      · exact grow _
      · exact grow _
      · exact grow _
      · trivial
end
end Go.Sx

namespace Go.Sx
open Go.RowKit
set_option linter.unusedVariables false
set_option linter.unusedSimpArgs false
section
variable {P : Program} {tb : Tab} {ρ : Vl} {w : World} {H : List (Nat × SO)} {nx : Nat}

/-! ### slices -/
def BndIs (d : Nat) (x : Option Value) (l : Nat) : Prop := (x = none ∧ l = d) ∨ ∃ k, x = some (.int k (l : Int))
theorem bnd_ok {e : Operand → Option SV} {f : Operand → Value} (he : EOk ρ e f) {d : Nat} {o : Option Operand} {l : Int} (h : bnd d e o = some l) (h0 : 0 ≤ l) : BndIs d (o.map f) l.toNat := by
  cases o with
  | none => simp only [bnd, Option.some.injEq] at h; subst h; exact .inl ⟨rfl, by simp⟩
  | some o =>
    simp only [bnd] at h
    split at h
    case h_2 => cases h
    rename_i v hv
    obtain ⟨⟨k, z⟩, h1, h2⟩ := Option.map_eq_some_iff.1 h
    have := asI_ok h1 (he o v hv)
    simp only at h2
    subst h2
    exact .inr ⟨k, by simp only [Option.map_some, this]; rw [Int.toNat_of_nonneg h0]⟩

theorem bounds_ok (s : Bool) (len cap : Nat) {lo hi : Option Value} {l h : Nat} (hlo : BndIs 0 lo l) (hhi : BndIs len hi h) (h1 : l ≤ h) (h2 : h ≤ cap) :
    (Instr.sliceBounds s len cap lo hi none).run P w = .ok (l, h, cap) w := by
  have e1 : (0 : Int) ≤ l := by omega
  have e2 : (0 : Int) ≤ h := by omega
  have e3 : (l : Int) ≤ h := by omega
  have e4 : (h : Int) ≤ cap := by omega
  have e5 : (l : Int) ≤ cap := by omega
  rcases hlo with ⟨rfl, rfl⟩ | ⟨k, rfl⟩ <;> rcases hhi with ⟨rfl, rfl⟩ | ⟨k', rfl⟩ <;> simp [Instr.sliceBounds, run_sliceBound, *]

theorem xslice_ok (hP : TabOk P tb) (hH : HOk ρ w H) {e : Operand → Option SV} {f : Operand → Value} (he : EOk ρ e f) (t : Nat) {u : SV} {x : Value} (hx : den ρ u = some x) (lo hi : Option Operand) :
    RunOk ρ w H nx ((do pure (Next.value (← Instr.sliceAt t x (lo.map f) (hi.map f) none)) : Sem Next).run P w) (xslice tb H e t u lo hi) := by
  unfold xslice
  cases hti : tb.ti t with
  | none => trivial
  | some i =>
    obtain ⟨d, hu, hfit⟩ := (hP.ti t i hti).und
    simp only []
    split <;> try trivial
    · -- a text
      rename_i s hk
      rw [hk] at hfit
      cases d <;> simp only [TK.fits] at hfit
      split <;> try trivial
      rename_i l h hl hh
      rintro ⟨h0, h1, h2⟩
      simp only [den, Option.some.injEq] at hx
      subst hx
      have b1 := bnd_ok (d := 0) he hl h0
      have b2 := bnd_ok (d := s.size) he hh (by omega)
      refine ⟨_, rfl, ?_⟩
      simp [Instr.sliceAt, run_underlying hu, Instr.slice, bounds_ok (P := P) (w := w) false s.size s.size b1 b2 (by omega) (by omega)]
    · -- a row
      rename_i el g hk
      rw [hk] at hfit
      cases d <;> simp only [TK.fits] at hfit
      subst hfit
      split <;> try trivial
      rename_i ei sz n get hei hrow
      split <;> try trivial
      rename_i l h hsz hl hh
      have := Nat.eq_of_beq_eq_true hsz
      subst this
      rintro ⟨h0, h1, h2⟩
      obtain ⟨a, c, hr, hrw⟩ := row_lk hH hrow
      have hle := hrw.le
      simp only [den, hr, Option.some.injEq] at hx
      subst hx
      have b1 := bnd_ok (d := 0) he hl h0
      have b2 := bnd_ok (d := n) he hh (by omega)
      refine ⟨_, by simp only [den, hr]; rfl, ?_⟩
      simp [Instr.sliceAt, run_underlying hu, Instr.slice, bounds_ok (P := P) (w := w) true n c b1 b2 (by omega) (by omega), (hP.ti el ei hei).size w]
    · -- a part of a row
      rename_i el g m sz' hk
      rw [hk] at hfit
      cases d <;> simp only [TK.fits] at hfit
      subst hfit
      split <;> try trivial
      rename_i ei sz n get hei hrow
      split <;> try trivial
      rename_i l h hsz hl hh
      simp only [Bool.and_eq_true] at hsz
      have e1 := Nat.eq_of_beq_eq_true hsz.1
      have e2 := Nat.eq_of_beq_eq_true hsz.2
      subst e1
      subst e2
      rintro ⟨h0, h1, h2⟩
      obtain ⟨a, c, hr, hrw⟩ := row_lk hH hrow
      have hle := hrw.le
      simp only [den, hr, Option.some.injEq] at hx
      have b1 := bnd_ok (d := 0) he hl h0
      have b2 := bnd_ok (d := m) he hh (by omega)
      have hx : x = .slice a m c := by
        rw [← hx]
        by_cases hc : c = 0
        · simp [hc]
        · simp only [hc, if_false, Nat.zero_mul, Nat.sub_zero]
          cases a with
          | none => rfl
          | some ad => simp [Addr.add]
      subst hx
      refine ⟨_, by simp only [den, hr]; rfl, ?_⟩
      simp [Instr.sliceAt, run_underlying hu, Instr.slice, bounds_ok (P := P) (w := w) true m c b1 b2 (by omega) (by omega), (hP.ti el ei hei).size w]
    · -- cells
      rename_i el g o n c hk
      rw [hk] at hfit
      cases d <;> simp only [TK.fits] at hfit
      subst hfit
      split <;> try trivial
      rename_i ei l h hei hl hh
      split <;> try trivial
      rename_i hc
      simp only [Bool.and_eq_true] at hc
      have e1 := Nat.le_of_ble_eq_true hc.1
      have e2 := Nat.le_of_ble_eq_true hc.2
      simp only [den] at hx
      split at hx
      case h_2 => cases hx
      rename_i b hb
      cases hx
      have b1 := bnd_ok (d := 0) he hl (by simp)
      have b2 := bnd_ok (d := n) he hh (by simp)
      simp only [Int.ofNat_eq_natCast, Int.toNat_natCast] at b1 b2
      refine ⟨_, by simp only [den, hb]; rfl, ?_⟩
      simp [Instr.sliceAt, run_underlying hu, Instr.slice, bounds_ok (P := P) (w := w) true n c b1 b2 e1 e2, (hP.ti el ei hei).size w]
      by_cases hcl : c = l
      · subst hcl; simp
      · have : Nat.beq c l = false := by
          cases hb' : Nat.beq c l with
          | false => rfl
          | true => exact absurd (Nat.eq_of_beq_eq_true hb') hcl
        rw [if_neg hcl, this, cond_false, addr0]
    · -- an array
      rename_i n el g o hk
      rw [hk] at hfit
      cases d <;> simp only [TK.fits] at hfit
      obtain ⟨rfl, rfl⟩ := hfit
      split <;> try trivial
      rename_i ei l h hei hl hh
      split <;> try trivial
      rename_i hc
      simp only [Bool.and_eq_true] at hc
      have e1 := Nat.le_of_ble_eq_true hc.1
      have e2 := Nat.le_of_ble_eq_true hc.2
      simp only [den] at hx
      split at hx
      case h_2 => cases hx
      rename_i b hb
      cases hx
      have b1 := bnd_ok (d := 0) he hl (by simp)
      have b2 := bnd_ok (d := n) he hh (by simp)
      simp only [Int.ofNat_eq_natCast, Int.toNat_natCast] at b1 b2
      refine ⟨_, by simp only [den, hb]; rfl, ?_⟩
      simp [Instr.sliceAt, run_underlying hu, Instr.sureAddr, bounds_ok (P := P) (w := w) false n n b1 b2 e1 e2, (hP.ti el ei hei).size w]
      by_cases hcl : n = l
      · subst hcl; simp
      · have : Nat.beq n l = false := by
          cases hb' : Nat.beq n l with
          | false => rfl
          | true => exact absurd (Nat.eq_of_beq_eq_true hb') hcl
        rw [if_neg hcl, this, cond_false, addr0]

/-! ### texts of bytes -/
theorem xconv_ok (hP : TabOk P tb) (hH : HOk ρ w H) (src dst : Nat) {u : SV} {x : Value} (hx : den ρ u = some x) :
    RunOk ρ w H nx ((do pure (Next.value (← convert src dst x)) : Sem Next).run P w) (xconv tb H src dst u) := by
  unfold xconv
  split <;> try trivial
  rename_i i j hi hj
  split <;> try trivial
  rename_i el hki hkj
  split <;> try trivial
  rename_i ei hei
  split <;> try trivial
  rename_i hke
  split <;> try trivial
  rename_i p n g hsrc
  rintro ⟨hp, hg⟩
  obtain ⟨d1, hu1, hf1⟩ := (hP.ti src i hi).und
  obtain ⟨d2, hu2, hf2⟩ := (hP.ti dst j hj).und
  obtain ⟨d3, hu3, hf3⟩ := (hP.ti el ei hei).und
  rw [hki] at hf1
  rw [hkj] at hf2
  rw [hke] at hf3
  cases d1 <;> simp only [TK.fits] at hf1
  cases d2 <;> simp only [TK.fits] at hf2
  cases d3 <;> simp only [TK.fits] at hf3
  subst hf1
  subst hf3
  obtain ⟨a, c, rfl, hz, hat⟩ := (src_ok hH hx hsrc hp).is
  refine ⟨_, rfl, ?_⟩
  have hb : ∀ i, i < n → ∃ b : UInt8, byteAt (g i) = b ∧ denL ρ (g i) = some [.int .u8 (b.toNat : Int)] := fun i hi => by
    obtain ⟨z, hz, h | h⟩ := hg i hi
    · refine ⟨z.toUInt8, by rw [h]; simp [byteAt], ?_⟩
      rw [h]; simp only [denL, den]
      have : (z.toUInt8).toNat = z := by simp; omega
      rw [this]
    · refine ⟨z.toUInt8, by rw [h]; simp [byteAt], ?_⟩
      rw [h]; simp only [denL, den]
      have : (z.toUInt8).toNat = z := by simp; omega
      rw [this]
  have hrun : (convert src dst (.slice a n c)).run P w = .ok (.string (bytesOf n g)) w := by
    cases a with
    | none =>
      have := hz rfl
      subst this
      rw [run_convert_bytes_nil w src el hu1 hu3 0 c dst hu2]
      rfl
    | some ad =>
      have := run_convert_bytes_back (P := P) w src dst el ad c ((List.range n).map fun i => byteAt (g i)) hu1 hu3 hu2 (fun j hj => by
        have hjn : j < n := by simpa using hj
        obtain ⟨_, ad', xs, e, hd, hc⟩ := hat j hjn
        cases e
        obtain ⟨b, h1, h2⟩ := hb j hjn
        rw [hd] at h2
        cases h2
        have := hc 0 _ rfl
        simp only [Nat.mul_one, Nat.add_zero] at this
        rw [this]
        simp [h1])
      simp only [List.length_map, List.length_range] at this
      exact this
  simp only [Sem.run_bind, hrun, Result.andThen_ok]
  rfl

/-! ### make -/
theorem xmake_ok (hP : TabOk P tb) (hn : ρ nx = none) (t : Nat) {u v : SV} {x y : Value} (hx : den ρ u = some x) (hy : den ρ v = some y) :
    RunOk ρ w H nx ((do pure (Next.value (← Instr.makeSlice t x y)) : Sem Next).run P w) (xmake tb nx t u v) := by
  unfold xmake
  cases hti : tb.ti t with
  | none => trivial
  | some i =>
    obtain ⟨d, hu, hfit⟩ := (hP.ti t i hti).und
    simp only []
    split <;> try trivial
    rename_i el hk
    rw [hk] at hfit
    cases d <;> simp only [TK.fits] at hfit
    subst hfit
    split <;> try trivial
    rename_i ei k l k' c hei
    split <;> try trivial
    rename_i hc
    simp only [Bool.and_eq_true] at hc
    obtain ⟨h1, h2, h3, h4⟩ := hc
    have h1 := Nat.le_of_ble_eq_true h1
    have h2 := Nat.le_of_ble_eq_true h2
    have h3 := Nat.le_of_ble_eq_true h3
    have h4 := Nat.le_of_ble_eq_true h4
    obtain ⟨inf, z, hinf, hsize, hby, hz, hzd, hzl⟩ := (hP.ti el ei hei).info
    simp only [den, Option.some.injEq] at hx hy
    subst hx
    subst hy
    have hrun := run_make (P := P) w t el inf z hu hinf hz k k' l c (by omega) (by omega) (by rw [hby]; have : ((ei.bytes * c : Nat) : Int) ≤ 281474976710656 := by omega
                                                                                              rwa [Int.natCast_mul] at this) (by omega)
    simp only [Int.toNat_natCast] at hrun
    obtain ⟨ys, hd, hyl, hyj⟩ := denL_zeros (ρ := ρ) (denL_mono (Vl.none_le ρ) _ _ hzd) c
    have hzs := denL_length hzd
    simp only [Array.length_toList] at hzs
    have hrz : madeCells z.cells (c * inf.size) = ys.toArray := by
      unfold madeCells
      refine range_zero z.cells _ ys (by rw [hyl]; simp [hzs, hzl, hsize]) fun j hj => ?_
      have := hyj j (by rw [hsize] at hj; simpa [hzs, hzl] using hj)
      simpa using this
    rw [hrz] at hrun
    obtain ⟨hv, _, hb, hrep, hfp⟩ := new_cells (w := w) (ty := el) hd hn
    refine ⟨_, _, by simp only [Sem.run_bind, Int.ofNat_eq_natCast, hrun, Result.andThen_ok]; rfl, .blk w.heap.size, by simp only [den, Vl.upd_same], below_alloc1 w _, ⟨ys, denL_mono (Vl.le_upd hn) _ _ hd, heap_alloc_new w _⟩, ?_⟩
    intro k hk
    simp only [SO.fp] at hk
    subst hk
    simp

/-! ### stores into rows -/
theorem spl_get {α : Type} {xs v : List α} {p : Nat} (h : p + v.length ≤ xs.length) (m : Nat) : (xs.take p ++ (v ++ xs.drop (p + v.length)))[m]? = if m < p then xs[m]? else if m < p + v.length then v[m - p]? else xs[m]? := by
  have hp : (xs.take p).length = p := by simp; omega
  rw [List.getElem?_append, hp]
  split
  · rename_i h1; rw [List.getElem?_take, if_pos h1]
  · rename_i h1
    rw [List.getElem?_append]
    split
    · rename_i h2; rw [if_pos (by omega)]
    · rename_i h2; rw [if_neg (by omega), List.getElem?_drop]; congr 1; omega
theorem blk_get {α : Type} (xs : List α) (a sz q : Nat) : ((xs.drop a).take sz)[q]? = if q < sz then xs[a + q]? else none := by
  rw [List.getElem?_take]
  split
  · rw [List.getElem?_drop]
  · rfl

theorem xstoreR_ok {t : Nat} {i : Ti} (hi : TiOk P t i) (hH : HOk ρ w H) {h j sz o : Nat} {v : SV} {x y : Value} (hx : den ρ (.pr h j sz o) = some x) (hy : den ρ v = some y) :
    RunOk ρ w H nx ((do Instr.storeAt t x y; pure Next.skip : Sem Next).run P w) (xstoreR i H h j sz o v) := by
  unfold xstoreR
  split <;> try trivial
  rename_i ty sz' n get hl
  split <;> try trivial
  rename_i hc
  simp only [Bool.and_eq_true] at hc
  obtain ⟨h0, h1, h2, h3⟩ := hc
  have := Nat.eq_of_beq_eq_true h0
  subst this
  have h1 := Nat.eq_of_beq_eq_true h1
  have h2 := Nat.le_of_ble_eq_true h2
  intro hj
  obtain ⟨hv, hr, hrep⟩ := hH h _ hl
  cases hv with
  | blk b => exact hrep.elim
  | rw a n' c =>
    obtain ⟨rfl, xs, hown, hg⟩ := hrep
    have hown' := hown
    obtain ⟨hlen, ⟨e, rfl⟩ | ⟨b, cap, cur, e, hb0, hb, hle, hcm, hcs, htake⟩⟩ := hown'
    · omega
    · cases e
      simp only [den, hr] at hx
      cases hx
      have hcv := cells_ok hy
      have hlv := denL_length hcv
      simp only [Array.length_toList] at hlv
      have hmul : (j + 1) * sz ≤ n' * sz := Nat.mul_le_mul_right _ hj
      rw [Nat.add_mul, Nat.one_mul] at hmul
      have hmul2 : n' * sz ≤ c * sz := Nat.mul_le_mul_right _ hle
      have hst := run_storeCells_at (P := P) b (j * sz + o) ty y.cells.toList 0 cur w hb (by simp; omega) (allOne_ok h3 hcv)
      have hrun : (storeVar t ((⟨b, 0, none⟩ : Addr).add (j * sz + o)) y).run P w = .ok () (w.setRow b (cur.toList.take (j * sz + o) ++ y.cells.toList ++ cur.toList.drop (j * sz + o + y.cells.toList.length)).toArray) := by
        unfold storeVar
        rw [Sem.run_bind, hi.size w]
        simp only [Result.andThen_ok]
        rw [if_neg (by omega), addr0, Nat.zero_add]
        simpa using hst
      have hlt : b < w.heap.size := (Array.getElem?_eq_some_iff.1 hb).1
      have hxl : xs.length = n' * sz := hlen
      have hcl : cur.size = c * sz := hcs
      have hupd : Upd (SO.fp w (.own ty sz n' get) (.rw (some ⟨b, 0, none⟩) n' c)) w (w.setRow b (cur.toList.take (j * sz + o) ++ y.cells.toList ++ cur.toList.drop (j * sz + o + y.cells.toList.length)).toArray) :=
        ⟨rfl, rfl, rfl, by simp, fun k hk hF => setRow_other w b k _ (fun e => hF ⟨_, rfl, e⟩)⟩
      have hcells : ∀ k, k < n' → ((fun k => bif Nat.beq k j then splice (get j) o (cellsOf v) else get k) k).length = sz ∧ denL ρ ((fun k => bif Nat.beq k j then splice (get j) o (cellsOf v) else get k) k) = some (((xs.take (j * sz + o) ++ (y.cells.toList ++ xs.drop (j * sz + o + y.cells.toList.length))).drop (k * sz)).take sz) := by
        intro k hk
        have hk2 : (k + 1) * sz ≤ n' * sz := Nat.mul_le_mul_right _ hk
        rw [Nat.add_mul, Nat.one_mul] at hk2
        obtain ⟨g1, g2⟩ := hg k hk
        by_cases e : k = j
        · subst e
          simp only [Nat.beq_refl, cond_true]
          refine ⟨by unfold splice; simp [g1]; omega, ?_⟩
          rw [denL_splice o g2 hcv]
          congr 1
          apply List.ext_getElem?
          intro q
          rw [spl_get (by simp [hxl]; omega), blk_get, blk_get, spl_get (by simp [hxl]; omega)]
          simp only [Array.length_toList, hlv]
          by_cases q0 : q < sz
          · simp only [q0, if_true]
            by_cases q1 : q < o
            · rw [if_pos q1, if_pos (by omega)]
            · by_cases q2 : q < o + y.cells.size
              · rw [if_neg q1, if_pos (by omega), if_neg (by omega), if_pos (by omega)]; congr 1; omega
              · rw [if_neg q1, if_neg (by omega), if_neg (by omega), if_neg (by omega)]
          · simp only [q0, if_false]
            rw [if_neg (by omega), if_neg (by omega)]
        · have hb' : Nat.beq k j = false := by
            cases hb' : Nat.beq k j with
            | false => rfl
            | true => exact absurd (Nat.eq_of_beq_eq_true hb') e
          simp only [hb', cond_false]
          refine ⟨g1, ?_⟩
          rw [g2]
          congr 1
          apply List.ext_getElem?
          intro q
          rw [blk_get, blk_get, spl_get (by simp [hxl]; omega)]
          simp only [Array.length_toList, hlv]
          by_cases q0 : q < sz
          · simp only [q0, if_true]
            rcases Nat.lt_or_gt_of_ne e with hkj | hkj
            · have : (k + 1) * sz ≤ j * sz := Nat.mul_le_mul_right _ hkj
              rw [Nat.add_mul, Nat.one_mul] at this
              rw [if_pos (by omega)]
            · have : (j + 1) * sz ≤ k * sz := Nat.mul_le_mul_right _ hkj
              rw [Nat.add_mul, Nat.one_mul] at this
              rw [if_neg (by omega), if_neg (by omega)]
          · simp only [q0, if_false]
      refine ⟨_, _, _, hl, rfl, hr, ?_, hupd, ⟨rfl, xs.take (j * sz + o) ++ (y.cells.toList ++ xs.drop (j * sz + o + y.cells.toList.length)), ⟨?_, .inr ⟨b, c, _, rfl, hb0, setRow_heap w b _ _ ty _ hb, hle, hcm, ?_, ?_⟩⟩, hcells⟩, rfl, ?_⟩
      · simp only [Instr.storeAt, Instr.sureAddr, Sem.run_bind, Sem.run_pure, Result.andThen_ok, hrun]
      · simp; omega
      · simp; omega
      · rw [← htake]
        apply List.ext_getElem?
        intro q
        simp only [List.append_assoc]
        rw [List.getElem?_take, spl_get (by simp; omega), spl_get (by simp; omega)]
        simp only [List.getElem?_take]
        simp only [Array.length_toList, hlv]
        by_cases q0 : q < n' * sz
        · simp only [q0, if_true]
        · simp only [q0, if_false]
          rw [if_neg (by omega), if_neg (by omega)]
      · intro k hk
        obtain ⟨ad, e, rfl⟩ := hk
        cases e
        exact ⟨.inl ⟨_, rfl, rfl⟩, by simpa using hlt⟩

/-! ### smaller, greater -/
theorem minmax_min {u v : SV} {x y : Value} (hx : den ρ u = some x) (hy : den ρ v = some y) (ts : Array TypeId) (t : TypeId) : RunOk ρ w H nx ((do pure (Next.value (← Builtin.min_ ts t #[x, y])) : Sem Next).run P w) (minmax min u v) := by
  unfold minmax
  split <;> try trivial
  rename_i k a k' b h1 h2
  split <;> try trivial
  have e1 := asI_ok h1 hx
  have e2 := asI_ok h2 hy
  subst e1
  subst e2
  refine ⟨_, rfl, ?_⟩
  simp only [Sem.run_bind, run_min_int2, Result.andThen_ok]
  have : (if b < a then b else a) = min a b := by split <;> omega
  rw [this]; rfl
theorem minmax_max {u v : SV} {x y : Value} (hx : den ρ u = some x) (hy : den ρ v = some y) (ts : Array TypeId) (t : TypeId) : RunOk ρ w H nx ((do pure (Next.value (← Builtin.max_ ts t #[x, y])) : Sem Next).run P w) (minmax max u v) := by
  unfold minmax
  split <;> try trivial
  rename_i k a k' b h1 h2
  split <;> try trivial
  have e1 := asI_ok h1 hx
  have e2 := asI_ok h2 hy
  subst e1
  subst e2
  refine ⟨_, rfl, ?_⟩
  simp only [Sem.run_bind, run_max_int2, Result.andThen_ok]
  have : (if b > a then b else a) = max a b := by split <;> omega
  rw [this]; rfl

/-! ### maps -/
/-- One key held against the map's keys, told by a truth. -/
theorem run_findAsking {kt : TypeId} {key : Value} (q : Value → Bool) : ∀ (l : List MapEntry) (i : Nat), (∀ e ∈ l, (Op.equal kt key e.key).run P w = .ok (q e.key) w) →
    ∃ r, (Instr.findAsking kt key l i).run P w = .ok r w ∧ (r.map (·.2)) = (l.find? fun e => q e.key).map (·.val)
  | [], i, _ => ⟨none, rfl, rfl⟩
  | e :: l, i, h => by
    have h0 := h e (List.mem_cons_self ..)
    obtain ⟨r, h1, h2⟩ := run_findAsking q l (i + 1) fun e' he => h e' (List.mem_cons_of_mem _ he)
    cases hq : q e.key with
    | true =>
      rw [hq] at h0
      refine ⟨some (i, e.val), ?_, by simp [List.find?, hq]⟩
      simp [Instr.findAsking, h0]
    | false =>
      rw [hq] at h0
      refine ⟨r, ?_, by simp [List.find?, hq, h2]⟩
      simp [Instr.findAsking, h0, h1]

/-- What a lookup finds does not hang on the entries' order: at most one fits. -/
theorem find_perm {q : Value → Bool} {kvs : List (Value × Value)} {es : List MapEntry} (hp : (es.map fun e => (e.key, e.val)).Perm kvs) (h1 : kvs.Pairwise fun a b => ¬ (q a.1 = true ∧ q b.1 = true)) :
    (es.find? fun e => q e.key).map (·.val) = (kvs.find? fun a => q a.1).map (·.2) := by
  have h2 : (es.find? fun e => q e.key).map (·.val) = ((es.map fun e => (e.key, e.val)).find? fun a => q a.1).map (·.2) := by
    induction es generalizing kvs with
    | nil => rfl
    | cons e es ih =>
      simp only [List.map_cons, List.find?]
      cases q e.key with
      | true => rfl
      | false =>
        simp only []
        clear hp h1 ih
        induction es with
        | nil => rfl
        | cons e' es ih' =>
          simp only [List.map_cons, List.find?]
          cases q e'.key with
          | true => rfl
          | false => exact ih'
  rw [h2]
  -- both have at most one
  have uniq : ∀ {l : List (Value × Value)}, l.Pairwise (fun a b => ¬ (q a.1 = true ∧ q b.1 = true)) → ∀ a, a ∈ l → q a.1 = true → l.find? (fun a => q a.1) = some a := by
    intro l hl
    induction hl with
    | nil => intro a h; cases h
    | @cons x l hx hl' ih =>
      intro a ha hq
      rcases List.mem_cons.1 ha with rfl | ha
      · simp [List.find?, hq]
      · have : q x.1 = false := by
          cases hqx : q x.1 with
          | false => rfl
          | true => exact absurd ⟨hqx, hq⟩ (hx a ha)
        simp only [List.find?, this]
        exact ih a ha hq
  have h1' := hp.symm.pairwise h1 (fun {a b} h => fun ⟨x, y⟩ => h ⟨y, x⟩)
  cases hk : kvs.find? fun a => q a.1 with
  | some a =>
    have h3 := List.mem_of_find?_eq_some hk
    have h4 : q a.1 = true := by simpa using List.find?_some hk
    rw [uniq h1' a (hp.mem_iff.2 h3) h4]
  | none =>
    have h3 : ∀ a ∈ kvs, ¬ q a.1 = true := by simpa using hk
    have : (es.map fun e => (e.key, e.val)).find? (fun a => q a.1) = none := by
      rw [List.find?_eq_none]
      intro a ha
      simpa using h3 a (hp.mem_iff.1 ha)
    rw [this]
end
end Go.Sx

namespace Go.Sx
open Go.RowKit
set_option linter.unusedVariables false
set_option linter.unusedSimpArgs false
section
variable {P : Program} {w : World}

def mkv (g : Bool) (xs : List Value) : Value := match g, xs with | false, [x] => x | _, xs => .agg xs.toArray
def EqD (P : Program) (d t : Nat) (g : Bool) (cs : List CK) : Prop := ∀ xs ys w, ckAll cs xs = true → ckAll cs ys = true → (Op.equalIn d t (mkv g xs) (mkv g ys)).run P w = .ok (eqV xs ys) w
def CkD (P : Program) (d t : Nat) (g : Bool) (cs : List CK) : Prop := ∀ e xs w, ckAll cs xs = true → (Instr.checkKey e d t (mkv g xs)).run P w = .ok () w

theorem ckAll_one {c : CK} {xs : List Value} (h : ckAll [c] xs = true) : ∃ x, xs = [x] ∧ ckFits c x = true := by
  match xs, h with
  | [x], h => exact ⟨x, rfl, by simpa [ckAll] using h⟩
  | [], h => simp [ckAll] at h
  | x :: y :: r, h => simp [ckAll] at h
theorem eqD_int {d t : Nat} {k : IntKind} (h : P.underlying t = some (.int k)) : EqD P (d + 1) t false [.int k] := fun xs ys w h1 h2 => by
  obtain ⟨x, rfl, q1⟩ := ckAll_one h1
  obtain ⟨y, rfl, q2⟩ := ckAll_one h2
  cases x <;> simp [ckFits] at q1
  cases y <;> simp [ckFits] at q2
  subst q1
  subst q2
  simp [mkv, run_equalIn_int w d t _ _ _ _ h, eqV, eqV1]
theorem eqD_str {d t : Nat} (h : P.underlying t = some .string) : EqD P (d + 1) t false [.str] := fun xs ys w h1 h2 => by
  obtain ⟨x, rfl, q1⟩ := ckAll_one h1
  obtain ⟨y, rfl, q2⟩ := ckAll_one h2
  cases x <;> simp [ckFits] at q1
  cases y <;> simp [ckFits] at q2
  simp [mkv, Op.equalIn, run_underlying h, eqV, eqV1]
theorem ckD_int {d t : Nat} {k : IntKind} (h : P.underlying t = some (.int k)) : CkD P (d + 1) t false [.int k] := fun e xs w h1 => by
  obtain ⟨x, rfl, q1⟩ := ckAll_one h1
  cases x <;> simp [ckFits] at q1
  simp [mkv, Instr.checkKey, run_underlying h]
theorem ckD_str {d t : Nat} (h : P.underlying t = some .string) : CkD P (d + 1) t false [.str] := fun e xs w h1 => by
  obtain ⟨x, rfl, q1⟩ := ckAll_one h1
  cases x <;> simp [ckFits] at q1
  simp [mkv, Instr.checkKey, run_underlying h]

theorem ckAll_append : ∀ {a b : List CK} {xs : List Value}, ckAll (a ++ b) xs = true → ckAll a (xs.take a.length) = true ∧ ckAll b (xs.drop a.length) = true ∧ a.length ≤ xs.length
  | [], b, xs, h => by simpa [ckAll] using h
  | c :: a, b, [], h => by simp [ckAll] at h
  | c :: a, b, x :: xs, h => by
    simp only [List.cons_append, ckAll, Bool.and_eq_true] at h
    obtain ⟨h1, h2, h3⟩ := ckAll_append h.2
    refine ⟨by simp [ckAll, h.1, h1], by simpa using h2, by simp; omega⟩
theorem ckAll_len : ∀ {a : List CK} {xs : List Value}, ckAll a xs = true → xs.length = a.length
  | [], [], _ => rfl
  | [], x :: xs, h => by simp [ckAll] at h
  | c :: a, [], h => by simp [ckAll] at h
  | c :: a, x :: xs, h => by
    simp only [ckAll, Bool.and_eq_true] at h
    simp [ckAll_len h.2]
theorem eqV_append : ∀ {a b c d : List Value}, a.length = c.length → eqV (a ++ b) (c ++ d) = (eqV a c && eqV b d)
  | [], b, [], d, _ => by simp [eqV]
  | x :: a, b, y :: c, d, h => by
    have := eqV_append (a := a) (b := b) (c := c) (d := d) (by simpa using h)
    simp [eqV, this, Bool.and_assoc]

/-- The fields of a struct: type, whether it is a struct or an array, its cells. -/
def EqFs (P : Program) (d : Nat) : List Field → Nat → List (Bool × List CK) → Prop
  | [], _, [] => True
  | f :: fs, o, (g, cs) :: r => (f.name == "_") = false ∧ f.offset = o ∧ EqD P d f.type g cs ∧ CkD P d f.type g cs ∧ (g = false → cs.length = 1) ∧ (∃ i, TiOk P f.type i ∧ i.size = cs.length ∧ i.k.agg = g) ∧ EqFs P d fs (o + cs.length) r
  | _, _, _ => False
def flatC : List (Bool × List CK) → List CK
  | [] => []
  | (_, cs) :: r => cs ++ flatC r

theorem run_part {t o : Nat} {i : Ti} (hi : TiOk P t i) {cs : List CK} {xs : List Value} (hs : i.size = cs.length) (h1 : i.k.agg = false → cs.length = 1) (h : ckAll cs ((xs.drop o).take cs.length) = true) : (part t xs.toArray o).run P w = .ok (mkv i.k.agg ((xs.drop o).take cs.length)) w := by
  have hlen := ckAll_len h
  simp only [List.length_take, List.length_drop] at hlen
  unfold part
  rw [Sem.run_bind, hi.isAgg w]
  cases ha : i.k.agg with
  | true =>
    simp only [Result.andThen_ok, if_true, Sem.run_bind, hi.size w, Sem.run_pure]
    congr 2
    simp [List.extract_eq_take_drop, hs]
  | false =>
    have h1 := h1 ha
    have ho : o < xs.length := by omega
    have e : (xs.drop o).take cs.length = [xs[o]] := by
      rw [h1]
      apply List.ext_getElem?
      intro q
      rw [blk_get]
      cases q with
      | zero => simp [ho]
      | succ q => simp
    rw [e]
    simp [mkv, ho]

theorem take_drop_cat {α : Type} {xs : List α} {o n m : Nat} : (xs.drop o).take (n + m) = (xs.drop o).take n ++ (xs.drop (o + n)).take m := by
  rw [List.take_add, List.drop_drop]

theorem eqFields_ok {d : Nat} : ∀ {fs : List Field} {o : Nat} {r : List (Bool × List CK)}, EqFs P d fs o r → ∀ (xs ys : List Value) (w : World), ckAll (flatC r) (xs.drop o) = true → ckAll (flatC r) (ys.drop o) = true →
    (Op.eqFields d xs.toArray ys.toArray fs).run P w = .ok (eqV (xs.drop o) (ys.drop o)) w
  | [], o, [], _, xs, ys, w, h1, h2 => by
    have e1 := ckAll_len h1
    have e2 := ckAll_len h2
    simp only [flatC, List.length_nil] at e1 e2
    rw [List.eq_nil_of_length_eq_zero e1, List.eq_nil_of_length_eq_zero e2]
    rfl
  | f :: fs, o, (g, cs) :: r, h, xs, ys, w, h1, h2 => by
    obtain ⟨hn, ho, he, _, hg, ⟨i, hi, hsz, hgi⟩, hr⟩ := h
    subst ho
    subst hgi
    simp only [flatC] at h1 h2
    obtain ⟨a1, a2, a3⟩ := ckAll_append h1
    obtain ⟨b1, b2, b3⟩ := ckAll_append h2
    rw [List.drop_drop] at a2 b2
    have hn' : f.name ≠ "_" := by simpa using hn
    simp only [Op.eqFields, if_pos hn', Sem.run_bind, run_part hi hsz hg a1, run_part hi hsz hg b1, Result.andThen_ok, he _ _ w a1 b1]
    have ih := eqFields_ok hr xs ys w a2 b2
    have e : eqV (xs.drop f.offset) (ys.drop f.offset) = (eqV ((xs.drop f.offset).take cs.length) ((ys.drop f.offset).take cs.length) && eqV (xs.drop (f.offset + cs.length)) (ys.drop (f.offset + cs.length))) := by
      rw [← eqV_append (by rw [ckAll_len a1, ckAll_len b1])]
      rw [← List.drop_drop, ← List.drop_drop, List.take_append_drop, List.take_append_drop]
    rw [e]
    cases eqV ((xs.drop f.offset).take cs.length) ((ys.drop f.offset).take cs.length) with
    | false => simp
    | true => simpa using ih

theorem eqD_st {d t : Nat} {r : List (Bool × List CK)} (ht : P.underlying t = some (.struct (P.fieldsOf t))) (hp : P.stoodInHeld t = false) (hf : EqFs P d (P.fieldsOf t).toList 0 r) : EqD P (d + 1) t true (flatC r) := fun xs ys w h1 h2 => by
  have := eqFields_ok hf xs ys w (by simpa using h1) (by simpa using h2)
  simp only [mkv]
  rw [run_equalIn_struct w d t _ _ ht hp, this]
  simp

theorem ckD_st {d t : Nat} {r : List (Bool × List CK)} (ht : P.underlying t = some (.struct (P.fieldsOf t))) (hf : EqFs P d (P.fieldsOf t).toList 0 r) : CkD P (d + 1) t true (flatC r) := fun e xs w h1 => by
  simp only [mkv, Instr.checkKey, Sem.run_bind, run_underlying ht, Result.andThen_ok]
  rw [← Array.forIn_toList]
  have key : ∀ (fs : List Field) (o : Nat) (r : List (Bool × List CK)), EqFs P d fs o r → ckAll (flatC r) (xs.drop o) = true →
      (forIn fs PUnit.unit fun f (_ : PUnit) => (do
        if f.name ≠ "_" then Instr.checkKey e d f.type (← part f.type xs.toArray f.offset)
        pure (ForInStep.yield PUnit.unit) : Sem (ForInStep PUnit))).run P w = .ok PUnit.unit w := by
    intro fs
    induction fs with
    | nil => intro o r _ _; simp
    | cons f fs ih =>
      intro o r hf h
      match r, hf, h with
      | (g, cs) :: r, hf, h =>
        obtain ⟨hn, ho, _, hc, hg, ⟨i, hi, hsz, hgi⟩, hr⟩ := hf
        subst ho
        subst hgi
        simp only [flatC] at h
        obtain ⟨a1, a2, a3⟩ := ckAll_append h
        rw [List.drop_drop] at a2
        have hn' : f.name ≠ "_" := by simpa using hn
        have := ih _ r hr a2
        simp only [List.forIn_cons, Sem.run_bind, if_pos hn', run_part hi hsz hg a1, Result.andThen_ok, hc e _ w a1, Sem.run_pure]
        exact this
  have := key _ 0 r hf (by simpa using h1)
  simp only [ne_eq, ite_not, Array.forIn_toList] at this ⊢
  erw [this]
  rfl

theorem EqOk.mk2 {t : Nat} {r : List (Bool × List CK)} (hg : P.eqGuardType P.depth t = false) (ht : P.underlying t = some (.struct (P.fieldsOf t))) (hp : P.stoodInHeld t = false) (hf : EqFs P 9999 (P.fieldsOf t).toList 0 r) : EqOk P t (flatC r) ∧ KeyOk P t (flatC r) :=
  ⟨⟨hg, fun xs ys w h1 h2 => eqD_st ht hp hf xs ys w h1 h2⟩, fun e xs w h => ckD_st ht hf e xs w h⟩

theorem EqOk.mk3 {t : Nat} {fs : Array Field} {r : List (Bool × List CK)} (ht : P.underlying t = some (.struct fs)) (hg : P.eqGuardType P.depth t = false) (hp : P.stoodInHeld t = false) (hf : EqFs P 9999 fs.toList 0 r) : EqOk P t (flatC r) ∧ KeyOk P t (flatC r) := by
  have e : P.fieldsOf t = fs := by simp [Program.fieldsOf, ht]
  exact EqOk.mk2 hg (by rw [e]; exact ht) hp (by rw [e]; exact hf)
theorem eqD_st3 {d t : Nat} {fs : Array Field} {r : List (Bool × List CK)} (ht : P.underlying t = some (.struct fs)) (hp : P.stoodInHeld t = false) (hf : EqFs P d fs.toList 0 r) : EqD P (d + 1) t true (flatC r) ∧ CkD P (d + 1) t true (flatC r) := by
  have e : P.fieldsOf t = fs := by simp [Program.fieldsOf, ht]
  exact ⟨eqD_st (by rw [e]; exact ht) hp (by rw [e]; exact hf), ckD_st (by rw [e]; exact ht) (by rw [e]; exact hf)⟩

/-! ### maps -/
section
variable {tb : Tab} {ρ : Vl} {H : List (Nat × SO)} {nx : Nat}

theorem denP_cons {k v : SV} {l : List (SV × SV)} {kvs : List (Value × Value)} (h : denP ρ ((k, v) :: l) = some kvs) : ∃ x y r, kvs = (x, y) :: r ∧ den ρ k = some x ∧ den ρ v = some y ∧ denP ρ l = some r := by
  simp only [denP] at h
  cases e1 : den ρ k with
  | none => rw [e1] at h; cases h
  | some x =>
    cases e2 : den ρ v with
    | none => rw [e1, e2] at h; cases h
    | some y =>
      cases e3 : denP ρ l with
      | none => rw [e1, e2, e3] at h; cases h
      | some r => rw [e1, e2, e3] at h; cases h; exact ⟨x, y, r, rfl, rfl, rfl, rfl⟩

theorem run_lookup {t kt et : Nat} (hu : P.underlying t = some (.map kt et)) {ei : Ti} (hei : TiOk P et ei) {zero : SV} (hz : zeroSV ei = some zero) {b : Nat} {es : Array MapEntry} {clk : Nat} (hb : w.heap[b]? = some (.map es clk)) {key : Value}
    (hck : ∀ e, (Instr.checkKey e 10000 kt key).run P w = .ok () w) {q : Value → Bool} (hfind : ∃ r, (Instr.findKey kt key es.toList).run P w = .ok r w ∧ (r.map (·.2)) = (es.toList.find? fun e => q e.key).map (·.val))
    {kvs : List (Value × Value)} (hm : MapRep kvs es) (hq : kvs.Pairwise fun a b => ¬ (q a.1 = true ∧ q b.1 = true)) (ok : Bool) :
    ∃ y o, (Instr.lookup t (.map (some b)) key ok).run P w = .ok (if ok then .tuple #[y, .bool o] else y) w ∧ ((kvs.find? fun a => q a.1) = none → den ρ zero = some y ∧ o = false) ∧ ∀ a, (kvs.find? fun a => q a.1) = some a → y = a.2 ∧ o = true := by
  obtain ⟨r, h1, h2⟩ := hfind
  rw [find_perm hm.1 hq] at h2
  obtain ⟨z, hz1, hzd⟩ := hei.zeroS w hz ρ
  cases r with
  | none =>
    refine ⟨z, false, ?_, fun _ => ⟨hzd, rfl⟩, fun a ha => ?_⟩
    · simp [Instr.lookup, run_underlying hu, MapKept.run_getObj_map hb, hck, h1, hz1]
    · rw [ha] at h2; cases h2
  | some r =>
    obtain ⟨i, y⟩ := r
    refine ⟨y, true, ?_, fun hn => ?_, fun a ha => ?_⟩
    · simp [Instr.lookup, run_underlying hu, MapKept.run_getObj_map hb, hck, h1]
    · rw [hn] at h2; cases h2
    · rw [ha] at h2
      simp only [Option.map_some, Option.some.injEq] at h2
      exact ⟨h2, rfl⟩

/-- Every key is a number of a kind. -/
theorem findNow_int {kd k : IntKind} {z : Int} : ∀ (l : List MapEntry) (i : Nat), (∀ e ∈ l, ∃ z', e.key = .int k z') →
    ∃ r, Instr.findNow (.int kd) (.int k z) l i = some r ∧ (r.map (·.2)) = (l.find? fun e => match e.key with | .int _ z' => z == z' | _ => false).map (·.val)
  | [], i, _ => ⟨none, rfl, rfl⟩
  | e :: l, i, h => by
    obtain ⟨z', hz⟩ := h e (List.mem_cons_self ..)
    obtain ⟨r, h1, h2⟩ := findNow_int (kd := kd) (k := k) (z := z) l (i + 1) fun e' he => h e' (List.mem_cons_of_mem _ he)
    cases hq : z == z' with
    | true => exact ⟨some (i, e.val), by simp [Instr.findNow, Instr.sameNow, hz, hq], by simp [List.find?, hz, hq]⟩
    | false => exact ⟨r, by simp [Instr.findNow, Instr.sameNow, hz, hq, h1], by simp [List.find?, hz, hq, h2]⟩

theorem intKeys_ok {k : IntKind} : ∀ {es : List (SV × SV)} {kvs : List (Value × Value)}, intKeys k es = true → denP ρ es = some kvs → ∀ a ∈ kvs, ∃ z, a.1 = .int k z
  | [], kvs, _, hd, a, ha => by cases hd; cases ha
  | (u, v) :: r, kvs, h, hd, a, ha => by
    obtain ⟨x, y, r', rfl, e1, e2, e3⟩ := denP_cons hd
    cases u <;> try exact absurd (show false = true from h) (by decide)
    rename_i k' z'
    simp only [intKeys, Bool.and_eq_true] at h
    have hk := kEq_ok h.1
    subst hk
    cases e1
    rcases List.mem_cons.1 ha with rfl | ha
    · exact ⟨_, rfl⟩
    · exact intKeys_ok h.2 e3 a ha

theorem atLit_ok {k : IntKind} {z : Int} : ∀ {es : List (SV × SV)} {kvs : List (Value × Value)} {r : Option SV}, intKeys k es = true → denP ρ es = some kvs → atLit k z es = some r →
    match r with
    | none => (kvs.find? fun a => match a.1 with | .int _ z' => z == z' | _ => false) = none
    | some v => ∃ a, (kvs.find? fun a => match a.1 with | .int _ z' => z == z' | _ => false) = some a ∧ den ρ v = some a.2
  | [], kvs, r, _, hd, h => by cases hd; cases h; rfl
  | (u, v) :: es, kvs, r, hk, hd, h => by
    obtain ⟨x, y, r', rfl, e1, e2, e3⟩ := denP_cons hd
    cases u <;> try exact absurd (show false = true from hk) (by decide)
    rename_i k' z'
    simp only [intKeys, Bool.and_eq_true] at hk
    simp only [atLit, hk.1] at h
    cases e1
    rw [eqI_ok] at h
    cases hq : z == z' with
    | true =>
      rw [hq] at h
      cases h
      exact ⟨(Value.int k' z', y), by simp [List.find?, hq], e2⟩
    | false =>
      rw [hq] at h
      have := atLit_ok hk.2 e3 h
      cases r with
      | none => simpa [List.find?, hq] using this
      | some v => simpa [List.find?, hq] using this

theorem absent_ok {k : IntKind} {x : Int} : ∀ {es : List (SV × SV)} {kvs : List (Value × Value)}, intKeys k es = true → denP ρ es = some kvs → absent x es → (kvs.find? fun a => match a.1 with | .int _ z' => x == z' | _ => false) = none
  | [], kvs, _, hd, _ => by cases hd; rfl
  | (u, v) :: es, kvs, hk, hd, h => by
    obtain ⟨x', y, r', rfl, e1, e2, e3⟩ := denP_cons hd
    cases u <;> try exact absurd (show false = true from hk) (by decide)
    rename_i k' z'
    simp only [intKeys, Bool.and_eq_true] at hk
    simp only [absent] at h
    cases e1
    have hq : (x == z') = false := by simpa using h.1
    simpa [List.find?, hq] using absent_ok hk.2 e3 h.2

theorem mapRep_int {kvs : List (Value × Value)} {es : Array MapEntry} (hm : MapRep kvs es) {z : Int} : kvs.Pairwise fun a b => ¬ ((match a.1 with | .int _ z' => z == z' | _ => false) = true ∧ (match b.1 with | .int _ z' => z == z' | _ => false) = true) := by
  refine hm.2.imp fun {a b} h => ?_
  rintro ⟨h1, h2⟩
  split at h1
  case h_2 => cases h1
  split at h2
  case h_2 => cases h2
  rename_i e1 _ _ _ e2
  rw [e1, e2] at h
  simp only [keyNe] at h
  simp at h1 h2 h
  omega

theorem eqV_same : ∀ {a b x : List Value}, eqV x a = true → eqV x b = true → (a.zip b).any (fun | (.int _ x, .int _ y) => x != y | _ => false) = false
  | [], b, x, _, _ => rfl
  | u :: a, [], x, _, _ => rfl
  | u :: a, v :: b, [], h, _ => by simp [eqV] at h
  | u :: a, v :: b, y :: x, h1, h2 => by
    simp only [eqV, Bool.and_eq_true] at h1 h2
    simp only [List.zip_cons_cons, List.any_cons, Bool.or_eq_false_iff]
    refine ⟨?_, eqV_same h1.2 h2.2⟩
    cases u <;> cases v <;> simp
    cases y <;> simp [eqV1] at h1 h2
    omega
theorem mapRep_agg {kvs : List (Value × Value)} {es : Array MapEntry} (hm : MapRep kvs es) {xs : List Value} : kvs.Pairwise fun a b => ¬ ((match a.1 with | .agg cs => eqV xs cs.toList | _ => false) = true ∧ (match b.1 with | .agg cs => eqV xs cs.toList | _ => false) = true) := by
  refine hm.2.imp fun {a b} h => ?_
  rintro ⟨h1, h2⟩
  split at h1
  case h_2 => cases h1
  split at h2
  case h_2 => cases h2
  rename_i e1 _ _ e2
  rw [e1, e2] at h
  simp only [keyNe, Bool.and_eq_true] at h
  have h3 := eqV_same h1 h2
  exact absurd (h.2.symm.trans h3) (by decide)

theorem iteV_ok {b : Bool} {u v r : SV} {x y : Value} (h : iteV b u v = some r) (hx : den ρ u = some x) (hy : den ρ v = some y) : den ρ r = some (if b then x else y) := by
  unfold iteV at h
  split at h
  case h_2 => cases h
  rename_i k a k' c h1 h2
  split at h
  case h_2 => cases h
  rename_i hk
  have := kEq_ok hk
  subst this
  cases h
  have e1 := asI_ok h1 hx
  have e2 := asI_ok h2 hy
  subst e1
  subst e2
  cases b <;> rfl

theorem atSym_ok {cs : List CK} {l : List SV} {xs : List Value} (hx : denL ρ l = some xs) {zero : SV} {z : Value} (hz : den ρ zero = some z) : ∀ {es : List (SV × SV)} {kvs : List (Value × Value)} {r : SV × Bool}, denP ρ es = some kvs → atSym (some cs) (.ag l) zero es = some r →
    (∀ a ∈ kvs, ∃ ys, a.1 = .agg ys.toArray ∧ ckAll cs ys = true ∧ ckAll cs xs = true) ∧
    (match kvs.find? (fun a => match a.1 with | .agg cs => eqV xs cs.toList | _ => false) with
    | none => den ρ r.1 = some z ∧ r.2 = false
    | some a => den ρ r.1 = some a.2 ∧ r.2 = true)
  | [], kvs, r, hd, h => by cases hd; cases h; exact ⟨fun a ha => (by cases ha), hz, rfl⟩
  | (u, v) :: es, kvs, r, hd, h => by
    obtain ⟨x, y, r', rfl, e1, e2, e3⟩ := denP_cons hd
    simp only [atSym] at h
    split at h
    case h_2 => cases h
    rename_i b v' b' hb hr
    split at h
    case h_2 => cases h
    rename_i w' hw
    cases h
    obtain ⟨ih1, ih2⟩ := atSym_ok hx hz e3 hr
    cases u <;> simp only [eqKey] at hb
    case ag l' =>
      simp only [den] at e1
      cases hd' : denL ρ l' with
      | none => rw [hd'] at e1; cases e1
      | some ys =>
        rw [hd'] at e1
        cases e1
        obtain ⟨c1, c2, c3⟩ := eqCells_ok hb hx hd'
        refine ⟨fun a ha => ?_, ?_⟩
        · rcases List.mem_cons.1 ha with rfl | ha
          · exact ⟨ys, rfl, c2, c1⟩
          · exact ih1 a ha
        · simp only [List.find?, c3]
          cases b with
          | true =>
            split at ih2
            · have := iteV_ok hw e2 ih2.1; exact ⟨by simpa using this, rfl⟩
            · have := iteV_ok hw e2 ih2.1; exact ⟨by simpa using this, rfl⟩
          | false =>
            simp only []
            split
            · rename_i hf
              rw [hf] at ih2
              have := iteV_ok hw e2 ih2.1
              exact ⟨by simpa using this, ih2.2⟩
            · rename_i a hf
              rw [hf] at ih2
              have := iteV_ok hw e2 ih2.1
              exact ⟨by simpa using this, ih2.2⟩
    all_goals (split at hb <;> try cases hb)
    all_goals (rename_i h0 _; cases h0)

theorem xlookup_ok (hP : TabOk P tb) (hH : HOk ρ w H) (t : Nat) {u v : SV} {x y : Value} (hx : den ρ u = some x) (hy : den ρ v = some y) (ok : Bool) :
    RunOk ρ w H nx ((do pure (Next.value (← Instr.lookup t x y ok)) : Sem Next).run P w) (xlookup tb H t u v ok) := by
  unfold xlookup
  cases hti : tb.ti t with
  | none => trivial
  | some i =>
    obtain ⟨d, hu, hfit⟩ := (hP.ti t i hti).und
    simp only []
    split <;> try trivial
    rename_i kt et h hk
    rw [hk] at hfit
    cases d <;> simp only [TK.fits] at hfit
    obtain ⟨rfl, rfl⟩ := hfit
    split <;> try trivial
    rename_i es ei ki hl hei hki
    split <;> try trivial
    rename_i zero hz
    obtain ⟨dk, huk, hfk⟩ := (hP.ti kt ki hki).und
    obtain ⟨hv, hr, hrep⟩ := hH h _ hl
    cases hv with
    | rw a n c => exact hrep.elim
    | blk b =>
      obtain ⟨kvs, en, clk, hd, hb, hm⟩ := hrep
      simp only [den, hr, Option.some.injEq] at hx
      subst hx
      split <;> try trivial
      · -- numbers
        rename_i k' k z hkk
        rw [hkk] at hfk
        cases dk <;> simp only [TK.fits] at hfk
        subst hfk
        simp only [den, Option.some.injEq] at hy
        subst hy
        cases hkz : kEq k k' && intKeys k es with
        | false => split <;> first | trivial | contradiction
        | true =>
          simp only [Bool.and_eq_true] at hkz
          have hkk' := kEq_ok hkz.1
          subst hkk'
          have hik := intKeys_ok hkz.2 hd
          have hik' : ∀ e ∈ en.toList, ∃ z', e.key = .int k z' := fun e he => by
            have := hm.1.mem_iff.1 (List.mem_map_of_mem (f := fun e => (e.key, e.val)) he)
            exact hik _ this
          obtain ⟨r, f1, f2⟩ := findNow_int (kd := k) (k := k) (z := z) en.toList 0 hik'
          obtain ⟨y0, o, hrun, n1, n2⟩ := run_lookup (ρ := ρ) hu (hP.ti et ei hei) hz hb (key := .int k z) (fun e => MapKept.run_checkKey huk (by simp [MapKept.IsKey]) e 9999) (q := fun v => match v with | .int _ z' => z == z' | _ => false) ⟨r, MapKept.run_findKey huk f1, f2⟩ hm (mapRep_int hm) ok
          have hrun' : (do pure (Next.value (← Instr.lookup t (.map (some b)) (.int k z) ok)) : Sem Next).run P w = .ok (.value (if ok then .tuple #[y0, .bool o] else y0)) w := by
            simp only [Sem.run_bind, hrun, Result.andThen_ok]; rfl
          rw [hrun']
          cases ha : atLit k z es with
          | none => trivial
          | some r =>
            have ga := atLit_ok hkz.2 hd ha
            cases r with
            | none =>
              obtain ⟨e1, rfl⟩ := n1 ga
              cases ok with
              | true => exact ⟨.tuple #[y0, .bool false], by simp only [den, denL, e1], rfl⟩
              | false => exact ⟨_, e1, rfl⟩
            | some v =>
              obtain ⟨a, g1, g2⟩ := ga
              obtain ⟨rfl, rfl⟩ := n2 a g1
              cases ok with
              | true => exact ⟨.tuple #[a.2, .bool true], by simp only [den, denL, g2], rfl⟩
              | false => exact ⟨_, g2, rfl⟩
      · -- a number that is no key
        rename_i k' k z hkk
        rw [hkk] at hfk
        cases dk <;> simp only [TK.fits] at hfk
        subst hfk
        simp only [den, Option.some.injEq] at hy
        subst hy
        cases hkz : kEq k k' && intKeys k es with
        | false => split <;> first | trivial | contradiction
        | true =>
          simp only [Bool.and_eq_true] at hkz
          have hkk' := kEq_ok hkz.1
          subst hkk'
          have hik := intKeys_ok hkz.2 hd
          have hik' : ∀ e ∈ en.toList, ∃ z', e.key = .int k z' := fun e he => by
            have := hm.1.mem_iff.1 (List.mem_map_of_mem (f := fun e => (e.key, e.val)) he)
            exact hik _ this
          obtain ⟨r, f1, f2⟩ := findNow_int (kd := k) (k := k) (z := z) en.toList 0 hik'
          obtain ⟨y0, o, hrun, n1, n2⟩ := run_lookup (ρ := ρ) hu (hP.ti et ei hei) hz hb (key := .int k z) (fun e => MapKept.run_checkKey huk (by simp [MapKept.IsKey]) e 9999) (q := fun v => match v with | .int _ z' => z == z' | _ => false) ⟨r, MapKept.run_findKey huk f1, f2⟩ hm (mapRep_int hm) ok
          have hrun' : (do pure (Next.value (← Instr.lookup t (.map (some b)) (.int k z) ok)) : Sem Next).run P w = .ok (.value (if ok then .tuple #[y0, .bool o] else y0)) w := by
            simp only [Sem.run_bind, hrun, Result.andThen_ok]; rfl
          rw [hrun']
          cases ok with
          | true =>
            intro ha
            obtain ⟨e1, rfl⟩ := n1 (absent_ok hkz.2 hd ha)
            exact ⟨.tuple #[y0, .bool false], by simp only [den, denL, e1], rfl⟩
          | false =>
            intro ha
            obtain ⟨e1, rfl⟩ := n1 (absent_ok hkz.2 hd ha)
            exact ⟨_, e1, rfl⟩
      · -- structs
        rename_i fs l hkk
        rw [hkk] at hfk
        cases dk <;> simp only [TK.fits] at hfk
        split <;> try trivial
        rename_i p0 es' cs hcs
        split <;> try trivial
        rename_i v0 o0 ha
        simp only [den] at hy
        cases hd' : denL ρ l with
        | none => rw [hd'] at hy; cases hy
        | some xs =>
          rw [hd'] at hy
          cases hy
          obtain ⟨z, hz1, hzd⟩ := (hP.ti et ei hei).zeroS w hz ρ
          obtain ⟨g1, g2⟩ := atSym_ok hd' hzd hd ha
          obtain ⟨hEq, hKey⟩ := hP.eqs kt cs hcs
          -- the map is not empty
          obtain ⟨x0, y0, r0, hkvs, _, _, _⟩ := denP_cons hd
          have hne : ∃ a, a ∈ kvs := ⟨(x0, y0), by rw [hkvs]; exact List.mem_cons_self ..⟩
          have hxs : ckAll cs xs = true := by obtain ⟨a, ha⟩ := hne; exact (g1 a ha).choose_spec.2.2
          have hen : ∀ e ∈ en.toList, ∃ ys, e.key = .agg ys.toArray ∧ ckAll cs ys = true := fun e he => by
            have := hm.1.mem_iff.1 (List.mem_map_of_mem (f := fun e => (e.key, e.val)) he)
            obtain ⟨ys, h1, h2, _⟩ := g1 _ this
            exact ⟨ys, h1, h2⟩
          have hnn : ∃ e r, en.toList = e :: r := by
            cases hn : en.toList with
            | cons e r => exact ⟨e, r, rfl⟩
            | nil =>
              have := hm.1.length_eq
              rw [hn, hkvs] at this
              simp at this
          have hask : ∃ r, (Instr.findAsking kt (.agg xs.toArray) en.toList 0).run P w = .ok r w ∧ (r.map (·.2)) = (en.toList.find? fun e => (fun v => match v with | Value.agg cs => eqV xs cs.toList | _ => false) e.key).map (·.val) :=
            run_findAsking (fun v => match v with | Value.agg cs => eqV xs cs.toList | _ => false) en.toList 0 fun e he => by
              obtain ⟨ys, h1, h2⟩ := hen e he
              rw [h1]
              exact hEq.2 xs ys w hxs h2
          obtain ⟨r, f1, f2⟩ := hask
          have hfind : (Instr.findKey kt (.agg xs.toArray) en.toList).run P w = .ok r w := by
            obtain ⟨e, rr, hn⟩ := hnn
            have : Instr.findNow (.struct ‹_›) (.agg xs.toArray) en.toList 0 = none := by
              rw [hn]
              simp [Instr.findNow, Instr.sameNow]
            simp [Instr.findKey, run_underlying huk, this, f1]
          obtain ⟨y1, o, hrun, n1, n2⟩ := run_lookup (ρ := ρ) hu (hP.ti et ei hei) hz hb (key := .agg xs.toArray) (fun e => hKey e xs w hxs) (q := fun v => match v with | Value.agg cs => eqV xs cs.toList | _ => false) ⟨r, hfind, f2⟩ hm (mapRep_agg hm) ok
          have hrun' : (do pure (Next.value (← Instr.lookup t (.map (some b)) (.agg xs.toArray) ok)) : Sem Next).run P w = .ok (.value (if ok then .tuple #[y1, .bool o] else y1)) w := by
            simp only [Sem.run_bind, hrun, Result.andThen_ok]; rfl
          rw [hrun']
          have hres : den ρ v0 = some y1 ∧ o0 = o := by
            split at g2
            · rename_i hf
              obtain ⟨e1, rfl⟩ := n1 hf
              rw [hzd] at e1
              cases e1
              exact g2
            · rename_i a hf
              obtain ⟨rfl, rfl⟩ := n2 a hf
              exact g2
          obtain ⟨hr1, rfl⟩ := hres
          cases ok with
          | true => exact ⟨.tuple #[y1, .bool o0], by simp only [den, denL, hr1], rfl⟩
          | false => exact ⟨_, hr1, rfl⟩

theorem freshLit_ok {k : IntKind} {z : Int} : ∀ {es : List (SV × SV)} {kvs : List (Value × Value)}, freshLit k z es = true → denP ρ es = some kvs → ∀ a ∈ kvs, ∃ z', a.1 = .int k z' ∧ z ≠ z'
  | [], kvs, _, hd, a, ha => by cases hd; cases ha
  | (u, v) :: r, kvs, h, hd, a, ha => by
    obtain ⟨x, y, r', rfl, e1, e2, e3⟩ := denP_cons hd
    cases u <;> try exact absurd (show false = true from h) (by decide)
    rename_i k' z'
    simp only [freshLit, Bool.and_eq_true, Bool.not_eq_true'] at h
    have hk := kEq_ok h.1
    subst hk
    cases e1
    rcases List.mem_cons.1 ha with rfl | ha
    · refine ⟨_, rfl, ?_⟩
      have := h.2.1
      rw [eqI_ok] at this
      simpa using this
    · exact freshLit_ok h.2.2 e3 a ha

theorem xinsert_ok (hP : TabOk P tb) (hH : HOk ρ w H) (t : Nat) {u v s : SV} {x y c : Value} (hx : den ρ u = some x) (hy : den ρ v = some y) (hc : den ρ s = some c) :
    RunOk ρ w H nx ((do Instr.mapUpdate t x y c; pure Next.skip : Sem Next).run P w) (xinsert tb H t u v s) := by
  unfold xinsert
  cases hti : tb.ti t with
  | none => trivial
  | some i =>
    obtain ⟨d, hu, hfit⟩ := (hP.ti t i hti).und
    simp only []
    split <;> try trivial
    rename_i kt et h hk
    rw [hk] at hfit
    cases d <;> simp only [TK.fits] at hfit
    obtain ⟨rfl, rfl⟩ := hfit
    split <;> try trivial
    rename_i es ki hl hki
    obtain ⟨dk, huk, hfk⟩ := (hP.ti kt ki hki).und
    obtain ⟨hv, hr, hrep⟩ := hH h _ hl
    cases hv with
    | rw a n c => exact hrep.elim
    | blk b =>
      obtain ⟨kvs, en, clk, hd, hb, hm⟩ := hrep
      simp only [den, hr, Option.some.injEq] at hx
      subst hx
      split <;> try trivial
      rename_i k' k z hkk
      rw [hkk] at hfk
      cases dk <;> simp only [TK.fits] at hfk
      subst hfk
      simp only [den, Option.some.injEq] at hy
      subst hy
      split <;> try trivial
      rename_i hf
      simp only [Bool.and_eq_true] at hf
      have hkk' := kEq_ok hf.1
      subst hkk'
      have hfr := freshLit_ok hf.2 hd
      have hik' : ∀ e ∈ en.toList, ∃ z', e.key = .int k z' := fun e he => by
        have := hm.1.mem_iff.1 (List.mem_map_of_mem (f := fun e => (e.key, e.val)) he)
        obtain ⟨z', h1, _⟩ := hfr _ this
        exact ⟨z', h1⟩
      obtain ⟨r, f1, f2⟩ := findNow_int (kd := k) (k := k) (z := z) en.toList 0 hik'
      have hnone : en.toList.find? (fun e => match e.key with | .int _ z' => z == z' | _ => false) = none := by
        rw [List.find?_eq_none]
        intro e he
        have := hm.1.mem_iff.1 (List.mem_map_of_mem (f := fun e => (e.key, e.val)) he)
        obtain ⟨z', h1, h2⟩ := hfr _ this
        have h1 : e.key = .int k z' := h1
        rw [h1]
        simpa using h2
      rw [hnone] at f2
      have hr0 : r = none := by cases r <;> simp at f2 ⊢
      subst hr0
      have hlt : b < w.heap.size := (Array.getElem?_eq_some_iff.1 hb).1
      have hrun : (Instr.mapUpdate t (.map (some b)) (.int k z) c).run P w = .ok () { w with heap := w.heap.setIfInBounds b (.map (en.push { key := .int k z, val := c, born := clk }) (clk + 1)) } := by
        simp [Instr.mapUpdate, run_underlying hu, MapKept.run_getObj_map hb, MapKept.run_checkKey (k := Value.int k z) huk (by simp [MapKept.IsKey]) false 9999, MapKept.run_findKey huk f1, MapKept.run_setObj_map _ hb]
      refine ⟨_, _, { w with heap := w.heap.setIfInBounds b (.map (en.push { key := .int k z, val := c, born := clk }) (clk + 1)) }, hl, rfl, hr, by simp only [Sem.run_bind, hrun, Result.andThen_ok]; rfl, ⟨rfl, rfl, rfl, by simp, fun k hk hF => (MapKept.heap_set hb).2 k hF⟩, ⟨(.int k z, c) :: kvs, _, _, by simp only [denP, den, hc, hd], (MapKept.heap_set hb).1, ?_, ?_⟩, rfl, fun k hk => ?_⟩
      · simp only [Array.toList_push, List.map_append, List.map_cons, List.map_nil]
        exact (List.perm_append_comm).trans (List.Perm.cons _ hm.1)
      · refine List.Pairwise.cons (fun a ha => ?_) hm.2
        obtain ⟨z', h1, h2⟩ := hfr a ha
        rw [h1]
        simpa [keyNe] using h2
      · simp only [SO.fp] at hk
        subst hk
        exact ⟨.inl rfl, by simpa using hlt⟩

theorem xmore_ok (hP : TabOk P tb) (hH : HOk ρ w H) (hn : ρ nx = none) {e : Operand → Option SV} {f : Operand → Value} (he : EOk ρ e f) (o : Oper) :
    RunOk ρ w H nx ((execOp f o).run P w) (xmore tb H nx e o.op) := by
  obtain ⟨dst, op, ty, pos, after, guard⟩ := o
  cases op
  case slice t x lo hi mx =>
    cases mx with
    | some m => trivial
    | none =>
      simp only [xmore]
      cases hx : e x with
      | none => trivial
      | some v => exact xslice_ok hP hH he t ((den_unls ρ v).trans (he x v hx)) lo hi
  case lookup t x k ok =>
    simp only [xmore]
    cases hx : e x with
    | none => trivial
    | some v =>
      cases hk : e k with
      | none => trivial
      | some u => exact xlookup_ok hP hH t (he x v hx) (he k u hk) ok
  case insert t m k x =>
    simp only [xmore]
    cases hm : e m with
    | none => trivial
    | some v =>
      cases hk : e k with
      | none => trivial
      | some u =>
        cases hx : e x with
        | none => trivial
        | some s => exact xinsert_ok hP hH t (he m v hm) (he k u hk) (he x s hx)
  case makeSlice t l c =>
    simp only [xmore]
    cases hl : e l with
    | none => trivial
    | some v =>
      cases hc : e c with
      | none => trivial
      | some u => exact xmake_ok hP hn t (he l v hl) (he c u hc)
  case call c =>
    simp only [xmore]
    obtain ⟨callee, args, argTypes⟩ := c
    split <;> try trivial
    · rename_i x y t t' hcal hx ht
      have hcal : callee = .builtin .append := hcal
      subst hcal
      have hx : args.toList = [x, y] := hx
      have ht : argTypes.toList = [t, t'] := ht
      have e1 : args = #[x, y] := by rw [← Array.toArray_toList (xs := args), hx]
      have e2 : argTypes = #[t, t'] := by rw [← Array.toArray_toList (xs := argTypes), ht]
      subst e1; subst e2
      split <;> try trivial
      rename_i u v hu hv htt
      have := Nat.eq_of_beq_eq_true htt
      subst this
      have := xappend_ok (P := P) (w := w) hP hH hn t ty (he x u hu) (he y v hv)
      simp only [execOp, resolve, Sem.run_bind, Sem.run_pure, Result.andThen_ok, invoke, builtin]
      simpa using this
    · rename_i x y hcal hx
      have hcal : callee = .builtin .min := hcal
      subst hcal
      have hx : args.toList = [x, y] := hx
      have e1 : args = #[x, y] := by rw [← Array.toArray_toList (xs := args), hx]
      subst e1
      split <;> try trivial
      rename_i u v hu hv
      have := minmax_min (P := P) (w := w) (H := H) (nx := nx) (he x u hu) (he y v hv) argTypes ty
      simp only [execOp, resolve, Sem.run_bind, Sem.run_pure, Result.andThen_ok, invoke, builtin]
      simpa using this
    · rename_i x y hcal hx
      have hcal : callee = .builtin .max := hcal
      subst hcal
      have hx : args.toList = [x, y] := hx
      have e1 : args = #[x, y] := by rw [← Array.toArray_toList (xs := args), hx]
      subst e1
      split <;> try trivial
      rename_i u v hu hv
      have := minmax_max (P := P) (w := w) (H := H) (nx := nx) (he x u hu) (he y v hv) argTypes ty
      simp only [execOp, resolve, Sem.run_bind, Sem.run_pure, Result.andThen_ok, invoke, builtin]
      simpa using this
  all_goals trivial
end
end
end Go.Sx
