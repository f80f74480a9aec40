/- What the symbolic operations say holds of the program's own: one law for all. -/
import Derived.Test.YtiibmnoikgfcbaaDoorX4B
namespace Go.Sx
open Go.RowKit
set_option linter.unusedVariables false
set_option linter.unusedSimpArgs false
section
variable {P : Program} {tb : Tab} {ρ : Vl} {w : World} {H : List (Nat × SO)} {nx : Nat}

theorem runOk_val {v : SV} {x : Value} (hx : den ρ v = some x) {r : Result Next} (h : r = .ok (.value x) w) : RunOk ρ w H nx r (.val v) := ⟨x, hx, h⟩

theorem xop_ok (hP : TabOk P tb) (hH : HOk ρ w H) (hn : ρ nx = none) {e : Operand → Option SV} {f : Operand → Value} (he : EOk ρ e f) (o : Oper) :
    RunOk ρ w H nx ((execOp f o).run P w) (xop tb H nx e o.op) := by
  obtain ⟨dst, op, ty, pos, after, guard⟩ := o
  cases op
  case move x =>
    simp only [xop]
    cases hx : e x with
    | none => trivial
    | some v => exact ⟨f x, he x v hx, rfl⟩
  case assign x =>
    simp only [xop]
    cases hx : e x with
    | none => trivial
    | some v => exact ⟨f x, he x v hx, rfl⟩
  case alloc t =>
    simp only [xop]
    cases hi : tb.ti t with
    | none => trivial
    | some i => exact alloc_ok (hP.ti t i hi) hn
  case box t x =>
    simp only [xop]
    cases hx : e x with
    | none => trivial
    | some v => exact box_ok (he x v hx) hn
  case build t parts =>
    simp only [xop]
    cases hi : tb.ti t with
    | none => trivial
    | some i =>
      simp only []
      split <;> try trivial
      · rename_i fs hk
        split <;> try trivial
        rename_i l hl
        split <;> try trivial
        rename_i c hc
        exact build_st_ok (hP.ti t i hi) hk he parts hl hc
      · rename_i m el hk
        cases hj : tb.ti el with
        | none => trivial
        | some j =>
          simp only []
          split <;> try trivial
          rename_i l hl
          split <;> try trivial
          rename_i c hc
          exact build_arr_ok (hP.ti t i hi) hk (hP.ti el j hj) he parts hl hc
  case buildSlice t len parts =>
    simp only [xop]
    cases hi : tb.ti t with
    | none => trivial
    | some i =>
      simp only []
      split <;> try trivial
      rename_i el hk
      cases hj : tb.ti el with
      | none => trivial
      | some j =>
        simp only []
        split <;> try trivial
        rename_i l hl
        split <;> try trivial
        rename_i c h0 hc
        exact buildSlice_ok (hP.ti t i hi) hk (hP.ti el j hj) he hn len parts h0 hl hc
  case load t x =>
    simp only [xop]
    split <;> try trivial
    · rename_i h o i hx hi
      exact xload_ok (hP.ti t i hi) hH (he x _ hx)
    · rename_i h j sz o i hx hi
      exact xloadR_ok (hP.ti t i hi) hH (he x _ hx)
  case store t x v =>
    simp only [xop]
    split <;> try trivial
    · rename_i h o v i hx hv hi
      exact xstore_ok (hP.ti t i hi) hH (he x _ hx) (he _ _ hv)
    · rename_i h j sz o v i hx hv hi
      exact xstoreR_ok (hP.ti t i hi) hH (he x _ hx) (he _ _ hv)
  case nilCheck x =>
    simp only [xop]
    split <;> try trivial
    · rename_i h o hx
      have := he x _ hx
      simp only [den] at this
      split at this
      case h_2 => cases this
      rename_i b hb
      refine ⟨f x, he x _ hx, ?_⟩
      have e2 := Option.some.inj this
      simp only [execOp, ← e2]
      rfl
    · rename_i h j sz o hx
      have := he x _ hx
      simp only [den] at this
      split at this
      case h_2 => cases this
      refine ⟨f x, he x _ hx, ?_⟩
      have e2 := Option.some.inj this
      simp only [execOp, ← e2]
      rfl
  case binOp op t x y ty' =>
    simp only [xop]
    split <;> try trivial
    rename_i a b hx hy
    have := xbin_ok (P := P) (w := w) (H := H) (nx := nx) hP op t x y (he x a hx) (he y b hy)
    have e : (execOp f ⟨dst, .binOp op t x y ty', ty, pos, after, guard⟩).run P w = (do eqGuard op t x y (f x) (f y); pure (Next.value (← binOp op t (f x) (f y))) : Sem Next).run P w := by
      simp only [execOp, Sem.run_bind]
      cases (eqGuard op t x y (f x) (f y)).run P w <;> rfl
    rw [e]
    exact this
  case unOp op t x =>
    simp only [xop]
    split <;> try trivial
    rename_i a hx
    exact xun_ok op (he x a hx)
  case convert src dst' x =>
    simp only [xop]
    split <;> try trivial
    · rename_i k z si i hx hs hi
      have hv := he x _ hx
      split <;> try trivial
      rename_i k' hk
      refine ⟨.int k' (k'.wrap z), rfl, ?_⟩
      simp only [den, Option.some.injEq] at hv
      have := convert_int_ok (P := P) (w := w) (hP.ti src si hs) (hP.ti dst' i hi) hk (k' := k) (z := z)
      rw [hv] at this
      exact this
    · rename_i k z si i hx hs hi
      have hv := he x _ hx
      split <;> try trivial
      rename_i k' hk
      refine ⟨.int k' (k'.wrap z), rfl, ?_⟩
      simp only [den, Option.some.injEq] at hv
      have := convert_int_ok (P := P) (w := w) (hP.ti src si hs) (hP.ti dst' i hi) hk (k' := k) (z := z)
      rw [hv] at this
      exact this
    · rename_i s si i hx hs hi
      have hv := he x _ hx
      split <;> try trivial
      rename_i hk
      refine ⟨.string s, rfl, ?_⟩
      simp only [den, Option.some.injEq] at hv
      have := convert_str_ok (P := P) (w := w) (hP.ti src si hs) (hP.ti dst' i hi) hk (s := s)
      simp only [execOp]
      rw [← hv]
      exact this
    · rename_i l si i hx hs hi
      have hv := he x _ hx
      split <;> try trivial
      rename_i hk
      refine ⟨.string ⟨l.toArray⟩, rfl, ?_⟩
      simp only [den, Option.some.injEq] at hv
      have := convert_str_ok (P := P) (w := w) (hP.ti src si hs) (hP.ti dst' i hi) hk (s := ⟨l.toArray⟩)
      simp only [execOp]
      rw [← hv]
      exact this
    · rename_i v si i _ _ _ _ hx hs hi
      exact xconv_ok hP hH src dst' (he x _ hx)
  case makeInterface t x =>
    simp only [xop]
    split <;> try trivial
    rename_i v i hx hi
    split <;> try trivial
    rename_i hk
    have hv := he x v hx
    refine ⟨.iface t (f x), by simp only [den, hv], ?_⟩
    exact makeInterface_ok (hP.ti t i hi) (fun k e1 e2 => hk (by rw [e1, e2])) (f x)
  case makeFunc fn a c =>
    simp only [xop]
    split <;> try trivial
    rename_i x y hx hy
    have h1 := evL_ok he _ _ hx
    have h2 := evL_ok he _ _ hy
    refine ⟨.func fn (a.map f) (c.map f), ?_, rfl⟩
    simp only [den, h1, h2]
    rw [← Array.toList_map, ← Array.toList_map, Array.toArray_toList, Array.toArray_toList]
  case makeMap t r =>
    cases r with
    | none => exact map_ok t hn
    | some r => trivial
  case fieldAddr t x i =>
    simp only [xop]
    split <;> try trivial
    rename_i v ti hx hi
    split <;> try trivial
    rename_i fs hk
    exact fieldAddr_ok (hP.ti t ti hi) hk (he x v hx) i
  case field t x i =>
    simp only [xop]
    split <;> try trivial
    rename_i l ti hx hi
    split <;> try trivial
    rename_i fs hk
    split <;> try trivial
    rename_i ft off sz hf
    cases hfi : tb.ti ft with
    | none => trivial
    | some fi =>
      obtain ⟨p1, p2⟩ := field_ok (P := P) (w := w) (H := H) (nx := nx) (hP.ti t ti hi) (hP.ti ft fi hfi) hk hf (he x _ hx)
      simp only []
      cases ha : fi.k.agg with
      | true =>
        simp only []
        cases hb : Nat.ble (off + fi.size) l.length with
        | true => exact p1 ha (Nat.le_of_ble_eq_true hb)
        | false => trivial
      | false =>
        simp only []
        cases hb : l[off]? with
        | none => trivial
        | some v => exact p2 ha v hb
  case indexAddr t x ix =>
    simp only [xop]
    split <;> try trivial
    · rename_i h o n c v ti hx hv hi
      split <;> try trivial
      rename_i el j hk hj
      obtain ⟨k, hk'⟩ := asN_ok hj (he ix v hv)
      split <;> try trivial
      rename_i ei hei hlt
      have := indexAddr_sl_ok (P := P) (w := w) (H := H) (nx := nx) (hP.ti t ti hi) hk (hP.ti el ei hei) (he x _ hx) (k := k) (by simpa using hlt)
      rw [← hk'] at this
      exact this
    · rename_i h o v ti hx hv hi
      split <;> try trivial
      rename_i m el j hk hj
      obtain ⟨k, hk'⟩ := asN_ok hj (he ix v hv)
      split <;> try trivial
      rename_i ei hei hlt
      have := indexAddr_arr_ok (P := P) (w := w) (H := H) (nx := nx) (hP.ti t ti hi) hk (hP.ti el ei hei) (he x _ hx) (k := k) (by simpa using hlt)
      rw [← hk'] at this
      exact this
    · rename_i h v ti hx hv hi
      split <;> try trivial
      rename_i el k j sz n get hk hj hl
      have hk' := asI_ok hj (he ix v hv)
      split <;> try trivial
      rename_i ei hei
      split <;> try trivial
      rename_i hsz
      have := Nat.eq_of_beq_eq_true hsz
      subst this
      rintro ⟨h0, h1⟩
      have := indexAddr_row_ok (P := P) (w := w) (H := H) (nx := nx) (hP.ti t ti hi) hk (hP.ti el ei hei) hH hl (he x _ hx) (k := k) h0 h1
      rw [← hk'] at this
      exact this
    · rename_i h lo m sz' v ti hx hv hi
      split <;> try trivial
      rename_i el k j sz n get hk hj hl
      have hk' := asI_ok hj (he ix v hv)
      split <;> try trivial
      rename_i ei hei
      split <;> try trivial
      rename_i hsz
      simp only [Bool.and_eq_true] at hsz
      have h1 := Nat.eq_of_beq_eq_true hsz.1
      have h2 := Nat.eq_of_beq_eq_true hsz.2
      subst h1
      subst h2
      rintro ⟨h0, h1, h2⟩
      have := indexAddr_rs_ok (P := P) (w := w) (H := H) (nx := nx) (hP.ti t ti hi) hk (hP.ti el ei hei) hH hl (he x _ hx) (k := k) h0 h1 h2
      rw [← hk'] at this
      exact this
  case index t x ix =>
    simp only [xop]
    split <;> try trivial
    · rename_i l v ti hx hv hi
      split <;> try trivial
      rename_i m el j hk hj
      obtain ⟨k, hk'⟩ := asN_ok hj (he ix v hv)
      cases hei : tb.ti el with
      | none => trivial
      | some ei =>
        simp only []
        split <;> try trivial
        · rename_i hlt ha
          split <;> try trivial
          rename_i hle
          have := (index_arr_ok (P := P) (w := w) (H := H) (nx := nx) (hP.ti t ti hi) hk (hP.ti el ei hei) (he x _ hx) (k := k) (by simpa using hlt)).1 ha (Nat.le_of_ble_eq_true hle)
          rw [← hk'] at this
          exact this
        · rename_i hlt ha
          split <;> try trivial
          rename_i u hu
          have := (index_arr_ok (P := P) (w := w) (H := H) (nx := nx) (hP.ti t ti hi) hk (hP.ti el ei hei) (he x _ hx) (k := k) (by simpa using hlt)).2 ha u hu
          rw [← hk'] at this
          exact this
    · rename_i l v ti hx hv hi
      split <;> try trivial
      rename_i j hk hj
      obtain ⟨k, hk'⟩ := asN_ok hj (he ix v hv)
      split <;> try trivial
      rename_i b hb
      have hs := he x _ hx
      simp only [den, Option.some.injEq] at hs
      have hlt : j < l.length := by
        rcases Nat.lt_or_ge j l.length with h | h
        · exact h
        · rw [List.getElem?_eq_none h] at hb; cases hb
      have := index_str_ok (P := P) (ρ := ρ) (w := w) (H := H) (nx := nx) (hP.ti t ti hi) hk (s := ⟨l.toArray⟩) (k := k) (j := (j : Int)) (by omega) (by show (j : Int) < (l.length : Int); omega)
      rw [hs, ← hk'] at this
      obtain ⟨y, h1, h2⟩ := this
      refine ⟨y, ?_, h2⟩
      rw [← h1]
      rw [List.getElem?_eq_getElem hlt] at hb
      cases hb
      have e : ((j : Int).toNat < (⟨l.toArray⟩ : ByteArray).size) := hlt
      simp only [den, dif_pos e]
      rfl
    · rename_i s v ti hx hv hi
      split <;> try trivial
      rename_i k j hk hj
      have hk' := asI_ok hj (he ix v hv)
      rintro ⟨h0, h1⟩
      have hs := he x _ hx
      simp only [den, Option.some.injEq] at hs
      have := index_str_ok (P := P) (ρ := ρ) (w := w) (H := H) (nx := nx) (hP.ti t ti hi) hk (s := s) (k := k) h0 h1
      rw [hs, ← hk'] at this
      exact this
  case extract x i =>
    simp only [xop]
    split <;> try trivial
    rename_i l hx
    split <;> try trivial
    rename_i v hv
    exact extract_ok (he x _ hx) hv
  case call c =>
    simp only [xop]
    obtain ⟨callee, args, argTypes⟩ := c
    cases callee with
    | value g =>
      simp only []
      split <;> try trivial
      rename_i n a cap l hg hl
      split <;> try trivial
      rename_i hfn
      have h1 := he g _ hg
      have h2 := evL_ok he _ _ hl
      simp only [den] at h1
      cases ha : denL ρ a with
      | none => rw [ha] at h1; cases h1
      | some xa =>
        cases hc : denL ρ cap with
        | none => rw [ha, hc] at h1; cases h1
        | some xc =>
          rw [ha, hc] at h1
          simp only [Option.some.injEq] at h1
          refine ⟨xa ++ args.toList.map f ++ xc, denL_append (denL_append ha h2) hc, ?_⟩
          simp only [execOp, resolve, ← h1, Deferred.ofValue, Sem.run_bind, Sem.run_pure, Result.andThen_ok, invoke]
          rw [hP.fns n hfn]
          simp
    | invoke r m => exact xmore_ok hP hH hn he ⟨dst, .call _, ty, pos, after, guard⟩
    | builtin b =>
      have more := xmore_ok (P := P) (w := w) hP hH hn he ⟨dst, .call ⟨.builtin b, args, argTypes⟩, ty, pos, after, guard⟩
      cases b <;> simp only [] <;> try exact more
      split <;> try trivial
      rename_i x t hx ht
      split <;> try trivial
      rename_i v hv
      have e1 : args = #[x] := by rw [← Array.toArray_toList (xs := args), hx]
      have e2 : argTypes = #[t] := by rw [← Array.toArray_toList (xs := argTypes), ht]
      subst e1; subst e2
      have := tlen_ok (P := P) (w := w) (nx := nx) hP hH t (he x v hv) ty
      simp only [execOp, resolve, Sem.run_bind, Sem.run_pure, Result.andThen_ok, invoke, builtin]
      simpa using this
  case panic x =>
    simp only [xop]
    split <;> try trivial
    rename_i t v hx
    have h1 := he x _ hx
    refine ⟨f x, h1, ?_⟩
    simp only [den] at h1
    split at h1
    case h_2 => cases h1
    have h1 := Option.some.inj h1
    simp only [execOp, ← h1, Instr.panic, Sem.run_bind]
    rfl
  all_goals exact xmore_ok hP hH hn he _
end
end Go.Sx
