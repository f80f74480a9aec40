/- What the symbolic operations say holds of the program's own: operators of two operands; all operations in one law. -/
import Derived.Test.YtiibmnoikgfcbaaDoorX3
namespace Go.Sx
open Go.RowKit
set_option linter.unusedVariables false
set_option linter.unusedSimpArgs false
section
variable {P : Program} {tb : Tab} {ρ : Vl} {w : World} {H : List (Nat × SO)} {nx : Nat}

theorem kEq_ok {a b : IntKind} (h : kEq a b = true) : a = b := by cases a <;> cases b <;> first | rfl | cases h
theorem eqI_ok (x y : Int) : eqI x y = (x == y) := by
  cases x <;> cases y <;> simp only [eqI]
  · rw [Bool.eq_iff_iff]; simp [Int.ofNat_inj]
  · rename_i a b; symm; simp
  · rename_i a b; symm; simp
  · rw [Bool.eq_iff_iff]; simp
theorem ltI_ok (x y : Int) : ltI x y = decide (x < y) := by
  cases x <;> cases y <;> simp only [ltI]
  · rw [Bool.eq_iff_iff]; simp
  · rename_i a b; symm; simp; omega
  · rename_i a b; symm; simp; omega
  · rw [Bool.eq_iff_iff]; simp; omega
theorem eqGuard_int (op : BinOp) (t : Nat) (x y : Operand) (k k' : IntKind) (a b : Int) : (eqGuard op t x y (.int k a) (.int k' b)).run P w = .ok () w := by
  unfold eqGuard; cases op <;> simp
theorem eqGuard_str (op : BinOp) (t : Nat) (x y : Operand) (a b : ByteArray) : (eqGuard op t x y (.string a) (.string b)).run P w = .ok () w := by
  unfold eqGuard; cases op <;> simp
theorem eqGuard_bool (op : BinOp) (t : Nat) (x y : Operand) (a b : Bool) : (eqGuard op t x y (.bool a) (.bool b)).run P w = .ok () w := by
  unfold eqGuard; cases op <;> simp

theorem mk_ok (lit : Bool) (k : IntKind) (z : Int) {r : Result Next} (h : r = .ok (.value (.int k z)) w) : RunOk ρ w H nx r (match lit with | true => .val (.n k z) | false => .val (.i k z)) := by
  cases lit <;> exact ⟨_, rfl, h⟩

theorem xint_ok (op : BinOp) (t : Nat) (x y : Operand) (k k' : IntKind) (a b : Int) (lit ylit : Bool) (hk : kindsFit op k k' = true) :
    RunOk ρ w H nx ((do pure (Next.value (← do eqGuard op t x y (.int k a) (.int k' b); binOp op t (.int k a) (.int k' b))) : Sem Next).run P w) (xint op k a b lit ylit) := by
  have hg := eqGuard_int (P := P) (w := w) op t x y k k' a b
  have e : (do pure (Next.value (← do eqGuard op t x y (.int k a) (.int k' b); binOp op t (.int k a) (.int k' b))) : Sem Next).run P w = ((binOp op t (.int k a) (.int k' b)).run P w).andThen fun v w' => .ok (.value v) w' := by
    simp only [Sem.run_bind, hg, Result.andThen_ok, Sem.run_pure]
  rw [e]
  cases op
  case shl =>
    unfold xint
    cases ylit with
    | true =>
      simp only []
      rw [ltI_ok]
      by_cases h0 : b < 0
      · simp only [h0, decide_true]; trivial
      · simp only [h0, decide_false]
        exact mk_ok lit k _ (by simp [binOp, Op.shift, h0])
    | false =>
      intro h0
      exact mk_ok lit k _ (by simp [binOp, Op.shift, show ¬ b < 0 from by omega])
  case shr =>
    unfold xint
    cases ylit with
    | true =>
      simp only []
      rw [ltI_ok]
      by_cases h0 : b < 0
      · simp only [h0, decide_true]; trivial
      · simp only [h0, decide_false]
        exact mk_ok lit k _ (by simp [binOp, Op.shift, h0])
    | false =>
      intro h0
      exact mk_ok lit k _ (by simp [binOp, Op.shift, show ¬ b < 0 from by omega])
  all_goals
    simp only [kindsFit] at hk
    have := kEq_ok hk
    subst this
  case quo =>
    unfold xint
    cases ylit with
    | true =>
      simp only []
      rw [eqI_ok]
      by_cases h0 : b = 0
      · simp only [h0, BEq.rfl]; trivial
      · simp only [show (b == 0) = false from by simpa using h0]
        exact mk_ok lit k _ (by simp [binOp, Op.intDiv, h0])
    | false =>
      intro h0
      exact mk_ok lit k _ (by simp [binOp, Op.intDiv, h0])
  case rem =>
    unfold xint
    cases ylit with
    | true =>
      simp only []
      rw [eqI_ok]
      by_cases h0 : b = 0
      · simp only [h0, BEq.rfl]; trivial
      · simp only [show (b == 0) = false from by simpa using h0]
        exact mk_ok lit k _ (by simp [binOp, Op.intDiv, h0])
    | false =>
      intro h0
      exact mk_ok lit k _ (by simp [binOp, Op.intDiv, h0])
  case add => exact mk_ok lit k _ (by simp [binOp, Op.intArith, arithI])
  case sub => exact mk_ok lit k _ (by simp [binOp, Op.intArith, arithI])
  case mul => exact mk_ok lit k _ (by simp [binOp, Op.intArith, arithI])
  case and => exact mk_ok lit k _ (by simp [binOp, Op.intBits, bitI])
  case or => exact mk_ok lit k _ (by simp [binOp, Op.intBits, bitI])
  case xor => exact mk_ok lit k _ (by simp [binOp, Op.intBits, bitI])
  case andNot => exact mk_ok lit k _ (by simp [binOp, Op.intBits, bitI])
  all_goals
    unfold xint
    cases lit
    · exact ⟨_, rfl, by simp [binOp, Op.intCmp]⟩
    · refine ⟨_, rfl, ?_⟩
      simp only [eqI_ok, ltI_ok, binOp, Op.intCmp, ne_eq, not_true_eq_false, if_false, Sem.run_pure, Result.andThen_ok]
      first
        | done
        | rfl
        | (congr 3; rw [Bool.eq_iff_iff]; simp; done)
        | (congr 3; rw [Bool.eq_iff_iff]; simp; omega)

theorem asB_ok {v : SV} {b : Bool} {x : Value} (h : asB v = some b) (hx : den ρ v = some x) : x = .bool b := by
  cases v <;> simp only [asB, Option.some.injEq, reduceCtorEq] at h
  all_goals
    subst h
    simp only [den, Option.some.injEq] at hx
    exact hx.symm

theorem eqCell_ok {c : CK} {u v : SV} {r : Bool} {x y : Value} (h : eqCell c u v = some r) (hx : den ρ u = some x) (hy : den ρ v = some y) : ckFits c x = true ∧ ckFits c y = true ∧ eqV1 x y = r := by
  cases c <;> simp only [eqCell] at h
  · split at h
    case h_2 => cases h
    rename_i k j a j' b h1 h2
    split at h
    case h_2 => cases h
    rename_i hk
    simp only [Bool.and_eq_true] at hk
    have e1 := kEq_ok hk.1
    have e2 := kEq_ok hk.2
    subst e1; subst e2
    cases h
    rw [asI_ok h1 hx, asI_ok h2 hy]
    simp [ckFits, eqV1]
  · split at h
    case h_2 => cases h
    rename_i a b h1 h2
    cases h
    rw [asB_ok h1 hx, asB_ok h2 hy]
    simp [ckFits, eqV1]
  · split at h
    case h_2 => cases h
    rename_i a b h1 h2
    cases h
    rw [← den_unls, h1] at hx
    rw [← den_unls, h2] at hy
    simp only [den, Option.some.injEq] at hx hy
    subst hx; subst hy
    simp [ckFits, eqV1]
theorem eqCells_ok : ∀ {cs : List CK} {l l' : List SV} {r : Bool} {xs ys : List Value}, eqCells cs l l' = some r → denL ρ l = some xs → denL ρ l' = some ys → ckAll cs xs = true ∧ ckAll cs ys = true ∧ eqV xs ys = r
  | [], [], [], r, xs, ys, h, hx, hy => by cases h; cases hx; cases hy; exact ⟨rfl, rfl, rfl⟩
  | c :: cs, u :: l, v :: l', r, xs, ys, h, hx, hy => by
    simp only [eqCells] at h
    split at h
    case h_2 => cases h
    rename_i a r' h1 h2
    cases h
    obtain ⟨x, xs', rfl, hx1, hx2⟩ := denL_cons hx
    obtain ⟨y, ys', rfl, hy1, hy2⟩ := denL_cons hy
    obtain ⟨p1, p2, p3⟩ := eqCell_ok h1 hx1 hy1
    obtain ⟨q1, q2, q3⟩ := eqCells_ok h2 hx2 hy2
    exact ⟨by simp [ckAll, p1, q1], by simp [ckAll, p2, q2], by simp [eqV, p3, q3]⟩
  | [], [], _ :: _, _, _, _, h, _, _ | [], _ :: _, _, _, _, _, h, _, _ | _ :: _, [], _, _, _, _, h, _, _ | _ :: _, _ :: _, [], _, _, _, h, _, _ => by simp [eqCells] at h

theorem nilCmp_ok {t : Nat} {i : Ti} (hi : TiOk P t i) {u v : SV} {r : Bool} {x y : Value} (h : nilCmp i.k u v = some r) (hx : den ρ u = some x) (hy : den ρ v = some y) :
    (Op.equal t x y).run P w = .ok r w ∧ (∀ op o o', (eqGuard op t o o' x y).run P w = .ok () w) ∧
    (binOp .eql t x y = do pure (.bool (← Op.equal t x y))) ∧ (binOp .neq t x y = do pure (.bool (!(← Op.equal t x y)))) := by
  obtain ⟨d, hu, hfit⟩ := hi.und
  unfold nilCmp at h
  split at h <;> try cases h
  all_goals
    rename_i hk
    rw [hk] at hfit
    cases d <;> simp only [TK.fits] at hfit
    simp only [den] at hx hy
    (try split at hx) <;> (try split at hy) <;> (try cases hx) <;> (try cases hy)
    all_goals
      refine ⟨?_, ?_, rfl, rfl⟩
      · unfold Op.equal Op.equalIn Op.maxDepth; simp [run_underlying hu]
      · intro op o o'; unfold eqGuard; cases op <;> simp

theorem xbin0_ok (hP : TabOk P tb) (op : BinOp) (t : Nat) (o o' : Operand) {u v : SV} {x y : Value} (hx : den ρ u = some x) (hy : den ρ v = some y) :
    RunOk ρ w H nx ((do pure (Next.value (← do eqGuard op t o o' x y; binOp op t x y)) : Sem Next).run P w) (xbin0 tb op t u v) := by
  have wrap : ∀ (b : Bool) (sv : SV), den ρ sv = some (.bool b) → (eqGuard op t o o' x y).run P w = .ok () w → (binOp op t x y).run P w = .ok (.bool b) w →
      RunOk ρ w H nx ((do pure (Next.value (← do eqGuard op t o o' x y; binOp op t x y)) : Sem Next).run P w) (.val sv) := fun b sv h1 h2 h3 =>
    ⟨.bool b, h1, by simp only [Sem.run_bind, h2, Result.andThen_ok, h3, Sem.run_pure]⟩
  unfold xbin0
  split
  · simp only [den, Option.some.injEq] at hx hy; subst hx; subst hy
    split
    · rename_i hk; exact xint_ok op t o o' _ _ _ _ _ _ hk
    · trivial
  · simp only [den, Option.some.injEq] at hx hy; subst hx; subst hy
    split
    · rename_i hk; exact xint_ok op t o o' _ _ _ _ _ _ hk
    · trivial
  · simp only [den, Option.some.injEq] at hx hy; subst hx; subst hy
    split
    · rename_i hk; exact xint_ok op t o o' _ _ _ _ _ _ hk
    · trivial
  · simp only [den, Option.some.injEq] at hx hy; subst hx; subst hy
    split
    · rename_i hk; exact xint_ok op t o o' _ _ _ _ _ _ hk
    · trivial
  · simp only [den, Option.some.injEq] at hx hy; subst hx; subst hy
    rename_i a b
    have hg := eqGuard_str (P := P) (w := w) op t o o' a b
    split
    · intro hle
      refine ⟨.string (a ++ b), rfl, ?_⟩
      simp only [Sem.run_bind, hg, Result.andThen_ok]
      simp [binOp, Op.stringOp]
      omega
    · exact wrap _ _ rfl hg (by simp [binOp, Op.stringOp])
    · exact wrap _ _ rfl hg (by simp [binOp, Op.stringOp])
    · trivial
  · split
    · rename_i a b h1 h2
      have e1 := asB_ok h1 hx
      have e2 := asB_ok h2 hy
      subst e1; subst e2
      have hg := eqGuard_bool (P := P) (w := w) op t o o' a b
      split
      · rename_i ht
        obtain ⟨i, hi, hk⟩ := Option.map_eq_some_iff.1 ht
        obtain ⟨d, hu, hfit⟩ := (hP.ti t i hi).und
        rw [hk] at hfit
        cases d <;> simp only [TK.fits] at hfit
        exact wrap _ _ rfl hg (by unfold binOp Op.equal Op.equalIn Op.maxDepth; simp [run_underlying hu])
      · rename_i ht
        obtain ⟨i, hi, hk⟩ := Option.map_eq_some_iff.1 ht
        obtain ⟨d, hu, hfit⟩ := (hP.ti t i hi).und
        rw [hk] at hfit
        cases d <;> simp only [TK.fits] at hfit
        exact wrap _ _ rfl hg (by unfold binOp Op.equal Op.equalIn Op.maxDepth; simp [run_underlying hu])
      · trivial
    · split
      · rename_i l l' _ _ _ _ _ _
        split
        case h_2 => trivial
        rename_i r hr
        obtain ⟨cs, hcs, he⟩ := Option.bind_eq_some_iff.1 hr
        simp only [den] at hx hy
        cases hd : denL ρ l with
        | none => rw [hd] at hx; cases hx
        | some xs =>
          cases hd' : denL ρ l' with
          | none => rw [hd'] at hy; cases hy
          | some ys =>
            rw [hd] at hx; cases hx
            rw [hd'] at hy; cases hy
            obtain ⟨c1, c2, c3⟩ := eqCells_ok he hd hd'
            obtain ⟨q1, q2⟩ := (hP.eqs t cs hcs).1
            have hq := q2 xs ys w c1 c2
            rw [c3] at hq
            have hg : (eqGuard op t o o' (.agg xs.toArray) (.agg ys.toArray)).run P w = .ok () w := by
              unfold eqGuard; cases op <;> simp [q1]
            split
            · exact wrap _ _ rfl hg (by simp [binOp, hq])
            · exact wrap _ _ rfl hg (by simp [binOp, hq])
            · trivial
      · split
        case h_2 => trivial
        rename_i i hi
        split
        case h_2 => trivial
        rename_i r hr
        obtain ⟨h1, h2, h3, h4⟩ := nilCmp_ok (P := P) (w := w) (hP.ti t i hi) hr hx hy
        split
        · exact wrap _ _ rfl (h2 _ _ _) (by rw [h3]; simp [h1])
        · exact wrap _ _ rfl (h2 _ _ _) (by rw [h4]; simp [h1])
        · trivial

theorem xbin_ok (hP : TabOk P tb) (op : BinOp) (t : Nat) (o o' : Operand) {u v : SV} {x y : Value} (hx : den ρ u = some x) (hy : den ρ v = some y) :
    RunOk ρ w H nx ((do pure (Next.value (← do eqGuard op t o o' x y; binOp op t x y)) : Sem Next).run P w) (xbin tb op t u v) :=
  xbin0_ok hP op t o o' ((den_unls ρ u).trans hx) ((den_unls ρ v).trans hy)

theorem tlen_ok (hP : TabOk P tb) (hH : HOk ρ w H) (t : Nat) {v : SV} {x : Value} (hx : den ρ v = some x) (ty : Nat) :
    RunOk ρ w H nx ((do pure (Next.value (← Builtin.len_ #[t] ty #[x])) : Sem Next).run P w) (tlen tb H t v) := by
  unfold tlen
  cases hti : tb.ti t with
  | none => trivial
  | some i =>
    obtain ⟨d, hu, hfit⟩ := (hP.ti t i hti).und
    simp only []
    split <;> try trivial
    · rename_i s hk
      rw [hk] at hfit
      cases d <;> simp only [TK.fits] at hfit
      simp only [den, Option.some.injEq] at hx
      subst hx
      exact ⟨_, rfl, by simp [Builtin.len_, run_underlying hu, goInt]⟩
    · rename_i l hk
      rw [hk] at hfit
      cases d <;> simp only [TK.fits] at hfit
      simp only [den, Option.some.injEq] at hx
      subst hx
      exact ⟨_, rfl, by simp [Builtin.len_, run_underlying hu, goInt]; rfl⟩
    · rename_i e hk
      rw [hk] at hfit
      cases d <;> simp only [TK.fits] at hfit
      simp only [den, Option.some.injEq] at hx
      subst hx
      exact ⟨_, rfl, by simp [Builtin.len_, run_underlying hu, goInt]⟩
    · rename_i e h o n c hk
      rw [hk] at hfit
      cases d <;> simp only [TK.fits] at hfit
      simp only [den] at hx
      split at hx
      case h_2 => cases hx
      cases hx
      exact ⟨_, rfl, by simp [Builtin.len_, run_underlying hu, goInt]⟩
    · rename_i e h lo n sz hk
      rw [hk] at hfit
      cases d <;> simp only [TK.fits] at hfit
      simp only [den] at hx
      split at hx
      case h_2 => cases hx
      cases hx
      exact ⟨_, rfl, by simp [Builtin.len_, run_underlying hu, goInt]⟩
    · rename_i e h hk
      rw [hk] at hfit
      cases d <;> simp only [TK.fits] at hfit
      split <;> try trivial
      all_goals
        rename_i hl
        obtain ⟨a, c, hr, hrow⟩ := row_lk hH (by rw [hl]; rfl)
        simp only [den, hr, Option.some.injEq] at hx
        subst hx
        exact ⟨_, rfl, by simp [Builtin.len_, run_underlying hu, goInt]⟩
end
end Go.Sx
