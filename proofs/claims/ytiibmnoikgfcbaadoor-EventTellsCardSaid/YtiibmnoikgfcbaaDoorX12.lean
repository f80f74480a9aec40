/- Regions in any order, by what holds where some operations are done; insertions under struct keys. No condition. -/
import Derived.Test.YtiibmnoikgfcbaaDoorX11
namespace Go.Sx
open Go.RowKit
set_option linter.unusedVariables false
set_option linter.unusedSimpArgs false

theorem wpOp_of_goal {P : Program} {ops : Array Oper} {Q : Exit → Act → World → Prop} {N : Act → World → Prop} {a : Act} {w : World} {i : Nat} {o : Oper} (ho : ops[i]? = some o) (h : DGoal P ops o a w N Q) : wpOp P ops Q i N a w := by
  unfold wpOp
  rw [ho]
  simp only []
  unfold DGoal at h
  split
  · rename_i hw
    rw [if_pos hw] at h
    exact .inl h
  · rename_i hw
    rw [if_neg hw] at h
    exact h
theorem dgoal_bare {P : Program} {ops : Array Oper} {Q : Exit → Act → World → Prop} {N : Act → World → Prop} {a : Act} {w : World} {o : Oper} (hg : o.guard = none) (h : o.upon P a N Q ((execOp a.eval o).run P w)) : DGoal P ops o a w N Q := by
  unfold DGoal
  rw [if_pos (by simp [Region.wanted, hg])]
  exact h
def befB : List Oper → Nat → Bool
  | [], _ => true
  | o :: r, i => o.after.toList.all (fun e => Nat.blt e.on i) && befB r (i + 1)
theorem befB_ok : ∀ {l : List Oper} {k : Nat}, befB l k = true → ∀ i o, l[i]? = some o → ∀ e ∈ o.after, e.on < k + i
  | [], k, _, i, o, ho, e, he => by simp at ho
  | o' :: r, k, h, i, o, ho, e, he => by
    simp only [befB, Bool.and_eq_true] at h
    cases i with
    | zero =>
      simp only [List.getElem?_cons_zero, Option.some.injEq] at ho
      subst ho
      have := List.all_eq_true.1 h.1 e (by simpa using he)
      simpa [Nat.blt_eq] using this
    | succ i =>
      simp only [List.getElem?_cons_succ] at ho
      have := befB_ok h.2 i o ho e he
      omega
/-- A region in any order: what holds where the operations of a set are done. -/
theorem inv_any {P : Program} {ops : Array Oper} {Q : Exit → Act → World → Prop} (I : (Nat → Bool) → Act → World → Prop)
    (bef : befB ops.toList 0 = true)
    (step : ∀ (L : Nat → Bool) a w i o, ops.toList[i]? = some o → L i = false → (∀ e ∈ o.after, Region.binds .any e = true → L e.on = true) → I L a w → DGoal P ops o a w (I fun j => j == i || L j) Q)
    (fin : ∀ L a w, (∀ i, i < ops.size → L i = true) → I L a w → Q .normal a w) :
    ∀ (fuel : Nat) (listed : Array Bool) (a : Act) (w : World), listed.size = ops.size → listed.toList.countP (· == false) ≤ fuel → I (fun i => listed.getD i false) a w → wpAny P .any ops Q fuel listed a w := by
  have before : ∀ i o, ops[i]? = some o → ∀ e ∈ o.after, Region.binds .any e = true → e.on < i := fun i o ho e he _ => by
    have := befB_ok bef i o (by rw [Array.getElem?_toList]; exact ho) e he
    omega
  have unlisted : ∀ (listed : Array Bool), listed.size = ops.size → Region.ready .any ops listed = [] → ∀ i, i < ops.size → listed.getD i false = true := fun listed hsz hr i => by
    induction i using Nat.strongRecOn with
    | _ i ih =>
      intro hi
      cases hl : listed.getD i false with
      | true => rfl
      | false =>
        exfalso
        have hmem : i ∈ Region.ready .any ops listed := by
          rw [mem_ready]
          refine ⟨?_, _, Array.getElem?_eq_getElem hi, fun e he hb => ?_⟩
          · rw [Array.getD_eq_getD_getElem?] at hl ⊢
            rw [Array.getElem?_eq_getElem (by omega)] at hl ⊢
            exact hl
          · have h2 := before i _ (Array.getElem?_eq_getElem hi) e he hb
            exact ih e.on h2 (by omega)
        rw [hr] at hmem
        cases hmem
  intro fuel
  induction fuel with
  | zero =>
    intro listed a w hsz hc hI
    have hall : ∀ i, i < ops.size → listed.getD i false = true := fun i hi => by
      have h0 : listed.toList.countP (· == false) = 0 := by omega
      rw [List.countP_eq_zero] at h0
      rw [Array.getD_eq_getD_getElem?, Array.getElem?_eq_getElem (by omega)]
      have := h0 (listed[i]'(by omega)) (by simp)
      simpa using this
    refine ⟨?_, fin _ a w hall hI⟩
    cases hr : Region.ready .any ops listed with
    | nil => rfl
    | cons j r =>
      have hj : j ∈ Region.ready .any ops listed := by rw [hr]; exact List.mem_cons_self ..
      rw [mem_ready] at hj
      obtain ⟨h1, o, ho, _⟩ := hj
      have hlt : j < ops.size := (Array.getElem?_eq_some_iff.1 ho).1
      have h2 := hall j hlt
      rw [Array.getD_eq_getD_getElem?, Array.getElem?_eq_getElem (by omega)] at h1 h2
      simp only [Option.getD_some] at h1 h2
      rw [h1] at h2; cases h2
  | succ fuel ih =>
    intro listed a w hsz hc hI
    refine ⟨fun hr => fin _ a w (unlisted listed hsz hr) hI, fun i hi => ?_⟩
    rw [mem_ready] at hi
    obtain ⟨h1, o, ho, hpre⟩ := hi
    have hlt : i < ops.size := (Array.getElem?_eq_some_iff.1 ho).1
    have hlf : listed[i]? = some false := by
      rw [Array.getD_eq_getD_getElem?, Array.getElem?_eq_getElem (by omega)] at h1
      rw [Array.getElem?_eq_getElem (by omega)]
      simpa using h1
    have hu : listed.getD i false = false := by rw [Array.getD_eq_getD_getElem?, hlf]; rfl
    have setD : (fun j => (listed.setIfInBounds i true).getD j false) = fun j => j == i || listed.getD j false := by
      funext j
      by_cases e : j = i
      · subst e
        rw [Array.getD_eq_getD_getElem?, Array.getElem?_setIfInBounds_self_of_lt (by omega)]
        simp
      · rw [getD_set_ne false (Ne.symm e)]
        simp [e]
    refine wpOp_mono (fun a' w' hI' => ?_) (wpOp_of_goal ho (step _ a w i o (by rw [Array.getElem?_toList]; exact ho) hu (fun e he hb => hpre e he hb) hI))
    refine ih _ a' w' (by simp [hsz]) ?_ (by rw [setD]; exact hI')
    have := countP_set_false (l := listed.toList) (i := i) (by simpa using hlf)
    rw [Array.toList_setIfInBounds]
    omega

theorem inv_region {P : Program} {ops : Array Oper} {Q : Exit → Act → World → Prop} {id : Nat} (hm : P.follows .mixedOrders = true) (I : (Nat → Bool) → Act → World → Prop)
    (bef : befB ops.toList 0 = true)
    (step : ∀ (L : Nat → Bool) a w i o, ops.toList[i]? = some o → L i = false → (∀ e ∈ o.after, Region.binds .any e = true → L e.on = true) → I L a w → DGoal P ops o a w (I fun j => j == i || L j) Q)
    (fin : ∀ L a w, (∀ i, i < ops.size → L i = true) → I L a w → Q .normal a w) {a : Act} {w : World} (h0 : I (fun _ => false) a { w with drawn := w.drawn + 1 }) : (Code.region id ops true).wp P Q a w := by
  refine wp_region_any hm (inv_any I bef step fin _ _ _ _ (by simp) (Nat.le_trans List.countP_le_length (by simp)) ?_)
  have : (fun i => (Array.replicate ops.size false).getD i false) = fun _ => false := by
    funext i
    rw [Array.getD_eq_getD_getElem?]
    by_cases h : i < ops.size
    · rw [Array.getElem?_eq_getElem (by simpa using h)]; simp
    · rw [Array.getElem?_eq_none (by simpa using h)]; rfl
  rw [this]
  exact h0

/-- A new key that is a struct. -/
theorem run_insert_st {P : Program} {w : World} {t kt et : Nat} {fs : Array Field} (hu : P.underlying t = some (.map kt et)) (huk : P.underlying kt = some (.struct fs)) {cs : List CK} (hEq : EqOk P kt cs) (hKey : KeyOk P kt cs)
    {b : Nat} {en : Array MapEntry} {clk : Nat} (hb : w.heap[b]? = some (.map en clk)) {xs : List Value} (hxs : ckAll cs xs = true) (hen : ∀ e ∈ en.toList, ∃ ys : List Value, e.key = .agg ys.toArray ∧ ckAll cs ys = true ∧ eqV xs ys = false) (c : Value) :
    (Instr.mapUpdate t (.map (some b)) (.agg xs.toArray) c).run P w = .ok () { w with heap := w.heap.setIfInBounds b (.map (en.push { key := .agg xs.toArray, val := c, born := clk }) (clk + 1)) } := by
  have hask : ∃ r, (Instr.findAsking kt (.agg xs.toArray) en.toList 0).run P w = .ok r w ∧ (r.map (·.2)) = (en.toList.find? fun e => (fun v => match v with | Value.agg cs => eqV xs cs.toList | _ => false) e.key).map (·.val) :=
    run_findAsking (fun v => match v with | Value.agg cs => eqV xs cs.toList | _ => false) en.toList 0 fun e he => by
      obtain ⟨ys, h1, h2, _⟩ := hen e he
      rw [h1]
      exact hEq.2 xs ys w hxs h2
  obtain ⟨r, f1, f2⟩ := hask
  have hnone : (en.toList.find? fun e => (fun v => match v with | Value.agg cs => eqV xs cs.toList | _ => false) e.key) = none := by
    rw [List.find?_eq_none]
    intro e he
    obtain ⟨ys, h1, _, h3⟩ := hen e he
    rw [h1]
    simpa using h3
  rw [hnone] at f2
  have hr0 : r = none := by cases r <;> simp at f2 ⊢
  subst hr0
  have hfind : (Instr.findKey kt (.agg xs.toArray) en.toList).run P w = .ok none w := by
    cases hn : en.toList with
    | nil => simp [Instr.findKey, run_underlying huk, Instr.findNow]
    | cons e rr =>
      have : Instr.findNow (.struct fs) (.agg xs.toArray) en.toList 0 = none := by
        rw [hn]
        simp [Instr.findNow, Instr.sameNow]
      rw [← hn]
      simp [Instr.findKey, run_underlying huk, this, f1]
  simp [Instr.mapUpdate, run_underlying hu, MapKept.run_getObj_map hb, hKey _ xs w hxs, hfind, MapKept.run_setObj_map _ hb]
theorem wp_assign1 {P : Program} {Q : Exit → Act → World → Prop} {a : Act} {w : World} {id d ty : Nat} {v : Value} {ps : String} (h : Q .normal (a.put (some d) v) w) :
    (Code.region id #[{ dst := some d, op := .assign (.const v), type := ty, pos := ps, after := #[], guard := none }] false).wp P Q a w :=
  wp_region (.inl h)
end Go.Sx
