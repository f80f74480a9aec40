/- Regions in any order, by what holds where some operations are done; insertions under struct keys. No condition. A table that the library reads, as an object that is only read; calls that begin with it; rows that a call makes. No condition. Calls that are given a row that is only read. No condition. A region in any order, of which one operation panics: every order comes to it. No condition. -/
import Derived.Test.YtiibmnoikgfcbaaDoorX11
import Derived.Lib.LaidTab
namespace Go.Sx
open Go.RowKit
set_option linter.unusedVariables false
set_option linter.unusedSimpArgs false

theorem wpOp_of_goal {P : Program} {ops : Array Oper} {Q : Exit → Act → World → Prop} {N : Act → World → Prop} {a : Act} {w : World} {i : Nat} {o : Oper} (ho : ops[i]? = some o) (h : DGoal P ops o a w N Q) : wpOp P ops Q i N a w := by
  unfold wpOp
  rw [ho]
  simp only []
  unfold DGoal at h
  split
  · rename_i hw
    rw [if_pos hw] at h
    exact .inl h
  · rename_i hw
    rw [if_neg hw] at h
    exact h
theorem dgoal_bare {P : Program} {ops : Array Oper} {Q : Exit → Act → World → Prop} {N : Act → World → Prop} {a : Act} {w : World} {o : Oper} (hg : o.guard = none) (h : o.upon P a N Q ((execOp a.eval o).run P w)) : DGoal P ops o a w N Q := by
  unfold DGoal
  rw [if_pos (by simp [Region.wanted, hg])]
  exact h
def befB : List Oper → Nat → Bool
  | [], _ => true
  | o :: r, i => o.after.toList.all (fun e => Nat.blt e.on i) && befB r (i + 1)
theorem befB_ok : ∀ {l : List Oper} {k : Nat}, befB l k = true → ∀ i o, l[i]? = some o → ∀ e ∈ o.after, e.on < k + i
  | [], k, _, i, o, ho, e, he => by simp at ho
  | o' :: r, k, h, i, o, ho, e, he => by
    simp only [befB, Bool.and_eq_true] at h
    cases i with
    | zero =>
      simp only [List.getElem?_cons_zero, Option.some.injEq] at ho
      subst ho
      have := List.all_eq_true.1 h.1 e (by simpa using he)
      simpa [Nat.blt_eq] using this
    | succ i =>
      simp only [List.getElem?_cons_succ] at ho
      have := befB_ok h.2 i o ho e he
      omega
/-- A region in any order: what holds where the operations of a set are done. -/
theorem inv_any {P : Program} {ops : Array Oper} {Q : Exit → Act → World → Prop} (I : (Nat → Bool) → Act → World → Prop)
    (bef : befB ops.toList 0 = true)
    (step : ∀ (L : Nat → Bool) a w i o, ops.toList[i]? = some o → L i = false → (∀ e ∈ o.after, Region.binds .any e = true → L e.on = true) → I L a w → DGoal P ops o a w (I fun j => j == i || L j) Q)
    (fin : ∀ L a w, (∀ i, i < ops.size → L i = true) → I L a w → Q .normal a w) :
    ∀ (fuel : Nat) (listed : Array Bool) (a : Act) (w : World), listed.size = ops.size → listed.toList.countP (· == false) ≤ fuel → I (fun i => listed.getD i false) a w → wpAny P .any ops Q fuel listed a w := by
  have before : ∀ i o, ops[i]? = some o → ∀ e ∈ o.after, Region.binds .any e = true → e.on < i := fun i o ho e he _ => by
    have := befB_ok bef i o (by rw [Array.getElem?_toList]; exact ho) e he
    omega
  have unlisted : ∀ (listed : Array Bool), listed.size = ops.size → Region.ready .any ops listed = [] → ∀ i, i < ops.size → listed.getD i false = true := fun listed hsz hr i => by
    induction i using Nat.strongRecOn with
    | _ i ih =>
      intro hi
      cases hl : listed.getD i false with
      | true => rfl
      | false =>
        exfalso
        have hmem : i ∈ Region.ready .any ops listed := by
          rw [mem_ready]
          refine ⟨?_, _, Array.getElem?_eq_getElem hi, fun e he hb => ?_⟩
          · rw [Array.getD_eq_getD_getElem?] at hl ⊢
            rw [Array.getElem?_eq_getElem (by omega)] at hl ⊢
            exact hl
          · have h2 := before i _ (Array.getElem?_eq_getElem hi) e he hb
            exact ih e.on h2 (by omega)
        rw [hr] at hmem
        cases hmem
  intro fuel
  induction fuel with
  | zero =>
    intro listed a w hsz hc hI
    have hall : ∀ i, i < ops.size → listed.getD i false = true := fun i hi => by
      have h0 : listed.toList.countP (· == false) = 0 := by omega
      rw [List.countP_eq_zero] at h0
      rw [Array.getD_eq_getD_getElem?, Array.getElem?_eq_getElem (by omega)]
      have := h0 (listed[i]'(by omega)) (by simp)
      simpa using this
    refine ⟨?_, fin _ a w hall hI⟩
    cases hr : Region.ready .any ops listed with
    | nil => rfl
    | cons j r =>
      have hj : j ∈ Region.ready .any ops listed := by rw [hr]; exact List.mem_cons_self ..
      rw [mem_ready] at hj
      obtain ⟨h1, o, ho, _⟩ := hj
      have hlt : j < ops.size := (Array.getElem?_eq_some_iff.1 ho).1
      have h2 := hall j hlt
      rw [Array.getD_eq_getD_getElem?, Array.getElem?_eq_getElem (by omega)] at h1 h2
      simp only [Option.getD_some] at h1 h2
      rw [h1] at h2; cases h2
  | succ fuel ih =>
    intro listed a w hsz hc hI
    refine ⟨fun hr => fin _ a w (unlisted listed hsz hr) hI, fun i hi => ?_⟩
    rw [mem_ready] at hi
    obtain ⟨h1, o, ho, hpre⟩ := hi
    have hlt : i < ops.size := (Array.getElem?_eq_some_iff.1 ho).1
    have hlf : listed[i]? = some false := by
      rw [Array.getD_eq_getD_getElem?, Array.getElem?_eq_getElem (by omega)] at h1
      rw [Array.getElem?_eq_getElem (by omega)]
      simpa using h1
    have hu : listed.getD i false = false := by rw [Array.getD_eq_getD_getElem?, hlf]; rfl
    have setD : (fun j => (listed.setIfInBounds i true).getD j false) = fun j => j == i || listed.getD j false := by
      funext j
      by_cases e : j = i
      · subst e
        rw [Array.getD_eq_getD_getElem?, Array.getElem?_setIfInBounds_self_of_lt (by omega)]
        simp
      · rw [getD_set_ne false (Ne.symm e)]
        simp [e]
    refine wpOp_mono (fun a' w' hI' => ?_) (wpOp_of_goal ho (step _ a w i o (by rw [Array.getElem?_toList]; exact ho) hu (fun e he hb => hpre e he hb) hI))
    refine ih _ a' w' (by simp [hsz]) ?_ (by rw [setD]; exact hI')
    have := countP_set_false (l := listed.toList) (i := i) (by simpa using hlf)
    rw [Array.toList_setIfInBounds]
    omega

theorem inv_region {P : Program} {ops : Array Oper} {Q : Exit → Act → World → Prop} {id : Nat} (hm : P.follows .mixedOrders = true) (I : (Nat → Bool) → Act → World → Prop)
    (bef : befB ops.toList 0 = true)
    (step : ∀ (L : Nat → Bool) a w i o, ops.toList[i]? = some o → L i = false → (∀ e ∈ o.after, Region.binds .any e = true → L e.on = true) → I L a w → DGoal P ops o a w (I fun j => j == i || L j) Q)
    (fin : ∀ L a w, (∀ i, i < ops.size → L i = true) → I L a w → Q .normal a w) {a : Act} {w : World} (h0 : I (fun _ => false) a { w with drawn := w.drawn + 1 }) : (Code.region id ops true).wp P Q a w := by
  refine wp_region_any hm (inv_any I bef step fin _ _ _ _ (by simp) (Nat.le_trans List.countP_le_length (by simp)) ?_)
  have : (fun i => (Array.replicate ops.size false).getD i false) = fun _ => false := by
    funext i
    rw [Array.getD_eq_getD_getElem?]
    by_cases h : i < ops.size
    · rw [Array.getElem?_eq_getElem (by simpa using h)]; simp
    · rw [Array.getElem?_eq_none (by simpa using h)]; rfl
  rw [this]
  exact h0

/-- A new key that is a struct. -/
theorem run_insert_st {P : Program} {w : World} {t kt et : Nat} {fs : Array Field} (hu : P.underlying t = some (.map kt et)) (huk : P.underlying kt = some (.struct fs)) {cs : List CK} (hEq : EqOk P kt cs) (hKey : KeyOk P kt cs)
    {b : Nat} {en : Array MapEntry} {clk : Nat} (hb : w.heap[b]? = some (.map en clk)) {xs : List Value} (hxs : ckAll cs xs = true) (hen : ∀ e ∈ en.toList, ∃ ys : List Value, e.key = .agg ys.toArray ∧ ckAll cs ys = true ∧ eqV xs ys = false) (c : Value) :
    (Instr.mapUpdate t (.map (some b)) (.agg xs.toArray) c).run P w = .ok () { w with heap := w.heap.setIfInBounds b (.map (en.push { key := .agg xs.toArray, val := c, born := clk }) (clk + 1)) } := by
  have hask : ∃ r, (Instr.findAsking kt (.agg xs.toArray) en.toList 0).run P w = .ok r w ∧ (r.map (·.2)) = (en.toList.find? fun e => (fun v => match v with | Value.agg cs => eqV xs cs.toList | _ => false) e.key).map (·.val) :=
    run_findAsking (fun v => match v with | Value.agg cs => eqV xs cs.toList | _ => false) en.toList 0 fun e he => by
      obtain ⟨ys, h1, h2, _⟩ := hen e he
      rw [h1]
      exact hEq.2 xs ys w hxs h2
  obtain ⟨r, f1, f2⟩ := hask
  have hnone : (en.toList.find? fun e => (fun v => match v with | Value.agg cs => eqV xs cs.toList | _ => false) e.key) = none := by
    rw [List.find?_eq_none]
    intro e he
    obtain ⟨ys, h1, _, h3⟩ := hen e he
    rw [h1]
    simpa using h3
  rw [hnone] at f2
  have hr0 : r = none := by cases r <;> simp at f2 ⊢
  subst hr0
  have hfind : (Instr.findKey kt (.agg xs.toArray) en.toList).run P w = .ok none w := by
    cases hn : en.toList with
    | nil => simp [Instr.findKey, run_underlying huk, Instr.findNow]
    | cons e rr =>
      have : Instr.findNow (.struct fs) (.agg xs.toArray) en.toList 0 = none := by
        rw [hn]
        simp [Instr.findNow, Instr.sameNow]
      rw [← hn]
      simp [Instr.findKey, run_underlying huk, this, f1]
  simp [Instr.mapUpdate, run_underlying hu, MapKept.run_getObj_map hb, hKey _ xs w hxs, hfind, MapKept.run_setObj_map _ hb]
theorem wp_assign1 {P : Program} {Q : Exit → Act → World → Prop} {a : Act} {w : World} {id d ty : Nat} {v : Value} {ps : String} (h : Q .normal (a.put (some d) v) w) :
    (Code.region id #[{ dst := some d, op := .assign (.const v), type := ty, pos := ps, after := #[], guard := none }] false).wp P Q a w :=
  wp_region (.inl h)
end Go.Sx

namespace Go.Sx
open Go.RowKit
set_option linter.unusedVariables false
set_option linter.unusedSimpArgs false

/-- A package variable that holds a table. -/
def tabAO (P : Program) (name : String) (k : IntKind) (zs : List Int) : AO where
  rep w _ := Lib.TabIs P w name k zs
  fp _ _ j := P.globalNamed name = some j
  inb w hv j h e := by
    unfold Lib.TabIs World.var? at h
    rw [e] at h
    simp only [Option.bind_some] at h
    rcases Nat.lt_or_ge j w.heap.size with h' | h'
    · exact h'
    · rw [Array.getElem?_eq_none h'] at h; cases h
  keep w w' hv h hs hk := by
    refine ⟨?_, fun _ h => h⟩
    unfold Lib.TabIs World.var? at h ⊢
    cases e : P.globalNamed name with
    | none => rw [e] at h; cases h
    | some g =>
      rw [e] at h
      simp only [Option.bind_some] at h ⊢
      rw [hk g e]
      exact h

/-- A world at a call's beginning, and a word of it. -/
theorem HS.start1 (w : World) (A : AO) (h : A.rep w (.blk 0)) : HS ⟨w, fun _ => False, Vl.none.upd 0 (.blk 0), []⟩ (Vl.none.upd 0 (.blk 0)) [(0, .rd A)] 1 w :=
  { r := { hp := fun k o hk => by
             by_cases e : k = 0
             · subst e; rw [lk_cons_same] at hk; cases hk; exact ⟨_, Vl.upd_same _ _ _, h⟩
             · rw [lk_cons_other _ _ e] at hk; cases hk
           dj := fun k k' o o' _ _ _ hk hk' _ _ hne hm => by
             by_cases e : k = 0
             · subst e; rw [lk_cons_same] at hk; cases hk; cases hm
             · rw [lk_cons_other _ _ e] at hk; cases hk
           ow := fun k o _ _ hk hm => by
             by_cases e : k = 0
             · subst e; rw [lk_cons_same] at hk; cases hk; cases hm
             · rw [lk_cons_other _ _ e] at hk; cases hk
           fr := Upd.refl _ _
           ag := Vl.le_refl _ }
    nx := fun k hk => by rw [Vl.upd_other _ _ (by omega)]; rfl }

section
variable {P : Program} {tb : Tab}
/-- A function that only computes, and reads a table. -/
theorem calls_tab (hP : TabOk P tb) {f : FuncId} {fn : Func} {c : Code} (hf : P.funcs[f]? = some fn) (hb : fn.body = some c) (A : AO) (vs : List SV) {xs : List Value} (hd : denL Vl.none vs = some xs) {n : Nat} (hnt : fn.ntmps = n) (hn : Nat.ble vs.length n = true) (y : Value)
    (h : X P c ⟨argsT 0 vs, [], [(0, .rd A)], 1, n⟩ (RetK tb fn.results.toList (fun v _ _ => shut v = some y) (fun _ _ _ => False))) (w : World) (hA : A.rep w (.blk 0)) :
    Calls P f xs.toArray w fun e w' => e = .returned y ∧ Below w.heap.size w w' :=
  enter_ok hP hf hb (HS.start1 w A hA) (denL_mono (Vl.none_le _) _ _ hd) hnt hn h
    (fun ρ' v H' nx' y' w' hk hs hd' => by
      have := den_mono (Vl.none_le ρ') _ _ hk
      rw [hd'] at this
      cases this
      exact ⟨rfl, hs.fr.below⟩)
    (fun _ _ _ _ _ hk _ => hk.elim)

/-- A row of one cell's elements that is the call's own. -/
def newV (t n : Nat) (g : Nat → Value) (v : SV) (H : List (Nat × SO)) : Prop :=
  match ownOf H t 1 v with
  | some (m, get, _) => m = n ∧ ∀ i, i < n → denL Vl.none (get i) = some [g i]
  | none => False
/-- What a call is asked that makes a row, and tells a value beside it (or none). -/
def newK (t n : Nat) (g : Nat → Value) (y : Option Value) (v : SV) (H : List (Nat × SO)) (_ : Nat) : Prop :=
  match y with
  | some y => match v with
    | .tu [u, e] => newV t n g u H ∧ shut e = some y
    | _ => False
  | none => newV t n g v H
def back (y : Option Value) (x : Value) : Value := match y with | some y => .tuple #[x, y] | none => x
def backS (y : Option SV) (x : SV) : SV := match y with | some y => .tu [x, y] | none => x

/-- A row that came back: its value, what it holds. -/
def RowBack (t n : Nat) (g : Nat → Value) (y : Option Value) (e : Ending) (w w' : World) : Prop :=
  ∃ x, e = .returned (back y x) ∧ Below w.heap.size w w' ∧ (∀ k, x.ownBlock = some k → w.heap.size ≤ k ∧ k < w'.heap.size) ∧ ∃ xs, w'.ownsRow 0 t 1 x n xs ∧ ∀ i, i < n → (xs.drop i).take 1 = [g i]

theorem newV_ok {t n : Nat} {g : Nat → Value} {w w' : World} {ρ' : Vl} {v : SV} {H' : List (Nat × SO)} {nx' : Nat} {y' : Value} {ρ0 : Vl} (hk : newV t n g v H') (hs : HS ⟨w, fun _ => False, ρ0, []⟩ ρ' H' nx' w') (hd : den ρ' v = some y') :
    (∀ k, y'.ownBlock = some k → w.heap.size ≤ k ∧ k < w'.heap.size) ∧ ∃ xs, w'.ownsRow 0 t 1 y' n xs ∧ ∀ i, i < n → (xs.drop i).take 1 = [g i] := by
  unfold newV at hk
  split at hk
  case h_2 => exact hk.elim
  rename_i m get ho hown
  obtain ⟨rfl, hg⟩ := hk
  obtain ⟨⟨xs, h1, h2⟩, h3, h4, _⟩ := own_ok hs.hp hd hown
  refine ⟨fun k hk => ?_, xs, h1, fun i hi => ?_⟩
  · cases ho with
    | none =>
      have := (h3 rfl).1
      rw [this] at hk
      cases hk
    | some h =>
      obtain ⟨hv, o0, q1, q2, q3, q4⟩ := h4 h rfl
      have q5 := q4 k hk
      obtain ⟨hv', q6, q7⟩ := hs.hp h _ q1
      rw [q3] at q6; cases q6
      rcases hs.r.ow h _ _ k q1 q2 q3 q5 with h5 | h5
      · exact ⟨h5, SO.inb q7 q5⟩
      · exact h5.elim
  · have h5 := (h2 i hi).2
    rw [denL_mono (Vl.none_le ρ') _ _ (hg i hi)] at h5
    simpa using (Option.some.inj h5).symm

theorem newK_ok {t n : Nat} {g : Nat → Value} {y : Option Value} {w w' : World} {ρ' : Vl} {v : SV} {H' : List (Nat × SO)} {nx' : Nat} {y' : Value} {ρ0 : Vl} (hk : newK t n g y v H' nx') (hs : HS ⟨w, fun _ => False, ρ0, []⟩ ρ' H' nx' w') (hd : den ρ' v = some y') : RowBack t n g y (.returned y') w w' := by
  unfold newK at hk
  split at hk
  · split at hk
    case h_2 => exact hk.elim
    rename_i y u e
    obtain ⟨h1, he⟩ := hk
    have he' := den_mono (Vl.none_le ρ') _ _ he
    cases hu : den ρ' u with
    | none => simp only [den, denL, hu] at hd; cases hd
    | some x =>
      simp only [den, denL, hu, he', Option.some.injEq] at hd
      subst hd
      exact ⟨x, rfl, hs.fr.below, newV_ok h1 hs hu⟩
  · exact ⟨y', rfl, hs.fr.below, newV_ok hk hs hd⟩

theorem calls_new (hP : TabOk P tb) {f : FuncId} {fn : Func} {c : Code} (hf : P.funcs[f]? = some fn) (hb : fn.body = some c) (vs : List SV) {xs : List Value} (hd : denL Vl.none vs = some xs) {m : Nat} (hnt : fn.ntmps = m) (hn : Nat.ble vs.length m = true) (t n : Nat) (g : Nat → Value) (y : Option Value)
    (h : X P c ⟨argsT 0 vs, [], [], 0, m⟩ (RetK tb fn.results.toList (newK t n g y) (fun _ _ _ => False))) (w : World) :
    Calls P f xs.toArray w fun e w' => RowBack t n g y e w w' :=
  enter_ok hP hf hb (HS.start w) hd hnt hn h (fun ρ' v H' nx' y' w' hk hs hd' => newK_ok hk hs hd') (fun _ _ _ _ _ hk _ => hk.elim)

/-- A row that came back, as an object. -/
theorem RowBack.eff {t n : Nat} {g : Nat → Value} {y : Option Value} {e : Ending} {w w' : World} (h : RowBack t n g y e w w') {ρ : Vl} {nx : Nat} {v : Option SV} {get : Nat → List SV} (hv : v.map shut = y.map some) (hg : ∀ i, i < n → (get i).length = 1 ∧ denL Vl.none (get i) = some [g i]) :
    ∃ z, e = .returned z ∧ Eff ρ w nx (.new (backS v (.r nx)) (.own t 1 n get)) z w' := by
  obtain ⟨x, rfl, hb, h1, xs, h2, h3⟩ := h
  obtain ⟨a, c, rfl⟩ : ∃ a c, x = .slice a n c := by
    rcases h2.2 with ⟨e1, e2⟩ | ⟨b, c, cur, e1, _⟩
    · subst e2; exact ⟨none, 0, e1⟩
    · exact ⟨_, c, e1⟩
  refine ⟨_, rfl, .rw a n c, ?_, hb, ?_, ?_⟩
  · cases v with
    | none =>
      cases y with
      | some y => cases hv
      | none => simp only [back, backS, den, Vl.upd_same]
    | some v =>
      cases y with
      | none => cases hv
      | some y =>
        have hv : shut v = some y := by simpa using hv
        have he' := den_mono (Vl.none_le (ρ.upd nx (.rw a n c))) _ _ hv
        simp only [back, backS, den, denL, Vl.upd_same, he']
  · refine ⟨rfl, xs, h2, fun i hi => ⟨(hg i hi).1, ?_⟩⟩
    rw [denL_mono (Vl.none_le _) _ _ (hg i hi).2]
    have := h3 i hi
    simpa using this.symm
  · intro k hk
    obtain ⟨ad, rfl, rfl⟩ := hk
    exact h1 _ rfl
end

def oneGB : Nat → (Nat → List SV) → Bool
  | 0, _ => true
  | n + 1, g => allOne (g n) && oneGB n g
theorem oneG_of {g : Nat → List SV} : ∀ {n : Nat}, oneGB n g = true → OneG n g
  | 0, _, i, hi => absurd hi (by omega)
  | n + 1, h, i, hi => by
    simp only [oneGB, Bool.and_eq_true] at h
    by_cases e : i = n
    · subst e; exact h.1
    · exact oneG_of h.2 i (by omega)
end Go.Sx

namespace Go.Sx
open Go.RowKit
set_option linter.unusedVariables false
set_option linter.unusedSimpArgs false

/-- A slice value that may be read: how many, what. -/
structure RowV (w : World) (sz n : Nat) (get : Nat → List SV) (x : Value) : Prop where
  is : ∃ a c, x = .slice a n c ∧ n ≤ c ∧ RowRep Vl.none w sz n get a

theorem RowV.congr {w : World} {sz n : Nat} {get get' : Nat → List SV} {x : Value} (h : RowV w sz n get x) (hg : ∀ i, i < n → (get' i).length = (get i).length ∧ denL Vl.none (get' i) = denL Vl.none (get i)) : RowV w sz n get' x := by
  obtain ⟨a, c, rfl, hc, h1, h2, h3⟩ := h.is
  refine ⟨a, c, rfl, hc, h1, h2, fun i hi => ?_⟩
  obtain ⟨q1, ad, xs, q2, q3, q4⟩ := h3 i hi
  obtain ⟨g1, g2⟩ := hg i hi
  exact ⟨g1.trans q1, ad, xs, q2, g2.trans q3, q4⟩

/-- A world at a call's beginning, and a row that is only read. -/
theorem HS.startR (w : World) {sz n : Nat} {get : Nat → List SV} {a : Option Addr} {c : Nat} (hc : n ≤ c) (h : RowRep Vl.none w sz n get a) :
    HS ⟨w, fun _ => False, Vl.none.upd 0 (.rw a n c), []⟩ (Vl.none.upd 0 (.rw a n c)) [(0, .row sz n get)] 1 w :=
  { r := { hp := fun k o hk => by
             by_cases e : k = 0
             · subst e; rw [lk_cons_same] at hk; cases hk; exact ⟨_, Vl.upd_same _ _ _, ⟨rfl, hc⟩, rowRep_mono (Vl.none_le _) h⟩
             · rw [lk_cons_other _ _ e] at hk; cases hk
           dj := fun k k' o o' _ _ _ hk hk' _ _ hne hm => by
             by_cases e : k = 0
             · subst e; rw [lk_cons_same] at hk; cases hk; cases hm
             · rw [lk_cons_other _ _ e] at hk; cases hk
           ow := fun k o _ _ hk hm => by
             by_cases e : k = 0
             · subst e; rw [lk_cons_same] at hk; cases hk; cases hm
             · rw [lk_cons_other _ _ e] at hk; cases hk
           fr := Upd.refl _ _
           ag := Vl.le_refl _ }
    nx := fun k hk => by rw [Vl.upd_other _ _ (by omega)]; rfl }

section
variable {P : Program} {tb : Tab}
/-- A function that only computes, from a row and what is told besides. -/
theorem calls_row (hP : TabOk P tb) {f : FuncId} {fn : Func} {c : Code} (hf : P.funcs[f]? = some fn) (hb : fn.body = some c) {sz n : Nat} {get : Nat → List SV} {x : Value} (vs : List SV) {xs : List Value} (hd : denL Vl.none vs = some xs) {m : Nat} (hnt : fn.ntmps = m) (hn : Nat.ble (vs.length + 1) m = true) (y : Value)
    (h : X P c ⟨argsT 0 (.r 0 :: vs), [], [(0, .row sz n get)], 1, m⟩ (RetK tb fn.results.toList (fun v _ _ => shut v = some y) (fun _ _ _ => False))) (w : World) (hx : RowV w sz n get x) :
    Calls P f (x :: xs).toArray w fun e w' => e = .returned y ∧ Below w.heap.size w w' := by
  obtain ⟨a, c, rfl, hc, hr⟩ := hx.is
  exact enter_ok hP hf hb (HS.startR w hc hr) (vs := .r 0 :: vs) (denL_mk (by simp only [den, Vl.upd_same]) (denL_mono (Vl.none_le _) _ _ hd)) hnt hn h
    (fun ρ' v H' nx' y' w' hk hs hd' => by
      have := den_mono (Vl.none_le ρ') _ _ hk
      rw [hd'] at this
      cases this
      exact ⟨rfl, hs.fr.below⟩)
    (fun _ _ _ _ _ hk _ => hk.elim)

/-- Cells of known numbers. -/
def numAt (l : List SV) : Option Int :=
  match l with
  | [.n .u8 z] => some z
  | [.i .u8 z] => some z
  | _ => none
/-- A row of numbers, as terms. -/
def gI (get : Nat → List SV) (i : Nat) : Int := match numAt (get i) with | some z => z | none => 0
def rowB (g : Nat → Int) (i : Nat) : List SV := [.i .u8 (g i)]

theorem numAt_den {ρ : Vl} {l : List SV} {z : Int} (h : numAt l = some z) : l.length = 1 ∧ denL ρ l = some [.int .u8 z] := by
  unfold numAt at h
  split at h
  · cases h; exact ⟨rfl, rfl⟩
  · cases h; exact ⟨rfl, rfl⟩
  · cases h
theorem bytesG_num {n : Nat} {get : Nat → List SV} (h : BytesG n get) : ∀ i, i < n → numAt (get i) = some (gI get i) ∧ 0 ≤ gI get i ∧ gI get i < 256 := fun i hi => by
  obtain ⟨z, hz, e | e⟩ := h i hi
  · have : numAt (get i) = some (z : Int) := by rw [e]; rfl
    have h2 : gI get i = z := by unfold gI; rw [this]
    rw [h2]
    exact ⟨this, by omega, by omega⟩
  · have : numAt (get i) = some (z : Int) := by rw [e]; rfl
    have h2 : gI get i = z := by unfold gI; rw [this]
    rw [h2]
    exact ⟨this, by omega, by omega⟩

/-- A source whose length is at most what it may grow to. -/
def src2 (H : List (Nat × SO)) (v : SV) : Option (Prop × Nat × (Nat → List SV)) :=
  match v with
  | .sl h o n c => match Nat.ble n c with
    | true => srcOf H 1 (.sl h o n c)
    | false => none
  | .r h => srcOf H 1 (.r h)
  | .rs h lo n sz => srcOf H 1 (.rs h lo n sz)
  | _ => none
/-- What a source is, as a row that may be read. -/
theorem src_row {ρ : Vl} {w : World} {H : List (Nat × SO)} (hH : HOk ρ w H) {v : SV} {x : Value} (hx : den ρ v = some x) {p : Prop} {n : Nat} {get : Nat → List SV} (h : src2 H v = some (p, n, get)) (hp : p) (hb : BytesG n get) (hn : n ≤ maxLen) : RowV w 1 n (rowB (gI get)) x := by
  have main : ∀ a c, SrcIs ρ w 1 n get x → x = .slice a n c → n ≤ c → RowV w 1 n (rowB (gI get)) x := fun a c hs e hc => by
    obtain ⟨a', c', e', h1, h2⟩ := hs.is
    rw [e] at e'
    cases e'
    subst e
    refine ⟨a, c, rfl, hc, hn, fun h0 => ?_, fun i hi => ?_⟩
    · obtain ⟨q1, ad, xs, q2, q3, q4⟩ := h2 0 h0
      refine ⟨ad, q2, ?_⟩
      have hnum := (bytesG_num hb 0 h0).1
      have hd := (numAt_den (ρ := ρ) hnum).2
      rw [q3] at hd
      cases hd
      have hc0 := q4 0 _ rfl
      unfold World.cell? at hc0
      rw [addr_block] at hc0
      rcases Nat.lt_or_ge ad.block w.heap.size with h' | h'
      · exact h'
      · rw [Array.getElem?_eq_none h'] at hc0; simp at hc0
    · obtain ⟨q1, ad, xs, q2, q3, q4⟩ := h2 i hi
      have hnum := (bytesG_num hb i hi).1
      have hd := (numAt_den (ρ := ρ) hnum).2
      rw [q3] at hd
      cases hd
      exact ⟨rfl, ad, _, q2, rfl, q4⟩
  unfold src2 at h
  split at h
  · rename_i g o m c
    split at h
    case h_2 => cases h
    rename_i hc
    have hs := src_ok hH hx h hp
    have hm : m = n := by
      simp only [srcOf] at h
      split at h
      · split at h
        · cases h; rfl
        · cases h
      · cases h
    subst hm
    simp only [den] at hx
    split at hx
    · cases hx
      exact main _ _ hs rfl (Nat.le_of_ble_eq_true hc)
    · cases hx
  · rename_i g
    have hs := src_ok hH hx h hp
    simp only [srcOf] at h
    split at h
    case h_2 => cases h
    rename_i s m g' hl
    split at h
    case h_2 => cases h
    cases h
    obtain ⟨a, c, hr, hrow⟩ := row_lk hH hl
    simp only [den, hr, Option.some.injEq] at hx
    subst hx
    exact main _ _ hs rfl hrow.le
  · rename_i g lo m s'
    have hs := src_ok hH hx h hp
    simp only [srcOf] at h
    split at h
    case h_2 => cases h
    rename_i s n0 g' hl
    split at h
    case h_2 => cases h
    cases h
    obtain ⟨a, c, hr, hrow⟩ := row_lk hH hl
    have := hrow.le
    simp only [den, hr, Option.some.injEq] at hx
    subst hx
    exact main _ _ hs rfl (by omega)
  · cases h
end
end Go.Sx

namespace Go.Sx
open Go.RowKit
set_option linter.unusedVariables false
set_option linter.unusedSimpArgs false

section
variable {P : Program} {tb : Tab}

theorem wp_monoQ {o : Oper} {a : Act} {w : World} {K : Act → World → Prop} {Q Q' : Exit → Act → World → Prop} (h : ∀ e a w, e ≠ .normal → Q e a w → Q' e a w)
    (hh : o.wp P a w K Q) : o.wp P a w K Q' := by
  unfold Oper.wp at *
  generalize (execOp a.eval o).run P w = r at *
  cases r with
  | ok n w' =>
    cases n <;> simp only [Oper.upon] at hh ⊢ <;>
      first
        | exact hh
        | exact Calls.mono hh (fun e w'' he => by cases e <;> first | exact he | exact h _ _ _ (by intro e; cases e) he | (obtain ⟨a, w, hq⟩ := he; exact ⟨a, w, h _ _ _ (by intro e; cases e) hq⟩))
  | halt x w' => cases x <;> simp only [Oper.upon] at hh ⊢ <;> first | exact hh | exact h _ _ _ (by intro e; cases e) hh

theorem draw_pan {ops : Array Oper} {D : Dc} {full : List Rec} {z : Nat} (hD : DOk P ops D full z) {cx : Cx} {Q : Exit → Act → World → Prop} {p : Nat} {op : Oper} (hop : ops[p]? = some op) (hzp : z ≤ p)
    (hrest : ∀ j o, ops[j]? = some o → z ≤ j → j ≠ p → ∃ m, lk j D.pm = some m ∧ bitAt m p = true)
    (hZ : ∀ L ρ a w, (∀ m j, lk p D.pm = some m → bitAt m j = true → L j) → (∀ j, L j → j < z) → DInv cx D full L ρ a w → DGoal P ops op a w (fun _ _ => False) Q) :
    ∀ (fuel : Nat) (listed : Array Bool) (ρ : Vl) (a : Act) (w : World), listed.size = ops.size → listed.toList.countP (· == false) ≤ fuel → (∀ i, listed.getD i false = true → i < z) → DInv cx D full (fun i => listed.getD i false = true) ρ a w → wpAny P .any ops Q fuel listed a w := by
  have hps : p < ops.size := (Array.getElem?_eq_some_iff.1 hop).1
  have unlisted : ∀ (listed : Array Bool), listed.size = ops.size → Region.ready .any ops listed = [] → ∀ i, i < ops.size → listed.getD i false = true := fun listed hsz hr i => by
    induction i using Nat.strongRecOn with
    | _ i ih =>
      intro hi
      cases hl : listed.getD i false with
      | true => rfl
      | false =>
        exfalso
        have hmem : i ∈ Region.ready .any ops listed := by
          rw [mem_ready]
          refine ⟨?_, _, Array.getElem?_eq_getElem hi, fun e he hb => ?_⟩
          · rw [Array.getD_eq_getD_getElem?] at hl ⊢
            rw [Array.getElem?_eq_getElem (by omega)] at hl ⊢
            exact hl
          · obtain ⟨m, _, h1, _⟩ := hD.masks i _ (Array.getElem?_eq_getElem hi)
            have h2 := (h1 e (Array.mem_toList_iff.2 he) hb).1
            exact ih e.on h2 (by omega)
        rw [hr] at hmem
        cases hmem
  intro fuel
  induction fuel with
  | zero =>
    intro listed ρ a w hsz hc hlt hI
    have h0 : listed.toList.countP (· == false) = 0 := by omega
    rw [List.countP_eq_zero] at h0
    have hall : listed.getD p false = true := by
      rw [Array.getD_eq_getD_getElem?, Array.getElem?_eq_getElem (by omega)]
      have := h0 (listed[p]'(by omega)) (by simp)
      simpa using this
    have := hlt p hall
    omega
  | succ fuel ih =>
    intro listed ρ a w hsz hc hlz hI
    refine ⟨fun hr => absurd (hlz p (unlisted listed hsz hr p hps)) (by omega), fun i hi => ?_⟩
    rw [mem_ready] at hi
    obtain ⟨h1, o, ho, hpre⟩ := hi
    have hlt : i < ops.size := (Array.getElem?_eq_some_iff.1 ho).1
    have hlf : listed[i]? = some false := by
      rw [Array.getD_eq_getD_getElem?, Array.getElem?_eq_getElem (by omega)] at h1
      rw [Array.getElem?_eq_getElem (by omega)]
      simpa using h1
    have hu : ¬ listed.getD i false = true := by rw [Array.getD_eq_getD_getElem?, hlf]; simp
    obtain ⟨m, hm, hm1, hm2⟩ := hD.masks i o ho
    have hp : ∀ m' j, lk i D.pm = some m' → bitAt m' j = true → listed.getD j false = true := fun m' j hm' hb => by
      rw [hm] at hm'; cases hm'
      obtain ⟨e, he, hbi, h2⟩ := hm2 j hb
      have hon := hpre e (Array.mem_toList_iff.1 he) hbi
      rcases h2 with rfl | ⟨me, h3, h4⟩
      · exact hon
      · exact hI.cl _ _ _ hon h3 h4
    have fin : ∀ {N : Act → World → Prop}, DGoal P ops o a w N Q → (∀ a w, N a w → wpAny P .any ops Q fuel (listed.setIfInBounds i true) a w) → wpOp P ops Q i (wpAny P .any ops Q fuel (listed.setIfInBounds i true)) a w := fun {N} goal hN => by
      unfold wpOp
      rw [ho]
      simp only []
      unfold DGoal at goal
      split
      · rename_i hw
        rw [if_pos hw] at goal
        exact .inl (Oper.wp_mono hN goal)
      · rename_i hw
        rw [if_neg hw] at goal
        exact hN _ _ goal
    have setD : ∀ j, (listed.setIfInBounds i true).getD j false = true ↔ (j = i ∨ listed.getD j false = true) := fun j => by
      refine ⟨fun h => ?_, fun h => ?_⟩
      · by_cases e : j = i
        · exact .inl e
        · rw [getD_set_ne false (Ne.symm e)] at h; exact .inr h
      · rcases h with rfl | h
        · rw [Array.getD_eq_getD_getElem?, Array.getElem?_setIfInBounds_self_of_lt (by omega)]; rfl
        · exact getD_set_true h
    by_cases hiz : i < z
    · refine fin (dstep hD hI hiz ho hu hp (N := wpAny P .any ops Q fuel (listed.setIfInBounds i true)) (Q := Q) fun ρ' a' w' hI' => ?_) fun _ _ h => h
      refine ih _ ρ' a' w' (by simp [hsz]) ?_ (fun j hj => ?_) ?_
      · have := countP_set_false (l := listed.toList) (i := i) (by simpa using hlf)
        rw [Array.toList_setIfInBounds]
        omega
      · rcases (setD j).1 hj with rfl | hj
        · exact hiz
        · exact hlz j hj
      · have : (fun j => (listed.setIfInBounds i true).getD j false = true) = (fun j => j = i ∨ listed.getD j false = true) := by
          funext j
          exact propext (setD j)
        rw [this]
        exact hI'
    · by_cases hip : i = p
      · subst hip
        rw [hop] at ho; cases ho
        exact fin (hZ _ ρ a w hp hlz hI) fun _ _ h => h.elim
      · obtain ⟨m', h2, h3⟩ := hrest i o ho (by omega) hip
        have := hlz p (hp m' p h2 h3)
        omega

/-- The masks of what comes behind p name p. -/
def restP (pm : List (Nat × Nat)) (p : Nat) : Nat → Nat → Bool
  | 0, _ => true
  | f + 1, j => match lk j pm with
    | some m => bitAt m p && restP pm p f (Nat.succ j)
    | none => false
theorem restP_ok {pm : List (Nat × Nat)} {p : Nat} : ∀ {f j : Nat}, restP pm p f j = true → ∀ i, j ≤ i → i < j + f → ∃ m, lk i pm = some m ∧ bitAt m p = true
  | 0, j, _, i, h1, h2 => by omega
  | f + 1, j, h, i, h1, h2 => by
    simp only [restP] at h
    split at h
    case h_2 => cases h
    rename_i m hm
    simp only [Bool.and_eq_true] at h
    by_cases e : i = j
    · subst e; exact ⟨m, hm, h.1⟩
    · exact restP_ok h.2 i (by simp only [Nat.succ_eq_add_one]; omega) (by simp only [Nat.succ_eq_add_one]; omega)

/-- A drawn region without stores of which operation p panics; all that come later wait for p. -/
def xdrawP (P : Program) (tb : Tab) (C : CH) (ops : Array Oper) (p : Nat) (s : St) (K : Exit → St → Prop) : Prop :=
  match s with
  | ⟨T, [], H, nx, n⟩ => pmK ops.toList 0 [] fun pm =>
    match dsApart (dsOf ops.toList 0), restP pm p (Nat.sub ops.toList.length (Nat.succ p)) (Nat.succ p), ops.toList[p]?, lk p pm with
    | true, true, some o, some m => sp (dsOf ops.toList 0) fun ds => rmDsK ds T fun T1 T => 
      xdops tb true ops ⟨T, T1, H, nx, n, ds, pm, []⟩ (ops.toList.take p) 0 [] fun recs =>
        sp (baseH [] pm p H) fun H => selK [] pm p m recs T [] H fun T _ H => frN (nx + p) fun nx => xstep P tb C ops o 5 ⟨T, [], H, nx, n⟩ fun e s => match e with
          | .normal => Stands "it panics"
          | e => K e s
    | _, _, _, _ => Stands "a region that panics"
  | _ => Stands "guards at a drawn region"

theorem take_get {ops : Array Oper} {p : Nat} : ∀ k, k < p → (ops.toList.take p)[k]? = ops[k]? := fun k hk => by
  rw [List.getElem?_take_of_lt hk]; simp

theorem draw_pan_ok (hP : TabOk P tb) {C : CH} (hC : COk P C) {id : Nat} {ops : Array Oper} (p : Nat) {s : St} {K : Exit → St → Prop} (h : xdrawP P tb C ops p s K) : X P (.region id ops true) s K := by
  intro cx ρ a w hs Q hQ
  unfold xdrawP at h
  split at h
  case h_2 => exact h.elim
  rename_i T H nx n
  obtain ⟨pm, hk, _, hpm⟩ := pmK_ok _ _ _ _ h (fun j m hl => by cases hl)
  split at hk
  case h_2 => exact hk.elim
  rename_i o m hds hrest ho hm
  simp only [sp_eq] at hk
  obtain ⟨TO, T', hk, hTO, hT1, hT2⟩ := rmDsK_ok hk
  have hps : p < ops.size := by
    have := (List.getElem?_eq_some_iff.1 ho).1
    simpa using this
  have ho' : ops[p]? = some o := by simpa using ho
  have hlen : (ops.toList.take p).length = p := by simp; omega
  obtain ⟨full, hk, hr⟩ := xdops_ok hP _ _ _ _ hk
  obtain ⟨_, hr2, hr3, hr4⟩ := hr rfl
  have huq := hr3 (fun _ h => by cases h) (fun _ h => by cases h)
  have hlt : ∀ x ∈ full, x.i < p := fun x hx => by
    rcases hr2 x hx with h1 | h1
    · cases h1
    · have := h1.2; rw [hlen] at this; omega
  let D : Dc := ⟨T', TO, H, nx, n, dsOf ops.toList 0, pm, []⟩
  have hD : DOk P ops D full p := {
    zle := by omega
    masks := fun k o ho => by have := hpm k o (by simpa using ho); rwa [Nat.zero_add] at this
    uq := huq
    lt := hlt
    recs := fun k o hkz ho => by have := hr4 k o (by rw [take_get k hkz]; exact ho); rwa [Nat.zero_add] at this
    ds := fun k o t ho ht => by have := dsOf_mem ops.toList 0 k o t (by simpa using ho) ht; rwa [Nat.zero_add] at this
    apart := dsApart_ok hds
    t0 := fun j t hm => hT2 j t hm }
  have hno : ∀ i, ¬ (Array.replicate ops.size false).getD i false = true := fun i => by
    rw [Array.getD_eq_getD_getElem?, Array.getElem?_replicate]
    split <;> simp
  refine wp_region_any hP.mixed (draw_pan hD (cx := cx) ho' (Nat.le_refl _) (fun j o' hj h1 h2 => ?_) (fun L ρ' a' w' hL hLp hI => ?_) _ _ ρ _ _ (by simp) ?_ (fun i hi => absurd hi (hno i)) ?_)
  · have h3 : j < ops.size := (Array.getElem?_eq_some_iff.1 hj).1
    refine restP_ok hrest j (by simp only [Nat.succ_eq_add_one]; omega) ?_
    show j < Nat.succ p + (ops.toList.length - Nat.succ p)
    simp only [Array.length_toList, Nat.succ_eq_add_one]; omega
  · simp only [frN_eq] at hk
    obtain ⟨T2, G2, H2, hk, hT', hG', hH'⟩ := selK_ok _ _ _ _ _ hk
    have keep : ∀ g, keepH ([] : List (Nat × Nat)) pm p g = true → ∀ x ∈ full, L x.i → x.del ≠ some g := fun g hk x hx hxl hd => by
      obtain ⟨r', hr', m', _, _, _, hrec'⟩ := hD.recs x.i _ (hlt x hx) (Array.getElem?_eq_getElem (by have := hlt x hx; omega))
      have := huq x hx r' hr' hrec'.ix.symm
      subst this
      have := hrec'.del g hd
      cases this
    have hsat : Sat cx ρ' ⟨T2, [], H2, nx + p, n⟩ a' w' := ⟨⟨hI.hs.less fun g o hl => ?_, fun k hk' => ?_⟩, ⟨hI.sz, fun t v _ hl => ?_, fun _ _ _ hm => by cases hm⟩, hI.df⟩
    · have g := xstep_ok hP hC (cx := cx) (Q := fun e a w => match e with | .normal => False | e => Q e a w) 5 hk (fun e ρ s a w h hs => by
        cases e with
        | normal => exact h.elim
        | _ => exact hQ _ _ _ _ _ h hs) hsat
      unfold StepGoal at g
      unfold DGoal
      split
      · rename_i hw
        rw [if_pos hw] at g
        exact wp_monoQ (fun e a w hn h => by
          cases e with
          | normal => exact absurd rfl hn
          | _ => exact h) g
      · rename_i hw
        rw [if_neg hw] at g
        exact g
    · rcases hH' g o hl with ⟨x, hx, hb, hob, hd⟩ | h1
      · rcases hd with hd | hd
        · exact .inl ⟨x, hx, hL m _ hm hb, hd, hob⟩
        · exact .inr ⟨keep g hd, .inl ⟨x, hx, hL m _ hm hb, hob⟩⟩
      · obtain ⟨h2, h3⟩ := lk_baseH h1
        exact .inr ⟨keep g h3, .inr h2⟩
    · cases e : ρ' k with
      | none => rfl
      | some v =>
        have hk' : nx + p ≤ k := hk'
        obtain ⟨i, h1, h2⟩ := hI.hn k v (show nx ≤ k by omega) e
        have h2 : k = nx + i := h2
        have := hLp i h1
        omega
    · rcases hT' t v hl with ⟨x, h1, h2, h3, h4, rfl⟩ | h1
      · exact ((hI.rc x h1 (hL m _ hm h2)) t h3).1 (by rw [h4]; intro e he; cases he)
      · exact hI.t0 t v h1
  · simp only [Array.toList_replicate]
    exact Nat.le_trans (List.countP_le_length) (by simp)
  · refine ⟨(hs.hs.r.grow (w' := { w with drawn := w.drawn + 1 }) ⟨rfl, rfl, rfl, Nat.le_refl _, fun _ _ => rfl⟩).less fun g o hm => ?_, hs.ts.sz, fun t v hl => ?_, fun j t v _ _ hl => ?_, fun x hx hl => absurd hl (hno _), fun k v hk hv => ?_, fun i m j hl => absurd hl (hno _), hs.df⟩
    · rcases hm with ⟨x, _, hl, _⟩ | ⟨_, ⟨x, _, hl, _⟩ | hm⟩
      · exact absurd hl (hno _)
      · exact absurd hl (hno _)
      · exact hm
    · have hl : lk t T' = some v := hl
      exact hs.ts.vs t v rfl (hT1 t v hl)
    · have hl : lk t TO = some v := hl
      exact hs.ts.vs t v rfl (hTO t v hl)
    · have := hs.hs.nx k hk
      rw [hv] at this; cases this

theorem draw_norm (hP : TabOk P tb) {C : CH} (hC : COk P C) {id : Nat} {ops : Array Oper} {s : St} {K : Exit → St → Prop} (h : xdraw P tb C ops s fun e s' => clr s' (K e)) : X P (.region id ops true) s K :=
  fun cx ρ a w hs Q hK => xdraw_ok hP hC h hs (fun e ρ' s' a' w' hk hs' => by
    obtain ⟨s2, k2, hs2⟩ := clr_ok hk hs'
    exact hK _ _ _ _ _ k2 hs2)
end
end Go.Sx
