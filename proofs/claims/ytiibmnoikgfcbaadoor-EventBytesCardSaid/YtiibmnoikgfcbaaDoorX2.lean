/- What the symbolic operations say holds of the program's own. The type table must fit the program (TabOk). -/
import Derived.Test.YtiibmnoikgfcbaaDoorX1
namespace Go.Sx
open Go.RowKit
set_option linter.unusedVariables false
set_option linter.unusedSimpArgs false

def TK.fits (P : Program) : TK → TypeDesc → Prop
  | .bool, .bool => True
  | .int k, .int k' => k = k'
  | .str, .string => True
  | .ptr e, .pointer e' => e = e'
  | .slc e, .slice e' => e = e'
  | .arr n e, .array n' e' => n = n' ∧ e = e'
  | .map k e, .map k' e' => k = k' ∧ e = e'
  | .st fs, .struct fields => fields.toList.map (fun f => (f.type, f.offset)) = fs.map (fun x => (x.1, x.2.1)) ∧ ∀ x ∈ fs, (P.info? x.1).map (·.size) = some x.2.2 ∧ x.2.2 ≠ 0
  | .func, .func .. => True
  | .ifc, .interface _ => True
  | _, _ => False

def isAggV : Value → Bool
  | .agg _ => true
  | _ => false

structure TiOk (P : Program) (t : Nat) (i : Ti) : Prop where
  und : ∃ d, P.underlying t = some d ∧ i.k.fits P d
  info : ∃ inf z, P.info? t = some inf ∧ inf.size = i.size ∧ inf.bytes = i.bytes ∧ inf.zero = some z ∧ denL Vl.none i.zero = some z.cells.toList ∧ i.zero.length = i.size
  zv : ∀ inf z, P.info? t = some inf → inf.zero = some z → isAggV z = i.k.agg

def ckFits : CK → Value → Bool
  | .int k, .int j _ => decide (j = k)
  | .bool, .bool _ => true
  | .str, .string _ => true
  | _, _ => false
def ckAll : List CK → List Value → Bool
  | [], [] => true
  | c :: cs, x :: xs => ckFits c x && ckAll cs xs
  | _, _ => false
def eqV1 : Value → Value → Bool
  | .int _ a, .int _ b => a == b
  | .bool a, .bool b => a == b
  | .string a, .string b => a == b
  | _, _ => false
def eqV : List Value → List Value → Bool
  | [], [] => true
  | x :: l, y :: l' => eqV1 x y && eqV l l'
  | _, _ => false

def EqOk (P : Program) (t : Nat) (cs : List CK) : Prop :=
  P.eqGuardType P.depth t = false ∧ ∀ xs ys w, ckAll cs xs = true → ckAll cs ys = true → (Op.equal t (.agg xs.toArray) (.agg ys.toArray)).run P w = .ok (eqV xs ys) w

/-- Such a struct may be a key. -/
def KeyOk (P : Program) (t : Nat) (cs : List CK) : Prop := ∀ e xs w, ckAll cs xs = true → (Instr.checkKey e 10000 t (.agg xs.toArray)).run P w = .ok () w

def HOk (ρ : Vl) (w : World) (H : List (Nat × SO)) : Prop := ∀ h o, lk h H = some o → ∃ hv, ρ h = some hv ∧ o.rep ρ w hv

/-- What was there before stands, but for an object's own blocks. -/
structure Upd (F : Nat → Prop) (w w' : World) : Prop where
  os : w'.os = w.os
  tape : w'.tape = w.tape
  output : w'.output = w.output
  size : w.heap.size ≤ w'.heap.size
  block : ∀ k, k < w.heap.size → ¬ F k → w'.heap[k]? = w.heap[k]?

def Eff (ρ : Vl) (w : World) (nx : Nat) : Out → Value → World → Prop
  | .val v, y, w' => den ρ v = some y ∧ Below w.heap.size w w'
  | .new v o, y, w' => ∃ hv, den (ρ.upd nx hv) v = some y ∧ Below w.heap.size w w' ∧ o.rep (ρ.upd nx hv) w' hv ∧ ∀ k, o.fp w' hv k → w.heap.size ≤ k ∧ k < w'.heap.size
  | _, _, _ => False

def RunOk (ρ : Vl) (w : World) (H : List (Nat × SO)) (nx : Nat) (r : Result Next) : Out → Prop
  | .val v => ∃ y, den ρ v = some y ∧ r = .ok (.value y) w
  | .new v o => ∃ y w', r = .ok (.value y) w' ∧ Eff ρ w nx (.new v o) y w'
  | .upd v h o => ∃ hv o0 w', lk h H = some o0 ∧ o0.mine = true ∧ ρ h = some hv ∧ (match v with | none => r = .ok .skip w' | some v => ∃ y, den ρ v = some y ∧ r = .ok (.value y) w') ∧ Upd (o0.fp w hv) w w' ∧ o.rep ρ w' hv ∧ o.mine = true ∧ ∀ k, o.fp w' hv k → (o0.fp w hv k ∨ w.heap.size ≤ k) ∧ k < w'.heap.size
  | .mv v h o => ∃ hv0 o0 hv y w', lk h H = some o0 ∧ o0.mine = true ∧ ρ h = some hv0 ∧ r = .ok (.value y) w' ∧ den (ρ.upd nx hv) v = some y ∧ Upd (o0.fp w hv0) w w' ∧ o.rep (ρ.upd nx hv) w' hv ∧ o.mine = true ∧ ∀ k, o.fp w' hv k → (o0.fp w hv0 k ∨ w.heap.size ≤ k) ∧ k < w'.heap.size
  | .ob p k => p → RunOk ρ w H nx r k
  | .call f args => ∃ xs, denL ρ args = some xs ∧ r = .ok (.enter f xs.toArray) w
  | .pan v => ∃ y, den ρ v = some y ∧ r = .halt (.panic y) w
  | .no _ => True

/-- What a summary of a call owes. -/
def SumRes (P : Program) (f : FuncId) (xs : List Value) (ρ : Vl) (w : World) (H : List (Nat × SO)) (nx : Nat) : Out → Prop
  | .val v => Calls P f xs.toArray w fun e w' => ∃ y, e = .returned y ∧ Eff ρ w nx (.val v) y w'
  | .new v o => Calls P f xs.toArray w fun e w' => ∃ y, e = .returned y ∧ Eff ρ w nx (.new v o) y w'
  | .upd v h o => ∃ hv o0, lk h H = some o0 ∧ o0.mine = true ∧ ρ h = some hv ∧ o.mine = true ∧ Calls P f xs.toArray w fun e w' => ∃ y, e = .returned y ∧ (match v with | none => y = undef | some u => den ρ u = some y) ∧ Upd (o0.fp w hv) w w' ∧ o.rep ρ w' hv ∧ ∀ k, o.fp w' hv k → (o0.fp w hv k ∨ w.heap.size ≤ k) ∧ k < w'.heap.size
  | .mv v h o => ∃ hv0 o0, lk h H = some o0 ∧ o0.mine = true ∧ ρ h = some hv0 ∧ o.mine = true ∧ Calls P f xs.toArray w fun e w' => ∃ y hv, e = .returned y ∧ den (ρ.upd nx hv) v = some y ∧ Upd (o0.fp w hv0) w w' ∧ o.rep (ρ.upd nx hv) w' hv ∧ ∀ k, o.fp w' hv k → (o0.fp w hv0 k ∨ w.heap.size ≤ k) ∧ k < w'.heap.size
  | .ob p k => p → SumRes P f xs ρ w H nx k
  | .pan v => ∃ y, den ρ v = some y ∧ Calls P f xs.toArray w fun e w' => e = .panicked [{ v := y, recovered := false }] ∧ Below w.heap.size w w'
  | _ => False

def SumOk (P : Program) (tb : Tab) : Prop := ∀ f args H nx out, tb.sum f args H nx = some out → ∀ ρ w xs, HOk ρ w H → denL ρ args = some xs → ρ nx = none → SumRes P f xs ρ w H nx out

structure TabOk (P : Program) (tb : Tab) : Prop where
  mixed : P.follows .mixedOrders = true
  ti : ∀ t i, tb.ti t = some i → TiOk P t i
  eqs : ∀ t cs, tb.eqs t = some cs → EqOk P t cs ∧ KeyOk P t cs
  fns : ∀ f, tb.fns f = true → ∀ args w, (callFunc f args).run P w = .ok (.enter f args) w
  inl : ∀ f fn, tb.inl f = some fn → P.funcs[f]? = some fn
  sum : SumOk P tb

/-! ### small things -/
theorem addr0 (b o k : Nat) : (⟨b, o, none⟩ : Addr).add k = ⟨b, o + k, none⟩ := by unfold Addr.add; split <;> simp_all
theorem addr_add (a : Addr) (i j : Nat) : (a.add i).add j = a.add (i + j) := by
  unfold Addr.add
  by_cases hi : i = 0 <;> by_cases hj : j = 0 <;> simp [hi, hj, Nat.add_assoc]
theorem addr_block (a : Addr) (n : Nat) : (a.add n).block = a.block := by unfold Addr.add; split <;> rfl

theorem one_ok {ρ : Vl} {v : SV} {x : Value} (h : one v = true) (e : den ρ v = some x) : x.oneCell' = true := by
  cases v <;> simp only [one, Bool.false_eq_true] at h <;> simp only [den] at e
  all_goals first
    | (cases e; first | rfl | exact h)
    | (split at e <;> cases e; rfl)
theorem allOne_ok {ρ : Vl} : ∀ {l : List SV} {xs : List Value}, allOne l = true → denL ρ l = some xs → ∀ x ∈ xs, x.oneCell' = true
  | [], xs, _, e, x, hx => by cases e; cases hx
  | v :: l, xs, h, e, x, hx => by
    obtain ⟨y, ys, rfl, h1, h2⟩ := denL_cons e
    simp only [allOne, Bool.and_eq_true] at h
    rcases List.mem_cons.1 hx with rfl | hx
    · exact one_ok h.1 h1
    · exact allOne_ok h.2 h2 x hx
theorem denL_q (ρ : Vl) : ∀ l : List Value, denL ρ (l.map .q) = some l
  | [] => rfl
  | v :: l => by simp [denL, den, denL_q ρ l]
theorem cells_ok {ρ : Vl} {v : SV} {x : Value} (e : den ρ v = some x) : denL ρ (cellsOf v) = some x.cells.toList := by
  have key : ∀ (v : SV) (x : Value), den ρ v = some x → x.cells = #[x] → denL ρ [v] = some x.cells.toList := fun v x e h => by rw [h]; simp [denL, e]
  cases v
  case ag l =>
    simp only [den] at e
    cases h : denL ρ l with
    | none => rw [h] at e; cases e
    | some xs => rw [h] at e; cases e; simpa [cellsOf, Value.cells] using h
  case q v => simp only [den] at e; cases e; exact denL_q ρ _
  all_goals
    refine key _ _ e ?_
    simp only [den] at e
    first
      | (cases e; rfl)
      | (split at e <;> cases e; rfl)

/-! ### the types -/
section
variable {P : Program}
theorem TiOk.size {t : Nat} {i : Ti} (h : TiOk P t i) (w : World) : (sizeOf t).run P w = .ok i.size w := by
  obtain ⟨inf, z, h1, h2, _⟩ := h.info
  simp [sizeOf, typeInfo, h1, h2]
theorem TiOk.zeroV {t : Nat} {i : Ti} (h : TiOk P t i) (w : World) : ∃ z, (zeroValue t).run P w = .ok z w ∧ denL Vl.none i.zero = some z.cells.toList ∧ i.zero.length = i.size := by
  obtain ⟨inf, z, h1, _, _, h4, h5, h6⟩ := h.info
  exact ⟨z, by simp [zeroValue, typeInfo, h1, h4], h5, h6⟩
theorem TiOk.zeroS {t : Nat} {i : Ti} (h : TiOk P t i) (w : World) {zero : SV} (hz : zeroSV i = some zero) (ρ : Vl) : ∃ z, (zeroValue t).run P w = .ok z w ∧ den ρ zero = some z := by
  obtain ⟨inf, z, h1, _, _, h4, h5, h6⟩ := h.info
  refine ⟨z, by simp [zeroValue, typeInfo, h1, h4], ?_⟩
  have hd := denL_mono (Vl.none_le ρ) _ _ h5
  have ha := h.zv inf z h1 h4
  unfold zeroSV at hz
  cases hk : i.k.agg with
  | true =>
    rw [hk] at hz ha
    cases hz
    cases z <;> simp only [isAggV, Bool.false_eq_true] at ha
    rename_i cs
    simp only [den, hd, Value.cells, Array.toArray_toList]
  | false =>
    rw [hk] at hz ha
    simp only [] at hz
    split at hz
    case h_2 => cases hz
    rename_i v hv
    cases hz
    rw [hv] at hd
    have hc : z.cells.toList = [z] := by cases z <;> simp only [isAggV, Bool.true_eq_false] at ha <;> rfl
    rw [hc] at hd
    obtain ⟨x, ys, e, e1, _⟩ := denL_cons hd
    cases e
    exact e1
theorem TiOk.isAgg {t : Nat} {i : Ti} (h : TiOk P t i) (w : World) : (isAgg t).run P w = .ok i.k.agg w := by
  obtain ⟨d, h1, h2⟩ := h.und
  unfold Go.isAgg
  rw [Sem.run_bind, run_underlying h1 w]
  cases hk : i.k <;> cases d <;> simp_all [TK.fits, TK.agg]
end

/-! ### loads and stores in a block of known cells -/
section
variable {P : Program} {ρ : Vl} {w : World} {H : List (Nat × SO)} {nx : Nat}

theorem load_agg {t : Nat} {i : Ti} (hi : TiOk P t i) (ha : i.k.agg = true) (a : Addr) (xs : List Value) (hl : xs.length = i.size)
    (hc : ∀ j v, xs[j]? = some v → w.cell? (a.add j) = some v) : (loadVar t a).run P w = .ok (.agg xs.toArray) w := by
  unfold loadVar
  rw [Sem.run_bind, hi.isAgg w, ha]
  simp only [Result.andThen_ok, if_true, Sem.run_bind, hi.size w, ← hl, run_loadCells_list w a xs hc]
  rfl
theorem load_one {t : Nat} {i : Ti} (hi : TiOk P t i) (ha : i.k.agg = false) (a : Addr) (x : Value) (hc : w.cell? a = some x) : (loadVar t a).run P w = .ok x w := by
  unfold loadVar
  rw [Sem.run_bind, hi.isAgg w, ha]
  simp [hc]

theorem xload_ok {t : Nat} {i : Ti} (hi : TiOk P t i) (hH : HOk ρ w H) {h o : Nat} {x : Value} (hx : den ρ (.p h o) = some x) :
    RunOk ρ w H nx ((do pure (Next.value (← Instr.loadAt t x)) : Sem Next).run P w) (xload i H h o) := by
  unfold xload
  split <;> try trivial
  rename_i l ty hl
  obtain ⟨hv, hr, hrep⟩ := hH h _ hl
  cases hv with
  | rw a n c => exact hrep.elim
  | blk b =>
    obtain ⟨cs, hd, hb⟩ := hrep
    simp only [den, hr] at hx
    cases hx
    have hlen := denL_length hd
    have hcell : ∀ j, w.cell? ((⟨b, o, none⟩ : Addr).add j) = cs[o + j]? := fun j => by
      rw [addr0, cell_of_row w b (o + j) cs.toArray ty (0, 0) hb]; simp
    cases ha : i.k.agg with
    | true =>
      simp only []
      cases hle : Nat.ble (o + i.size) l.length with
      | false => trivial
      | true =>
        have hle' := Nat.le_of_ble_eq_true hle
        refine ⟨.agg ((cs.drop o).take i.size).toArray, ?_, ?_⟩
        · simp only [den, denL_take i.size (denL_drop o hd)]
        · have hrun := load_agg (w := w) hi ha (⟨b, o, none⟩ : Addr) ((cs.drop o).take i.size) (by simp; omega) (fun j v hj => by
            rw [hcell]
            rw [List.getElem?_take] at hj
            split at hj
            · rw [List.getElem?_drop] at hj; exact hj
            · cases hj)
          simp only [Instr.loadAt, Instr.sureAddr, Sem.run_bind, Sem.run_pure, Result.andThen_ok, hrun]
    | false =>
      simp only []
      cases hg : l[o]? with
      | none => trivial
      | some v =>
        obtain ⟨x, hx, hdx⟩ := denL_get hd hg
        refine ⟨x, hdx, ?_⟩
        have hrun := load_one (w := w) hi ha (⟨b, o, none⟩ : Addr) x (by have := hcell 0; rw [addr0] at this; simpa using this.trans hx)
        simp only [Instr.loadAt, Instr.sureAddr, Sem.run_bind, Sem.run_pure, Result.andThen_ok, hrun]

theorem denL_splice {ρ : Vl} {l v : List SV} {xs ys : List Value} (o : Nat) (h : denL ρ l = some xs) (h' : denL ρ v = some ys) :
    denL ρ (splice l o v) = some (xs.take o ++ (ys ++ xs.drop (o + ys.length))) := by
  unfold splice
  rw [denL_length h']
  exact denL_append (denL_take o h) (denL_append h' (denL_drop _ h))

theorem upd_setRow {b : Nat} {cs ds : Array Value} {t : TypeId} (hb : w.heap[b]? = some (.cells cs t (0, 0))) : Upd (· = b) w (w.setRow b ds) :=
  ⟨rfl, rfl, rfl, by simp, fun k _ hk => setRow_other w b k ds hk⟩

theorem xstore_ok {t : Nat} {i : Ti} (hi : TiOk P t i) (hH : HOk ρ w H) {h o : Nat} {v : SV} {x y : Value} (hx : den ρ (.p h o) = some x) (hy : den ρ v = some y) :
    RunOk ρ w H nx ((do Instr.storeAt t x y; pure Next.skip : Sem Next).run P w) (xstore i H h o v) := by
  unfold xstore
  split <;> try trivial
  rename_i l ty hl
  obtain ⟨hv, hr, hrep⟩ := hH h _ hl
  cases hv with
  | rw a n c => exact hrep.elim
  | blk b =>
    obtain ⟨cs, hd, hb⟩ := hrep
    simp only [den, hr] at hx
    cases hx
    have hlen := denL_length hd
    have hcv := cells_ok hy
    have hlv := denL_length hcv
    split
    case h_2 => trivial
    rename_i hc
    simp only [Bool.and_eq_true] at hc
    obtain ⟨h1, h2, h3⟩ := hc
    have h1' := Nat.eq_of_beq_eq_true h1
    have h2' := Nat.le_of_ble_eq_true h2
    have hst := run_storeCells_at (P := P) b o ty y.cells.toList 0 cs.toArray w hb (by simp at hlv ⊢; omega) (allOne_ok h3 hcv)
    have hrun : (storeVar t ⟨b, o, none⟩ y).run P w = .ok () (w.setRow b (cs.take o ++ (y.cells.toList ++ cs.drop (o + y.cells.toList.length))).toArray) := by
      unfold storeVar
      rw [Sem.run_bind, hi.size w]
      simp only [Result.andThen_ok]
      rw [if_neg (by simp at hlv; omega)]
      simpa [List.append_assoc] using hst
    have hlt : b < w.heap.size := (Array.getElem?_eq_some_iff.1 hb).1
    refine ⟨.blk b, .cells l ty, w.setRow b (cs.take o ++ (y.cells.toList ++ cs.drop (o + y.cells.toList.length))).toArray, hl, rfl, hr, ?_, upd_setRow hb, ?_, rfl, ?_⟩
    · simp only [Instr.storeAt, Instr.sureAddr, Sem.run_bind, Sem.run_pure, Result.andThen_ok, hrun]
    · exact ⟨_, denL_splice o hd hcv, setRow_heap w b _ _ ty _ hb⟩
    · intro k hk
      simp only [SO.fp] at hk ⊢
      subst hk
      exact ⟨.inl rfl, by simpa using hlt⟩

/-! ### new blocks -/
theorem below_alloc1 (w : World) (o : Obj) : Below w.heap.size w (w.alloc o) := (Below.refl _ _).alloc (Nat.le_refl _) o

theorem new_cells {l : List SV} {cs : List Value} {ty : TypeId} (hd : denL ρ l = some cs) (hn : ρ nx = none) :
    Eff ρ w nx (.new (.p nx 0) (.cells l ty)) (.pointer (some ⟨w.heap.size, 0, none⟩)) (w.alloc (.cells cs.toArray ty)) := by
  refine ⟨.blk w.heap.size, by simp only [den, Vl.upd_same], below_alloc1 w _, ⟨cs, denL_mono (Vl.le_upd hn) _ _ hd, heap_alloc_new w _⟩, ?_⟩
  intro k hk
  simp only [SO.fp] at hk
  subst hk
  simp

theorem alloc_ok {t : Nat} {i : Ti} (hi : TiOk P t i) (hn : ρ nx = none) :
    RunOk ρ w H nx ((do pure (Next.value (← Instr.alloc t true (.tuple #[]))) : Sem Next).run P w) (.new (.p nx 0) (.cells i.zero t)) := by
  obtain ⟨z, h1, h2, _⟩ := hi.zeroV w
  refine ⟨_, _, ?_, new_cells (denL_mono (Vl.none_le ρ) _ _ h2) hn⟩
  simp [Instr.alloc, h1, newVar, newRow]

theorem box_ok {t : Nat} {v : SV} {x : Value} (hx : den ρ v = some x) (hn : ρ nx = none) :
    RunOk ρ w H nx ((do pure (Next.value (← Instr.box t x)) : Sem Next).run P w) (.new (.p nx 0) (.cells (cellsOf v) t)) := by
  refine ⟨_, _, ?_, new_cells (cells_ok hx) hn⟩
  simp [Instr.box, newVar, newRow]

theorem map_ok (t : Nat) (hn : ρ nx = none) :
    RunOk ρ w H nx ((do pure (Next.value (← Instr.makeMap t none)) : Sem Next).run P w) (.new (.m nx) (.mp [])) := by
  refine ⟨.map (some w.heap.size), w.alloc (.map #[] 0), ?_, .blk w.heap.size, by simp only [den, Vl.upd_same], below_alloc1 w _, ⟨[], #[], 0, rfl, heap_alloc_new w _, by simp [MapRep]⟩, ?_⟩
  · simp [Instr.makeMap]
  · intro k hk
    simp only [SO.fp] at hk
    subst hk
    simp

/-! ### parts -/
theorem spliceV (xs : List Value) (off : Nat) (ys : List Value) (h : off + ys.length ≤ xs.length) :
    ((ys.toArray.zipIdx.foldl (fun (cs : Array Value) (c, j) => cs.setIfInBounds (off + j) c) xs.toArray)) = (xs.take off ++ (ys ++ xs.drop (off + ys.length))).toArray := by
  have key : ∀ (ys : List Value) (k : Nat) (xs : List Value), off + k + ys.length ≤ xs.length →
      (ys.zipIdx k).foldl (fun (cs : Array Value) (p : Value × Nat) => cs.setIfInBounds (off + p.2) p.1) xs.toArray = (xs.take (off + k) ++ (ys ++ xs.drop (off + k + ys.length))).toArray := by
    intro ys
    induction ys with
    | nil => intro k xs _; simp
    | cons y ys ih =>
      intro k xs hl
      simp only [List.length_cons] at hl
      simp only [List.zipIdx_cons, List.foldl_cons, List.setIfInBounds_toArray]
      rw [ih (k + 1) (xs.set (off + k) y) (by simp; omega)]
      congr 1
      rw [show off + (k + 1) = off + k + 1 from by omega]
      rw [List.take_succ_eq_append_getElem (by simp; omega)]
      simp only [List.getElem_set_self, List.append_assoc, List.cons_append, List.nil_append]
      rw [List.take_set_of_le (Nat.le_refl _), List.drop_set_of_lt (by omega)]
      simp only [List.length_cons]
      rw [show off + k + 1 + ys.length = off + k + (ys.length + 1) from by omega]
  have := key ys 0 xs (by simpa using h)
  simpa [Array.foldl_toList] using this

def PartsRel (ρ : Vl) (place : Nat → Option (Nat × Nat)) : List (Nat × Value) → List (Nat × Nat × SV) → Prop
  | [], [] => True
  | (i, x) :: r, (off, sz, v) :: l => place i = some (off, sz) ∧ den ρ v = some x ∧ PartsRel ρ place r l
  | _, _ => False

theorem fill_ok {place : Nat → Option (Nat × Nat)} : ∀ (parts : List (Nat × Value)) (l : List (Nat × Nat × SV)) (z c : List SV) (zs : List Value), PartsRel ρ place parts l → denL ρ z = some zs → fillS z l = some c →
    ∃ cs, Instr.fill place zs.toArray parts = some cs.toArray ∧ denL ρ c = some cs
  | [], [], z, c, zs, _, hz, hf => by cases hf; exact ⟨zs, rfl, hz⟩
  | (i, x) :: r, (off, sz, v) :: l, z, c, zs, hp, hz, hf => by
    obtain ⟨h1, h2, h3⟩ := hp
    unfold fillS at hf
    split at hf
    case h_2 => cases hf
    rename_i hc
    simp only [Bool.and_eq_true] at hc
    have e1 := Nat.eq_of_beq_eq_true hc.1
    have e2 := Nat.le_of_ble_eq_true hc.2
    have hcv := cells_ok h2
    have hlv := denL_length hcv
    have hlz := denL_length hz
    obtain ⟨cs, hcs, hd⟩ := fill_ok r l _ c _ h3 (denL_splice off hz hcv) hf
    refine ⟨cs, ?_, hd⟩
    have hsz : x.cells.size = sz := by simp at hlv; omega
    unfold Instr.fill
    simp only [h1]
    rw [if_neg (by simp [hsz]; omega)]
    have := spliceV zs off x.cells.toList (by simp; omega)
    rw [Array.toArray_toList] at this
    rw [this]
    exact hcs
  | [], _ :: _, _, _, _, hp, _, _ => hp.elim
  | _ :: _, [], _, _, _, hp, _, _ => hp.elim

/-- The operands that a walk reads: what they stand for. -/
def EOk (ρ : Vl) (e : Operand → Option SV) (f : Operand → Value) : Prop := ∀ x v, e x = some v → den ρ v = some (f x)

theorem partsOf_ok {e : Operand → Option SV} {f : Operand → Value} (he : EOk ρ e f) {fs : List (Nat × Nat × Nat)} {place : Nat → Option (Nat × Nat)} (hp : ∀ i x, fs[i]? = some x → place i = some (x.2.1, x.2.2)) :
    ∀ (parts : List (Nat × Operand)) (l : List (Nat × Nat × SV)), partsOf fs e parts = some l → PartsRel ρ place (parts.map fun (i, x) => (i, f x)) l
  | [], l, h => by cases h; trivial
  | (i, x) :: r, l, h => by
    unfold partsOf at h
    split at h
    case h_2 => cases h
    rename_i a off sz v l' h1 h2 h3
    cases h
    exact ⟨hp i _ h1, he x v h2, partsOf_ok he hp r l' h3⟩
theorem partsAt_ok {e : Operand → Option SV} {f : Operand → Value} (he : EOk ρ e f) (sz : Nat) :
    ∀ (parts : List (Nat × Operand)) (l : List (Nat × Nat × SV)), partsAt sz e parts = some l → PartsRel ρ (fun i => some (i * sz, sz)) (parts.map fun (i, x) => (i, f x)) l
  | [], l, h => by cases h; trivial
  | (i, x) :: r, l, h => by
    unfold partsAt at h
    split at h
    case h_2 => cases h
    rename_i v l' h1 h2
    cases h
    exact ⟨rfl, he x v h1, partsAt_ok he sz r l' h2⟩

theorem places_ok (fields : Array Field) (fs : List (Nat × Nat × Nat)) (hm : fields.toList.map (fun f => (f.type, f.offset)) = fs.map (fun x => (x.1, x.2.1))) (hs : ∀ x ∈ fs, (P.info? x.1).map (·.size) = some x.2.2 ∧ x.2.2 ≠ 0) :
    ∃ places : Array (Nat × Nat), (fields.mapM fun f => (do pure (f.offset, ← sizeOf f.type) : Sem (Nat × Nat))).run P w = .ok places w ∧ ∀ (i : Nat) (x : Nat × Nat × Nat), fs[i]? = some x → places[i]? = some (x.2.1, x.2.2) := by
  obtain ⟨fl⟩ := fields
  simp only [List.mapM_toArray] at *
  have key : ∀ (fl : List Field) (fs : List (Nat × Nat × Nat)), fl.map (fun f => (f.type, f.offset)) = fs.map (fun x => (x.1, x.2.1)) → (∀ x ∈ fs, (P.info? x.1).map (·.size) = some x.2.2 ∧ x.2.2 ≠ 0) →
      (fl.mapM fun f => (do pure (f.offset, ← sizeOf f.type) : Sem (Nat × Nat))).run P w = .ok (fs.map fun x => (x.2.1, x.2.2)) w := by
    intro fl
    induction fl with
    | nil => intro fs h _; cases fs with | nil => rfl | cons => cases h
    | cons f fl ih =>
      intro fs h hs
      cases fs with
      | nil => cases h
      | cons x fs =>
        simp only [List.map_cons, List.cons.injEq, Prod.mk.injEq] at h
        obtain ⟨⟨h1, h2⟩, h3⟩ := h
        obtain ⟨hx, _⟩ := hs x (List.mem_cons_self ..)
        obtain ⟨inf, hi1, hi2⟩ := Option.map_eq_some_iff.1 hx
        have hsz : (sizeOf f.type).run P w = .ok x.2.2 w := by rw [h1]; simp [sizeOf, typeInfo, hi1, hi2]
        rw [List.mapM_cons]
        simp only [Sem.run_bind, hsz, Result.andThen_ok, Sem.run_pure, ih fs h3 (fun y hy => hs y (List.mem_cons_of_mem _ hy)), List.map_cons, h2]
  refine ⟨(fs.map fun x => (x.2.1, x.2.2)).toArray, ?_, fun i x hx => by simp [hx]⟩
  rw [Sem.run_map, key fl fs hm hs]
  rfl

theorem build_st_ok {t : Nat} {i : Ti} (hi : TiOk P t i) {fs : List (Nat × Nat × Nat)} (hk : i.k = .st fs) {e : Operand → Option SV} {f : Operand → Value} (he : EOk ρ e f) (parts : Array (Nat × Operand)) {l : List (Nat × Nat × SV)} {c : List SV}
    (h1 : partsOf fs e parts.toList = some l) (h2 : fillS i.zero l = some c) :
    RunOk ρ w H nx ((do pure (Next.value (← Instr.build t (parts.map fun (i, x) => (i, f x)))) : Sem Next).run P w) (.val (.ag c)) := by
  obtain ⟨z, hz1, hz2, hz3⟩ := hi.zeroV w
  obtain ⟨d, hu, hf⟩ := hi.und
  rw [hk] at hf
  cases d <;> simp only [TK.fits] at hf
  rename_i fields
  obtain ⟨places, hp1, hp2⟩ := places_ok (P := P) (w := w) fields fs hf.1 hf.2
  obtain ⟨cs, hc1, hc2⟩ := fill_ok (ρ := ρ) (place := (places[·]?)) _ l i.zero c z.cells.toList (partsOf_ok he hp2 parts.toList l h1) (denL_mono (Vl.none_le ρ) _ _ hz2) h2
  refine ⟨.agg cs.toArray, by simp only [den, hc2], ?_⟩
  have e1 : (parts.map fun (i, x) => (i, f x)).toList = parts.toList.map fun (i, x) => (i, f x) := by simp
  unfold Instr.build
  simp only [Sem.run_bind, hz1, Result.andThen_ok, run_underlying hu w, hp1, e1]
  rw [Array.toArray_toList] at hc1
  rw [hc1]
  rfl

theorem denL_zeros {ρ : Vl} {z : List SV} {zs : List Value} (h : denL ρ z = some zs) : ∀ n, ∃ ys, denL ρ (zeros z n) = some ys ∧ ys.length = n * zs.length ∧ ∀ j, j < n * zs.length → ys[j]? = zs[j % zs.length]?
  | 0 => ⟨[], rfl, by simp, fun j hj => by simp at hj⟩
  | n + 1 => by
    obtain ⟨ys, h1, h2, h3⟩ := denL_zeros h n
    refine ⟨zs ++ ys, denL_append h h1, by simp [h2, Nat.succ_mul]; omega, fun j hj => ?_⟩
    by_cases hlt : j < zs.length
    · rw [List.getElem?_append_left hlt, Nat.mod_eq_of_lt hlt]
    · rw [List.getElem?_append_right (by omega), h3 _ (by rw [Nat.succ_mul] at hj; omega)]
      congr 1
      exact (Nat.mod_eq_sub_mod (by omega)).symm

theorem range_zero (z : Array Value) (m : Nat) (ys : List Value) (hl : ys.length = m) (hy : ∀ j, j < m → ys[j]? = z.toList[j % z.size]?) :
    ((Array.range m).map (z[· % z.size]!)) = ys.toArray := by
  apply Array.ext
  · simp [hl]
  · intro i h1 h2
    simp at h1 h2
    have hi := hy i (by omega)
    rw [List.getElem?_eq_getElem (by omega)] at hi
    by_cases hz : z.size = 0
    · exfalso
      have : z = #[] := by apply Array.eq_empty_of_size_eq_zero hz
      subst this
      simp at hi
    · have hm : i % z.size < z.size := Nat.mod_lt _ (by omega)
      rw [List.getElem?_eq_getElem (by simpa using hm)] at hi
      simp only [Option.some.injEq] at hi
      simp [hi, hm]

theorem buildSlice_ok {t el : Nat} {i j : Ti} (hi : TiOk P t i) (hk : i.k = .slc el) (hj : TiOk P el j) {e : Operand → Option SV} {f : Operand → Value} (he : EOk ρ e f) (hn : ρ nx = none) (len : Nat) (parts : Array (Nat × Operand)) {l : List (Nat × Nat × SV)} {c : List SV}
    (h0 : Nat.ble (len * j.size) 16777216 = true) (h1 : partsAt j.size e parts.toList = some l) (h2 : fillS (zeros j.zero len) l = some c) :
    RunOk ρ w H nx ((do pure (Next.value (← Instr.buildSlice t len (parts.map fun (i, x) => (i, f x)))) : Sem Next).run P w) (.new (.sl nx 0 len len) (.cells c el)) := by
  obtain ⟨z, hz1, hz2, hz3⟩ := hj.zeroV w
  obtain ⟨d, hu, hf⟩ := hi.und
  rw [hk] at hf
  cases d <;> simp only [TK.fits] at hf
  subst hf
  have hz2' := denL_mono (Vl.none_le ρ) _ _ hz2
  have hzl := denL_length hz2
  obtain ⟨ys, hy1, hy2, hy3⟩ := denL_zeros hz2' len
  have hsz : z.cells.toList.length = j.size := by omega
  rw [hsz] at hy2 hy3
  obtain ⟨cs, hc1, hc2⟩ := fill_ok (ρ := ρ) (place := fun i => some (i * j.size, j.size)) _ l (zeros j.zero len) c ys (partsAt_ok he j.size parts.toList l h1) hy1 h2
  have e1 : (parts.map fun (i, x) => (i, f x)).toList = parts.toList.map fun (i, x) => (i, f x) := by simp
  have hnew := new_cells (nx := nx) (w := w) (ty := el) hc2 hn
  obtain ⟨hv, hv1, hv2, hv3, hv4⟩ := hnew
  have hle := Nat.le_of_ble_eq_true h0
  refine ⟨.slice (some ⟨w.heap.size, 0, none⟩) len len, w.alloc (.cells cs.toArray el), ?_, hv, ?_, hv2, hv3, hv4⟩
  · unfold Instr.buildSlice
    by_cases hnil : len * j.size = 0
    · have hys : ys = [] := List.eq_nil_of_length_eq_zero (by omega)
      rw [hys] at hc1
      simp only [Sem.run_bind, Result.andThen_ok, run_underlying hu w, hj.size w, e1, hnil]
      simp only [show ¬ (0 > 2 ^ 24) from by omega, if_false, if_true, Sem.run_bind, Sem.run_pure, Result.andThen_ok]
      rw [show ((Array.range 0).map (fun x => (#[] : Array Value)[x % (#[] : Array Value).size]!)) = ([] : List Value).toArray from by apply Array.eq_empty_of_size_eq_zero; simp, hc1]
      simp [newRow]
    · have hr := range_zero z.cells (len * j.size) ys hy2 (fun k hk => by rw [hy3 k hk, hsz.symm]; simp)
      simp only [Sem.run_bind, Result.andThen_ok, run_underlying hu w, hj.size w, e1]
      rw [if_neg (by omega)]
      simp only [Sem.run_bind, Sem.run_pure, Result.andThen_ok, if_neg hnil, hz1]
      rw [hr, hc1]
      simp [newRow]
  · cases hv with
    | rw a b c => simp [den, Vl.upd_same] at hv1
    | blk b => simp [den, Vl.upd_same] at hv1 ⊢; exact hv1

/-! ### fields, indexes -/
theorem get_map {α β γ : Type} {f : α → γ} {g : β → γ} : ∀ {l : List α} {l' : List β}, l.map f = l'.map g → ∀ {i : Nat} {y : β}, l'[i]? = some y → ∃ x, l[i]? = some x ∧ f x = g y
  | [], [], _, i, y, h => by simp at h
  | a :: l, b :: l', hm, 0, y, h => by
    simp only [List.map_cons, List.cons.injEq] at hm
    simp only [List.getElem?_cons_zero, Option.some.injEq] at h
    subst h
    exact ⟨a, by simp, hm.1⟩
  | a :: l, b :: l', hm, i + 1, y, h => by
    simp only [List.map_cons, List.cons.injEq] at hm
    simp only [List.getElem?_cons_succ] at h
    simpa using get_map hm.2 h
  | [], _ :: _, hm, _, _, _ => by simp at hm
  | _ :: _, [], hm, _, _, _ => by simp at hm

theorem fieldAt_run {t : Nat} {i : Ti} (hi : TiOk P t i) {fs : List (Nat × Nat × Nat)} (hk : i.k = .st fs) {k ft off sz : Nat} (hf : fs[k]? = some (ft, off, sz)) (a : Addr) :
    (Instr.fieldAt t (.pointer (some a)) k).run P w = .ok (.pointer (some (a.add off))) w := by
  obtain ⟨d, hu, hfit⟩ := hi.und
  rw [hk] at hfit
  cases d <;> simp only [TK.fits] at hfit
  rename_i fields
  obtain ⟨fl, h1, h2⟩ := get_map hfit.1 hf
  simp only [Prod.mk.injEq] at h2
  have h1' : fields[k]? = some fl := by simpa using h1
  obtain ⟨hs1, hs2⟩ := hfit.2 _ (List.mem_of_getElem? hf)
  obtain ⟨inf, hi1, hi2⟩ := Option.map_eq_some_iff.1 hs1
  have hsz : (sizeOf fl.type).run P w = .ok sz w := by rw [h2.1]; simp [sizeOf, typeInfo, hi1, hi2]
  unfold Instr.fieldAt
  simp only [Sem.run_bind, run_underlying hu w, Result.andThen_ok, h1', Instr.sureAddr, Sem.run_pure, fieldPlace, hsz]
  rw [if_neg hs2, h2.2]
  rfl

theorem fieldAddr_ok {t : Nat} {i : Ti} (hi : TiOk P t i) {fs : List (Nat × Nat × Nat)} (hk : i.k = .st fs) {v : SV} {x : Value} (hx : den ρ v = some x) (k : Nat) :
    RunOk ρ w H nx ((do pure (Next.value (← Instr.fieldAt t x k)) : Sem Next).run P w) (xfield fs v k) := by
  unfold xfield
  split
  case h_2 => trivial
  rename_i ft off sz hf
  split
  case h_3 => trivial
  · rename_i h o
    simp only [den] at hx
    split at hx
    case h_2 => cases hx
    rename_i b hb
    cases hx
    refine ⟨.pointer (some ⟨b, o + off, none⟩), by simp only [den, hb], ?_⟩
    simp only [Sem.run_bind, fieldAt_run hi hk hf, Result.andThen_ok, Sem.run_pure, addr0]
  · rename_i h j sz' o
    simp only [den] at hx
    split at hx
    case h_2 => cases hx
    rename_i a n c hb
    cases hx
    refine ⟨.pointer (some (a.add (j * sz' + (o + off)))), by simp only [den, hb], ?_⟩
    simp only [Sem.run_bind, fieldAt_run hi hk hf, Result.andThen_ok, Sem.run_pure, addr_add, Nat.add_assoc]
end
end Go.Sx
