/- The map of the pairs that lead (function 43): its five entries, inserted in whatever order. No condition. -/
import Derived.Test.YtiibmnoikgfcbaaDoorX12
import Derived.Test.YtiibmnoikgfcbaaDoorT6
namespace Go.Proofs.YtiibmnoikgfcbaaDoor
open Go Go.Sx Go.RowKit
set_option maxRecDepth 100000
set_option maxHeartbeats 400000
set_option linter.unusedVariables false
set_option linter.unusedSimpArgs false

def pk (a b : Int) : SV × SV := (.ag [.n .i64 a, .n .i64 b], .n .i64 1)
def pairsEs : List (SV × SV) := [pk 6 5, pk 10 7, pk 10 9, pk 8 9, pk 11 12]
def sumPairs : Sum := fun args H nx => match args with
  | [] => some (.new (.m nx) (.mp pairsEs))
  | _ => none
def pv (a b : Int) : Value × Value := (.agg #[.int .i64 a, .int .i64 b], .int .i64 1)
def ifL (b : Bool) (x : Value × Value) : List (Value × Value) := bif b then [x] else []
def insd (L : Nat → Bool) : List (Value × Value) :=
  ifL (L 2) (pv 6 5) ++ (ifL (L 4) (pv 10 7) ++ (ifL (L 6) (pv 10 9) ++ (ifL (L 8) (pv 8 9) ++ ifL (L 10) (pv 11 12))))
theorem ifL_mem {b : Bool} {x y : Value × Value} (h : x ∈ ifL b y) : x = y ∧ b = true := by
  cases b with
  | true => exact ⟨by simpa [ifL] using h, rfl⟩
  | false => cases h

structure PairI (w0 : World) (L : Nat → Bool) (a : Act) (w : World) : Prop where
  df : a.defers = []
  sz : a.tmps.size = 8
  bl : Below w0.heap.size w0 w
  mp : L 0 = true → ∃ b en clk, w0.heap.size ≤ b ∧ a.tmps[1]? = some (.map (some b)) ∧ w.heap[b]? = some (.map en clk) ∧ (en.toList.map fun e => (e.key, e.val)).Perm (insd L) ∧ (L 11 = true → a.tmps[7]? = some (.map (some b))) ∧ (L 12 = true → a.tmps[0]? = some (.map (some b)))
  no : L 0 = false → insd L = [] ∧ L 11 = false ∧ L 12 = false
  b1 : L 1 = true → a.tmps[2]? = some (.agg #[.int .i64 6, .int .i64 5])
  b3 : L 3 = true → a.tmps[3]? = some (.agg #[.int .i64 10, .int .i64 7])
  b5 : L 5 = true → a.tmps[4]? = some (.agg #[.int .i64 10, .int .i64 9])
  b7 : L 7 = true → a.tmps[5]? = some (.agg #[.int .i64 8, .int .i64 9])
  b9 : L 9 = true → a.tmps[6]? = some (.agg #[.int .i64 11, .int .i64 12])

def noE : Operand → Option SV
  | .const v => some (cv v)
  | _ => none
theorem noE_ok (a : Act) : EOk Vl.none noE a.eval := fun o v h => by
  cases o <;> simp only [noE] at h <;> try cases h
  exact cv_ok _ _

theorem run_pair (a : Act) (w : World) (x y : Int) (d : Option Nat) (af : Array Edge) (g : Option (Nat × Bool)) (ty : Nat) (ps : String) :
    (execOp a.eval { dst := d, op := .build 92 #[(0, .const (.int .i64 x)), (1, .const (.int .i64 y))], type := ty, pos := ps, after := af, guard := g }).run Tryd.prog w = .ok (.value (.agg #[.int .i64 x, .int .i64 y])) w := by
  have h := xop_ok tabA_ok (ρ := Vl.none) (w := w) (H := []) (nx := 0) (fun _ _ h => by cases h) rfl (noE_ok a) { dst := d, op := .build 92 #[(0, .const (.int .i64 x)), (1, .const (.int .i64 y))], type := ty, pos := ps, after := af, guard := g }
  have e : xop tabA [] 0 noE (.build 92 #[(0, .const (.int .i64 x)), (1, .const (.int .i64 y))]) = .val (.ag [.n .i64 x, .n .i64 y]) := rfl
  simp only [e] at h
  obtain ⟨z, h1, h2⟩ := h
  cases h1
  exact h2
theorem run_mk (a : Act) (w : World) :
    ∃ b w' en clk, (∀ (d : Option Nat) (af : Array Edge) (g : Option (Nat × Bool)) (ty : Nat) (ps : String), (execOp a.eval { dst := d, op := .makeMap 89 none, type := ty, pos := ps, after := af, guard := g }).run Tryd.prog w = .ok (.value (.map (some b))) w') ∧ Below w.heap.size w w' ∧ w.heap.size ≤ b ∧ w'.heap[b]? = some (.map en clk) ∧ en.toList = [] := by
  have h := xop_ok tabA_ok (ρ := Vl.none) (w := w) (H := []) (nx := 0) (fun _ _ h => by cases h) rfl (noE_ok a) { dst := none, op := .makeMap 89 none, type := 0, pos := "", after := #[], guard := none }
  have e : xop tabA [] 0 noE (.makeMap 89 none) = .new (.m 0) (.mp []) := rfl
  simp only [e] at h
  obtain ⟨y, w', h1, hv, h2, h3, h4, h5⟩ := h
  cases hv with
  | rw a n c => exact h4.elim
  | blk b =>
    obtain ⟨kvs, en, clk, q1, q2, q3⟩ := h4
    cases q1
    simp only [den, Vl.upd_same, Option.some.injEq] at h2
    subst h2
    refine ⟨b, w', en, clk, fun _ _ _ _ _ => h1, h3, (h5 b rfl).1, q2, ?_⟩
    have := q3.1.length_eq
    simpa using this
theorem run_ins (a : Act) (w : World) (x y : Int) (t : Nat) (b : Nat) (en : Array MapEntry) (clk : Nat) (d : Option Nat) (af : Array Edge) (g : Option (Nat × Bool)) (ty : Nat) (ps : String)
    (h1 : a.tmps[1]? = some (.map (some b))) (ht : a.tmps[t]? = some (.agg #[.int .i64 x, .int .i64 y])) (hb : w.heap[b]? = some (.map en clk))
    (hf : ∀ e ∈ en.toList, ∃ u v, e.key = .agg #[.int .i64 u, .int .i64 v] ∧ (u = x → v = y → False)) :
    (execOp a.eval { dst := d, op := .insert 89 (.tmp 1) (.tmp t) (.const (.int .i64 1)), type := ty, pos := ps, after := af, guard := g }).run Tryd.prog w = .ok .skip { w with heap := w.heap.setIfInBounds b (.map (en.push { key := .agg #[.int .i64 x, .int .i64 y], val := .int .i64 1, born := clk }) (clk + 1)) } := by
  obtain ⟨hEq, hKey⟩ := tabA_ok.eqs 92 [.int .i64, .int .i64] rfl
  have hr := run_insert_st (P := Tryd.prog) (w := w) (t := 89) (kt := 92) (et := 3) Tryd.underlying89 Tryd.underlying92 hEq hKey hb (xs := [.int .i64 x, .int .i64 y]) rfl (fun e he => by
    obtain ⟨u, v, q1, q2⟩ := hf e he
    refine ⟨[.int .i64 u, .int .i64 v], q1, rfl, ?_⟩
    simp only [eqV, eqV1, Bool.and_true, Bool.and_eq_false_iff, beq_eq_false_iff_ne]
    by_cases e1 : u = x
    · exact .inr fun e2 => q2 e1 e2.symm
    · exact .inl fun e2 => e1 e2.symm) (.int .i64 1)
  have e1 : a.eval (.tmp 1) = .map (some b) := by simp [Act.eval, h1]
  have e2 : a.eval (.tmp t) = .agg #[.int .i64 x, .int .i64 y] := by simp [Act.eval, ht]
  show (do Instr.mapUpdate 89 (a.eval (.tmp 1)) (a.eval (.tmp t)) (.int .i64 1); pure Next.skip : Sem Next).run Tryd.prog w = _
  rw [e1, e2]
  simp only [Sem.run_bind, hr, Result.andThen_ok]
  rfl

section
variable {w0 : World} {L : Nat → Bool} {a : Act} {w : World}
theorem insd_mem {L : Nat → Bool} {x : Value × Value} (h : x ∈ insd L) : (x = pv 6 5 ∧ L 2 = true) ∨ (x = pv 10 7 ∧ L 4 = true) ∨ (x = pv 10 9 ∧ L 6 = true) ∨ (x = pv 8 9 ∧ L 8 = true) ∨ (x = pv 11 12 ∧ L 10 = true) := by
  simp only [insd, List.mem_append] at h
  rcases h with h | h | h | h | h
  · exact .inl (ifL_mem h)
  · exact .inr (.inl (ifL_mem h))
  · exact .inr (.inr (.inl (ifL_mem h)))
  · exact .inr (.inr (.inr (.inl (ifL_mem h))))
  · exact .inr (.inr (.inr (.inr (ifL_mem h))))

theorem PairI.b1s (h : PairI w0 L a w) : PairI w0 (fun j => j == 1 || L j) (a.put (some 2) (.agg #[.int .i64 6, .int .i64 5])) w where
  df := h.df
  sz := by simp [Act.put, h.sz]
  bl := h.bl
  mp e := by
    obtain ⟨b, en, clk, q1, q2, q3, q4, q5, q6⟩ := h.mp (by simpa using e)
    exact ⟨b, en, clk, q1, by simp [Act.put, q2], q3, by simpa [insd] using q4, fun e => by simpa [Act.put] using q5 (by simpa using e), fun e => by simpa [Act.put] using q6 (by simpa using e)⟩
  no e := by
    obtain ⟨q1, q2, q3⟩ := h.no (by simpa using e)
    exact ⟨by simpa [insd] using q1, by simpa using q2, by simpa using q3⟩
  b1 e := by simp [Act.put, h.sz]
  b3 e := by simpa [Act.put] using h.b3 (by simpa using e)
  b5 e := by simpa [Act.put] using h.b5 (by simpa using e)
  b7 e := by simpa [Act.put] using h.b7 (by simpa using e)
  b9 e := by simpa [Act.put] using h.b9 (by simpa using e)

theorem PairI.b3s (h : PairI w0 L a w) : PairI w0 (fun j => j == 3 || L j) (a.put (some 3) (.agg #[.int .i64 10, .int .i64 7])) w where
  df := h.df
  sz := by simp [Act.put, h.sz]
  bl := h.bl
  mp e := by
    obtain ⟨b, en, clk, q1, q2, q3, q4, q5, q6⟩ := h.mp (by simpa using e)
    exact ⟨b, en, clk, q1, by simp [Act.put, q2], q3, by simpa [insd] using q4, fun e => by simpa [Act.put] using q5 (by simpa using e), fun e => by simpa [Act.put] using q6 (by simpa using e)⟩
  no e := by
    obtain ⟨q1, q2, q3⟩ := h.no (by simpa using e)
    exact ⟨by simpa [insd] using q1, by simpa using q2, by simpa using q3⟩
  b1 e := by simpa [Act.put] using h.b1 (by simpa using e)
  b3 e := by simp [Act.put, h.sz]
  b5 e := by simpa [Act.put] using h.b5 (by simpa using e)
  b7 e := by simpa [Act.put] using h.b7 (by simpa using e)
  b9 e := by simpa [Act.put] using h.b9 (by simpa using e)

theorem PairI.b5s (h : PairI w0 L a w) : PairI w0 (fun j => j == 5 || L j) (a.put (some 4) (.agg #[.int .i64 10, .int .i64 9])) w where
  df := h.df
  sz := by simp [Act.put, h.sz]
  bl := h.bl
  mp e := by
    obtain ⟨b, en, clk, q1, q2, q3, q4, q5, q6⟩ := h.mp (by simpa using e)
    exact ⟨b, en, clk, q1, by simp [Act.put, q2], q3, by simpa [insd] using q4, fun e => by simpa [Act.put] using q5 (by simpa using e), fun e => by simpa [Act.put] using q6 (by simpa using e)⟩
  no e := by
    obtain ⟨q1, q2, q3⟩ := h.no (by simpa using e)
    exact ⟨by simpa [insd] using q1, by simpa using q2, by simpa using q3⟩
  b1 e := by simpa [Act.put] using h.b1 (by simpa using e)
  b3 e := by simpa [Act.put] using h.b3 (by simpa using e)
  b5 e := by simp [Act.put, h.sz]
  b7 e := by simpa [Act.put] using h.b7 (by simpa using e)
  b9 e := by simpa [Act.put] using h.b9 (by simpa using e)

theorem PairI.b7s (h : PairI w0 L a w) : PairI w0 (fun j => j == 7 || L j) (a.put (some 5) (.agg #[.int .i64 8, .int .i64 9])) w where
  df := h.df
  sz := by simp [Act.put, h.sz]
  bl := h.bl
  mp e := by
    obtain ⟨b, en, clk, q1, q2, q3, q4, q5, q6⟩ := h.mp (by simpa using e)
    exact ⟨b, en, clk, q1, by simp [Act.put, q2], q3, by simpa [insd] using q4, fun e => by simpa [Act.put] using q5 (by simpa using e), fun e => by simpa [Act.put] using q6 (by simpa using e)⟩
  no e := by
    obtain ⟨q1, q2, q3⟩ := h.no (by simpa using e)
    exact ⟨by simpa [insd] using q1, by simpa using q2, by simpa using q3⟩
  b1 e := by simpa [Act.put] using h.b1 (by simpa using e)
  b3 e := by simpa [Act.put] using h.b3 (by simpa using e)
  b5 e := by simpa [Act.put] using h.b5 (by simpa using e)
  b7 e := by simp [Act.put, h.sz]
  b9 e := by simpa [Act.put] using h.b9 (by simpa using e)

theorem PairI.b9s (h : PairI w0 L a w) : PairI w0 (fun j => j == 9 || L j) (a.put (some 6) (.agg #[.int .i64 11, .int .i64 12])) w where
  df := h.df
  sz := by simp [Act.put, h.sz]
  bl := h.bl
  mp e := by
    obtain ⟨b, en, clk, q1, q2, q3, q4, q5, q6⟩ := h.mp (by simpa using e)
    exact ⟨b, en, clk, q1, by simp [Act.put, q2], q3, by simpa [insd] using q4, fun e => by simpa [Act.put] using q5 (by simpa using e), fun e => by simpa [Act.put] using q6 (by simpa using e)⟩
  no e := by
    obtain ⟨q1, q2, q3⟩ := h.no (by simpa using e)
    exact ⟨by simpa [insd] using q1, by simpa using q2, by simpa using q3⟩
  b1 e := by simpa [Act.put] using h.b1 (by simpa using e)
  b3 e := by simpa [Act.put] using h.b3 (by simpa using e)
  b5 e := by simpa [Act.put] using h.b5 (by simpa using e)
  b7 e := by simpa [Act.put] using h.b7 (by simpa using e)
  b9 e := by simp [Act.put, h.sz]

theorem PairI.i2s (h : PairI w0 L a w) (hL : L 2 = false) (h0 : L 0 = true) (hb : L 1 = true) :
    ∃ w', (∀ (af : Array Edge) (g : Option (Nat × Bool)) (ty : Nat) (ps : String), (execOp a.eval { dst := none, op := .insert 89 (.tmp 1) (.tmp 2) (.const (.int .i64 1)), type := ty, pos := ps, after := af, guard := g }).run Tryd.prog w = .ok .skip w') ∧ PairI w0 (fun j => j == 2 || L j) a w' := by
  obtain ⟨b, en, clk, q1, q2, q3, q4, q5, q6⟩ := h.mp h0
  have hr := fun af g ty ps => run_ins a w 6 5 2 b en clk none af g ty ps q2 (h.b1 hb) q3 (fun e he => by
    have hm := q4.mem_iff.1 (List.mem_map_of_mem (f := fun e => (e.key, e.val)) he)
    rcases insd_mem hm with ⟨e1, e2⟩ | ⟨e1, e2⟩ | ⟨e1, e2⟩ | ⟨e1, e2⟩ | ⟨e1, e2⟩
    all_goals
      first
        | (rw [hL] at e2; cases e2; done)
        | (simp only [pv, Prod.mk.injEq] at e1
           exact ⟨_, _, e1.1, by decide⟩))
  refine ⟨_, hr, { df := h.df, sz := h.sz, bl := h.bl.trans ⟨rfl, rfl, rfl, by simp, fun k hk => (MapKept.heap_set q3).2 k (by omega)⟩, mp := fun _ => ⟨b, _, _, q1, q2, (MapKept.heap_set q3).1, ?_, fun e => q5 (by simpa using e), fun e => q6 (by simpa using e)⟩, no := fun e => ?_, b1 := fun e => h.b1 (by simpa using e), b3 := fun e => h.b3 (by simpa using e), b5 := fun e => h.b5 (by simpa using e), b7 := fun e => h.b7 (by simpa using e), b9 := fun e => h.b9 (by simpa using e) }⟩
  · simp only [Array.toList_push, List.map_append, List.map_cons, List.map_nil]
    refine (List.Perm.append_right _ q4).trans ?_
    have e1 : insd L = [] ++ (ifL (L 4) (pv 10 7) ++ (ifL (L 6) (pv 10 9) ++ (ifL (L 8) (pv 8 9) ++ ifL (L 10) (pv 11 12)))) := by simp only [insd, hL]; rfl
    rw [e1]
    show List.Perm (([] ++ (ifL (L 4) (pv 10 7) ++ (ifL (L 6) (pv 10 9) ++ (ifL (L 8) (pv 8 9) ++ ifL (L 10) (pv 11 12))))) ++ [pv 6 5]) ([pv 6 5] ++ (ifL (L 4) (pv 10 7) ++ (ifL (L 6) (pv 10 9) ++ (ifL (L 8) (pv 8 9) ++ ifL (L 10) (pv 11 12)))))
    simp only [List.nil_append, List.append_nil, List.append_assoc]
    simpa only [List.append_assoc] using List.perm_append_comm (l₁ := ifL (L 4) (pv 10 7) ++ (ifL (L 6) (pv 10 9) ++ (ifL (L 8) (pv 8 9) ++ ifL (L 10) (pv 11 12)))) (l₂ := [pv 6 5])
  · have := by simpa using e
    rw [h0] at this
    cases this

theorem PairI.i4s (h : PairI w0 L a w) (hL : L 4 = false) (h0 : L 0 = true) (hb : L 3 = true) :
    ∃ w', (∀ (af : Array Edge) (g : Option (Nat × Bool)) (ty : Nat) (ps : String), (execOp a.eval { dst := none, op := .insert 89 (.tmp 1) (.tmp 3) (.const (.int .i64 1)), type := ty, pos := ps, after := af, guard := g }).run Tryd.prog w = .ok .skip w') ∧ PairI w0 (fun j => j == 4 || L j) a w' := by
  obtain ⟨b, en, clk, q1, q2, q3, q4, q5, q6⟩ := h.mp h0
  have hr := fun af g ty ps => run_ins a w 10 7 3 b en clk none af g ty ps q2 (h.b3 hb) q3 (fun e he => by
    have hm := q4.mem_iff.1 (List.mem_map_of_mem (f := fun e => (e.key, e.val)) he)
    rcases insd_mem hm with ⟨e1, e2⟩ | ⟨e1, e2⟩ | ⟨e1, e2⟩ | ⟨e1, e2⟩ | ⟨e1, e2⟩
    all_goals
      first
        | (rw [hL] at e2; cases e2; done)
        | (simp only [pv, Prod.mk.injEq] at e1
           exact ⟨_, _, e1.1, by decide⟩))
  refine ⟨_, hr, { df := h.df, sz := h.sz, bl := h.bl.trans ⟨rfl, rfl, rfl, by simp, fun k hk => (MapKept.heap_set q3).2 k (by omega)⟩, mp := fun _ => ⟨b, _, _, q1, q2, (MapKept.heap_set q3).1, ?_, fun e => q5 (by simpa using e), fun e => q6 (by simpa using e)⟩, no := fun e => ?_, b1 := fun e => h.b1 (by simpa using e), b3 := fun e => h.b3 (by simpa using e), b5 := fun e => h.b5 (by simpa using e), b7 := fun e => h.b7 (by simpa using e), b9 := fun e => h.b9 (by simpa using e) }⟩
  · simp only [Array.toList_push, List.map_append, List.map_cons, List.map_nil]
    refine (List.Perm.append_right _ q4).trans ?_
    have e1 : insd L = ifL (L 2) (pv 6 5) ++ ([] ++ (ifL (L 6) (pv 10 9) ++ (ifL (L 8) (pv 8 9) ++ ifL (L 10) (pv 11 12)))) := by simp only [insd, hL]; rfl
    rw [e1]
    show List.Perm ((ifL (L 2) (pv 6 5) ++ ([] ++ (ifL (L 6) (pv 10 9) ++ (ifL (L 8) (pv 8 9) ++ ifL (L 10) (pv 11 12))))) ++ [pv 10 7]) (ifL (L 2) (pv 6 5) ++ ([pv 10 7] ++ (ifL (L 6) (pv 10 9) ++ (ifL (L 8) (pv 8 9) ++ ifL (L 10) (pv 11 12)))))
    simp only [List.nil_append, List.append_nil, List.append_assoc]
    refine List.Perm.append_left _ ?_
    simpa only [List.append_assoc] using List.perm_append_comm (l₁ := ifL (L 6) (pv 10 9) ++ (ifL (L 8) (pv 8 9) ++ ifL (L 10) (pv 11 12))) (l₂ := [pv 10 7])
  · have := by simpa using e
    rw [h0] at this
    cases this

theorem PairI.i6s (h : PairI w0 L a w) (hL : L 6 = false) (h0 : L 0 = true) (hb : L 5 = true) :
    ∃ w', (∀ (af : Array Edge) (g : Option (Nat × Bool)) (ty : Nat) (ps : String), (execOp a.eval { dst := none, op := .insert 89 (.tmp 1) (.tmp 4) (.const (.int .i64 1)), type := ty, pos := ps, after := af, guard := g }).run Tryd.prog w = .ok .skip w') ∧ PairI w0 (fun j => j == 6 || L j) a w' := by
  obtain ⟨b, en, clk, q1, q2, q3, q4, q5, q6⟩ := h.mp h0
  have hr := fun af g ty ps => run_ins a w 10 9 4 b en clk none af g ty ps q2 (h.b5 hb) q3 (fun e he => by
    have hm := q4.mem_iff.1 (List.mem_map_of_mem (f := fun e => (e.key, e.val)) he)
    rcases insd_mem hm with ⟨e1, e2⟩ | ⟨e1, e2⟩ | ⟨e1, e2⟩ | ⟨e1, e2⟩ | ⟨e1, e2⟩
    all_goals
      first
        | (rw [hL] at e2; cases e2; done)
        | (simp only [pv, Prod.mk.injEq] at e1
           exact ⟨_, _, e1.1, by decide⟩))
  refine ⟨_, hr, { df := h.df, sz := h.sz, bl := h.bl.trans ⟨rfl, rfl, rfl, by simp, fun k hk => (MapKept.heap_set q3).2 k (by omega)⟩, mp := fun _ => ⟨b, _, _, q1, q2, (MapKept.heap_set q3).1, ?_, fun e => q5 (by simpa using e), fun e => q6 (by simpa using e)⟩, no := fun e => ?_, b1 := fun e => h.b1 (by simpa using e), b3 := fun e => h.b3 (by simpa using e), b5 := fun e => h.b5 (by simpa using e), b7 := fun e => h.b7 (by simpa using e), b9 := fun e => h.b9 (by simpa using e) }⟩
  · simp only [Array.toList_push, List.map_append, List.map_cons, List.map_nil]
    refine (List.Perm.append_right _ q4).trans ?_
    have e1 : insd L = ifL (L 2) (pv 6 5) ++ (ifL (L 4) (pv 10 7) ++ ([] ++ (ifL (L 8) (pv 8 9) ++ ifL (L 10) (pv 11 12)))) := by simp only [insd, hL]; rfl
    rw [e1]
    show List.Perm ((ifL (L 2) (pv 6 5) ++ (ifL (L 4) (pv 10 7) ++ ([] ++ (ifL (L 8) (pv 8 9) ++ ifL (L 10) (pv 11 12))))) ++ [pv 10 9]) (ifL (L 2) (pv 6 5) ++ (ifL (L 4) (pv 10 7) ++ ([pv 10 9] ++ (ifL (L 8) (pv 8 9) ++ ifL (L 10) (pv 11 12)))))
    simp only [List.nil_append, List.append_nil, List.append_assoc]
    refine List.Perm.append_left _ ?_
    refine List.Perm.append_left _ ?_
    simpa only [List.append_assoc] using List.perm_append_comm (l₁ := ifL (L 8) (pv 8 9) ++ ifL (L 10) (pv 11 12)) (l₂ := [pv 10 9])
  · have := by simpa using e
    rw [h0] at this
    cases this

theorem PairI.i8s (h : PairI w0 L a w) (hL : L 8 = false) (h0 : L 0 = true) (hb : L 7 = true) :
    ∃ w', (∀ (af : Array Edge) (g : Option (Nat × Bool)) (ty : Nat) (ps : String), (execOp a.eval { dst := none, op := .insert 89 (.tmp 1) (.tmp 5) (.const (.int .i64 1)), type := ty, pos := ps, after := af, guard := g }).run Tryd.prog w = .ok .skip w') ∧ PairI w0 (fun j => j == 8 || L j) a w' := by
  obtain ⟨b, en, clk, q1, q2, q3, q4, q5, q6⟩ := h.mp h0
  have hr := fun af g ty ps => run_ins a w 8 9 5 b en clk none af g ty ps q2 (h.b7 hb) q3 (fun e he => by
    have hm := q4.mem_iff.1 (List.mem_map_of_mem (f := fun e => (e.key, e.val)) he)
    rcases insd_mem hm with ⟨e1, e2⟩ | ⟨e1, e2⟩ | ⟨e1, e2⟩ | ⟨e1, e2⟩ | ⟨e1, e2⟩
    all_goals
      first
        | (rw [hL] at e2; cases e2; done)
        | (simp only [pv, Prod.mk.injEq] at e1
           exact ⟨_, _, e1.1, by decide⟩))
  refine ⟨_, hr, { df := h.df, sz := h.sz, bl := h.bl.trans ⟨rfl, rfl, rfl, by simp, fun k hk => (MapKept.heap_set q3).2 k (by omega)⟩, mp := fun _ => ⟨b, _, _, q1, q2, (MapKept.heap_set q3).1, ?_, fun e => q5 (by simpa using e), fun e => q6 (by simpa using e)⟩, no := fun e => ?_, b1 := fun e => h.b1 (by simpa using e), b3 := fun e => h.b3 (by simpa using e), b5 := fun e => h.b5 (by simpa using e), b7 := fun e => h.b7 (by simpa using e), b9 := fun e => h.b9 (by simpa using e) }⟩
  · simp only [Array.toList_push, List.map_append, List.map_cons, List.map_nil]
    refine (List.Perm.append_right _ q4).trans ?_
    have e1 : insd L = ifL (L 2) (pv 6 5) ++ (ifL (L 4) (pv 10 7) ++ (ifL (L 6) (pv 10 9) ++ ([] ++ ifL (L 10) (pv 11 12)))) := by simp only [insd, hL]; rfl
    rw [e1]
    show List.Perm ((ifL (L 2) (pv 6 5) ++ (ifL (L 4) (pv 10 7) ++ (ifL (L 6) (pv 10 9) ++ ([] ++ ifL (L 10) (pv 11 12))))) ++ [pv 8 9]) (ifL (L 2) (pv 6 5) ++ (ifL (L 4) (pv 10 7) ++ (ifL (L 6) (pv 10 9) ++ ([pv 8 9] ++ ifL (L 10) (pv 11 12)))))
    simp only [List.nil_append, List.append_nil, List.append_assoc]
    refine List.Perm.append_left _ ?_
    refine List.Perm.append_left _ ?_
    refine List.Perm.append_left _ ?_
    simpa only [List.append_assoc] using List.perm_append_comm (l₁ := ifL (L 10) (pv 11 12)) (l₂ := [pv 8 9])
  · have := by simpa using e
    rw [h0] at this
    cases this

theorem PairI.i10s (h : PairI w0 L a w) (hL : L 10 = false) (h0 : L 0 = true) (hb : L 9 = true) :
    ∃ w', (∀ (af : Array Edge) (g : Option (Nat × Bool)) (ty : Nat) (ps : String), (execOp a.eval { dst := none, op := .insert 89 (.tmp 1) (.tmp 6) (.const (.int .i64 1)), type := ty, pos := ps, after := af, guard := g }).run Tryd.prog w = .ok .skip w') ∧ PairI w0 (fun j => j == 10 || L j) a w' := by
  obtain ⟨b, en, clk, q1, q2, q3, q4, q5, q6⟩ := h.mp h0
  have hr := fun af g ty ps => run_ins a w 11 12 6 b en clk none af g ty ps q2 (h.b9 hb) q3 (fun e he => by
    have hm := q4.mem_iff.1 (List.mem_map_of_mem (f := fun e => (e.key, e.val)) he)
    rcases insd_mem hm with ⟨e1, e2⟩ | ⟨e1, e2⟩ | ⟨e1, e2⟩ | ⟨e1, e2⟩ | ⟨e1, e2⟩
    all_goals
      first
        | (rw [hL] at e2; cases e2; done)
        | (simp only [pv, Prod.mk.injEq] at e1
           exact ⟨_, _, e1.1, by decide⟩))
  refine ⟨_, hr, { df := h.df, sz := h.sz, bl := h.bl.trans ⟨rfl, rfl, rfl, by simp, fun k hk => (MapKept.heap_set q3).2 k (by omega)⟩, mp := fun _ => ⟨b, _, _, q1, q2, (MapKept.heap_set q3).1, ?_, fun e => q5 (by simpa using e), fun e => q6 (by simpa using e)⟩, no := fun e => ?_, b1 := fun e => h.b1 (by simpa using e), b3 := fun e => h.b3 (by simpa using e), b5 := fun e => h.b5 (by simpa using e), b7 := fun e => h.b7 (by simpa using e), b9 := fun e => h.b9 (by simpa using e) }⟩
  · simp only [Array.toList_push, List.map_append, List.map_cons, List.map_nil]
    refine (List.Perm.append_right _ q4).trans ?_
    have e1 : insd L = ifL (L 2) (pv 6 5) ++ (ifL (L 4) (pv 10 7) ++ (ifL (L 6) (pv 10 9) ++ (ifL (L 8) (pv 8 9) ++ []))) := by simp only [insd, hL]; rfl
    rw [e1]
    show List.Perm ((ifL (L 2) (pv 6 5) ++ (ifL (L 4) (pv 10 7) ++ (ifL (L 6) (pv 10 9) ++ (ifL (L 8) (pv 8 9) ++ [])))) ++ [pv 11 12]) (ifL (L 2) (pv 6 5) ++ (ifL (L 4) (pv 10 7) ++ (ifL (L 6) (pv 10 9) ++ (ifL (L 8) (pv 8 9) ++ [pv 11 12]))))
    simp only [List.nil_append, List.append_nil, List.append_assoc]
    refine List.Perm.append_left _ ?_
    refine List.Perm.append_left _ ?_
    refine List.Perm.append_left _ ?_
    refine List.Perm.append_left _ ?_
    exact List.Perm.refl _
  · have := by simpa using e
    rw [h0] at this
    cases this

theorem PairI.s0 (h : PairI w0 L a w) (hL : L 0 = false) :
    ∃ v w', (∀ (af : Array Edge) (g : Option (Nat × Bool)) (ty : Nat) (ps : String), (execOp a.eval { dst := some 1, op := .makeMap 89 none, type := ty, pos := ps, after := af, guard := g }).run Tryd.prog w = .ok (.value v) w') ∧ PairI w0 (fun j => j == 0 || L j) (a.put (some 1) v) w' := by
  obtain ⟨n1, n2, n3⟩ := h.no hL
  obtain ⟨b, w', en, clk, r1, r2, r3, r4, r5⟩ := run_mk a w
  refine ⟨_, w', r1 _, { df := h.df, sz := by simp [Act.put, h.sz], bl := h.bl.trans (r2.mono h.bl.size), mp := fun _ => ⟨b, en, clk, Nat.le_trans h.bl.size r3, by simp [Act.put, h.sz], r4, ?_, fun e => ?_, fun e => ?_⟩, no := fun e => by simp at e, b1 := fun e => by simpa [Act.put] using h.b1 (by simpa using e), b3 := fun e => by simpa [Act.put] using h.b3 (by simpa using e), b5 := fun e => by simpa [Act.put] using h.b5 (by simpa using e), b7 := fun e => by simpa [Act.put] using h.b7 (by simpa using e), b9 := fun e => by simpa [Act.put] using h.b9 (by simpa using e) }⟩
  · rw [r5]
    show List.Perm [] (insd L)
    rw [n1]
  · have : L 11 = true := by simpa using e
    rw [n2] at this; cases this
  · have : L 12 = true := by simpa using e
    rw [n3] at this; cases this
theorem PairI.s11 (h : PairI w0 L a w) (h0 : L 0 = true) (h12 : L 12 = false) : PairI w0 (fun j => j == 11 || L j) (a.put (some 7) (a.eval (.tmp 1))) w where
  df := h.df
  sz := by simp [Act.put, h.sz]
  bl := h.bl
  mp e := by
    obtain ⟨b, en, clk, q1, q2, q3, q4, q5, q6⟩ := h.mp h0
    refine ⟨b, en, clk, q1, by simp [Act.put, q2], q3, by simpa [insd] using q4, fun e => by
      have e1 : a.eval (.tmp 1) = .map (some b) := by simp [Act.eval, q2]
      rw [e1]
      simp [Act.put, h.sz], fun e => by rw [show L 12 = true by simpa using e] at h12; cases h12⟩
  no e := by
    have : L 0 = false := by simpa using e
    rw [h0] at this; cases this
  b1 e := by simpa [Act.put] using h.b1 (by simpa using e)
  b3 e := by simpa [Act.put] using h.b3 (by simpa using e)
  b5 e := by simpa [Act.put] using h.b5 (by simpa using e)
  b7 e := by simpa [Act.put] using h.b7 (by simpa using e)
  b9 e := by simpa [Act.put] using h.b9 (by simpa using e)
theorem PairI.s12 (h : PairI w0 L a w) (h0 : L 0 = true) (h11 : L 11 = true) : PairI w0 (fun j => j == 12 || L j) (a.put (some 0) (a.eval (.tmp 7))) w where
  df := h.df
  sz := by simp [Act.put, h.sz]
  bl := h.bl
  mp e := by
    obtain ⟨b, en, clk, q1, q2, q3, q4, q5, q6⟩ := h.mp h0
    have q7 := q5 h11
    refine ⟨b, en, clk, q1, by simp [Act.put, q2], q3, by simpa [insd] using q4, fun e => by simp [Act.put, q7], fun e => by
      have e1 : a.eval (.tmp 7) = .map (some b) := by simp [Act.eval, q7]
      rw [e1]
      simp [Act.put, h.sz]⟩
  no e := by
    have : L 0 = false := by simpa using e
    rw [h0] at this; cases this
  b1 e := by simpa [Act.put] using h.b1 (by simpa using e)
  b3 e := by simpa [Act.put] using h.b3 (by simpa using e)
  b5 e := by simpa [Act.put] using h.b5 (by simpa using e)
  b7 e := by simpa [Act.put] using h.b7 (by simpa using e)
  b9 e := by simpa [Act.put] using h.b9 (by simpa using e)
end

theorem sumPairs_ok : SumOk1 Tryd.prog 43 sumPairs := by
  intro args H nx out h ρ w xs hH hd hn
  match args, h with
  | [], h =>
  cases h
  cases hd
  show Calls Tryd.prog 43 #[] w fun e w' => ∃ y, e = .returned y ∧ Eff ρ w nx (.new (.m nx) (.mp pairsEs)) y w'
  refine calls_of_wp Tryd.func43 rfl ?_
  refine wp_seq (wp_assign1 ?_)
  refine wp_seq (inv_region (by kernel_rfl) (fun L a w' => PairI w L a w' ∧ (L 11 = false → L 12 = false)) ?_ ?_ ?_ ?_)
  · decide +kernel
  · intro L a w' i o ho hL hpre ⟨hI, hC⟩
    have hi : i < 13 := (List.getElem?_eq_some_iff.1 ho).1
    rcases i with _ | _ | _ | _ | _ | _ | _ | _ | _ | _ | _ | _ | _ | i
    · simp only [List.getElem?_cons_succ, List.getElem?_cons_zero, Option.some.injEq] at ho
      subst ho
      refine dgoal_bare rfl ?_
      obtain ⟨v, w', hr, hI'⟩ := PairI.s0 hI hL
      rw [hr]
      exact ⟨hI', fun e => by simpa using hC (by simpa using e)⟩
    · simp only [List.getElem?_cons_succ, List.getElem?_cons_zero, Option.some.injEq] at ho
      subst ho
      refine dgoal_bare rfl ?_
      rw [run_pair]
      exact ⟨hI.b1s, fun e => by simpa using hC (by simpa using e)⟩
    · simp only [List.getElem?_cons_succ, List.getElem?_cons_zero, Option.some.injEq] at ho
      subst ho
      refine dgoal_bare rfl ?_
      obtain ⟨w', hr, hI'⟩ := PairI.i2s hI hL (hpre ⟨0, .data⟩ (by simp) rfl) (hpre ⟨1, .data⟩ (by simp) rfl)
      rw [hr]
      exact ⟨hI', fun e => by simpa using hC (by simpa using e)⟩
    · simp only [List.getElem?_cons_succ, List.getElem?_cons_zero, Option.some.injEq] at ho
      subst ho
      refine dgoal_bare rfl ?_
      rw [run_pair]
      exact ⟨hI.b3s, fun e => by simpa using hC (by simpa using e)⟩
    · simp only [List.getElem?_cons_succ, List.getElem?_cons_zero, Option.some.injEq] at ho
      subst ho
      refine dgoal_bare rfl ?_
      obtain ⟨w', hr, hI'⟩ := PairI.i4s hI hL (hpre ⟨0, .data⟩ (by simp) rfl) (hpre ⟨3, .data⟩ (by simp) rfl)
      rw [hr]
      exact ⟨hI', fun e => by simpa using hC (by simpa using e)⟩
    · simp only [List.getElem?_cons_succ, List.getElem?_cons_zero, Option.some.injEq] at ho
      subst ho
      refine dgoal_bare rfl ?_
      rw [run_pair]
      exact ⟨hI.b5s, fun e => by simpa using hC (by simpa using e)⟩
    · simp only [List.getElem?_cons_succ, List.getElem?_cons_zero, Option.some.injEq] at ho
      subst ho
      refine dgoal_bare rfl ?_
      obtain ⟨w', hr, hI'⟩ := PairI.i6s hI hL (hpre ⟨0, .data⟩ (by simp) rfl) (hpre ⟨5, .data⟩ (by simp) rfl)
      rw [hr]
      exact ⟨hI', fun e => by simpa using hC (by simpa using e)⟩
    · simp only [List.getElem?_cons_succ, List.getElem?_cons_zero, Option.some.injEq] at ho
      subst ho
      refine dgoal_bare rfl ?_
      rw [run_pair]
      exact ⟨hI.b7s, fun e => by simpa using hC (by simpa using e)⟩
    · simp only [List.getElem?_cons_succ, List.getElem?_cons_zero, Option.some.injEq] at ho
      subst ho
      refine dgoal_bare rfl ?_
      obtain ⟨w', hr, hI'⟩ := PairI.i8s hI hL (hpre ⟨0, .data⟩ (by simp) rfl) (hpre ⟨7, .data⟩ (by simp) rfl)
      rw [hr]
      exact ⟨hI', fun e => by simpa using hC (by simpa using e)⟩
    · simp only [List.getElem?_cons_succ, List.getElem?_cons_zero, Option.some.injEq] at ho
      subst ho
      refine dgoal_bare rfl ?_
      rw [run_pair]
      exact ⟨hI.b9s, fun e => by simpa using hC (by simpa using e)⟩
    · simp only [List.getElem?_cons_succ, List.getElem?_cons_zero, Option.some.injEq] at ho
      subst ho
      refine dgoal_bare rfl ?_
      obtain ⟨w', hr, hI'⟩ := PairI.i10s hI hL (hpre ⟨0, .data⟩ (by simp) rfl) (hpre ⟨9, .data⟩ (by simp) rfl)
      rw [hr]
      exact ⟨hI', fun e => by simpa using hC (by simpa using e)⟩
    · simp only [List.getElem?_cons_succ, List.getElem?_cons_zero, Option.some.injEq] at ho
      subst ho
      refine dgoal_bare rfl ?_
      exact ⟨PairI.s11 hI (hpre ⟨0, .data⟩ (by simp) rfl) (hC hL), fun e => by simp at e⟩
    · simp only [List.getElem?_cons_succ, List.getElem?_cons_zero, Option.some.injEq] at ho
      subst ho
      refine dgoal_bare rfl ?_
      exact ⟨PairI.s12 hI (hpre ⟨0, .phase⟩ (by simp) rfl) (hpre ⟨11, .data⟩ (by simp) rfl), fun e => by
        have h1 : L 11 = true := hpre ⟨11, .data⟩ (by simp) rfl
        have h2 : L 11 = false := by simpa using e
        rw [h1] at h2
        cases h2⟩
    · omega
  · intro L a w' hall ⟨hI, _⟩
    obtain ⟨b, en, clk, q1, q2, q3, q4, q5, q6⟩ := hI.mp (hall 0 (by decide))
    have q7 := q6 (hall 12 (by decide))
    refine wp_ret ⟨hI.df, .map (some b), ?_, ?_⟩
    · have e := results_tmp (fn := Tryd.f43) (t := 0) rfl a.tmps Tryd.prog w'
      rw [show a.tmps.getD 0 undef = .map (some b) by simp [q7]] at e
      exact e
    · refine ⟨_, rfl, .blk b, ?_, hI.bl, ?_, ?_⟩
      · simp only [den, Vl.upd_same]
      · refine ⟨[pv 6 5, pv 10 7, pv 10 9, pv 8 9, pv 11 12], en, clk, rfl, q3, ?_, by decide⟩
        have e : insd L = [pv 6 5, pv 10 7, pv 10 9, pv 8 9, pv 11 12] := by
          unfold insd
          rw [hall 2 (by decide), hall 4 (by decide), hall 6 (by decide), hall 8 (by decide), hall 10 (by decide)]
          rfl
        rw [e] at q4
        exact q4
      · intro k hk
        simp only [SO.fp] at hk
        subst hk
        exact ⟨q1, (Array.getElem?_eq_some_iff.1 q3).1⟩
  · refine ⟨{ df := rfl, sz := rfl, bl := ⟨rfl, rfl, rfl, Nat.le_refl _, fun _ _ => rfl⟩, mp := ?_, no := fun _ => ⟨rfl, rfl, rfl⟩, b1 := ?_, b3 := ?_, b5 := ?_, b7 := ?_, b9 := ?_ }, fun _ => rfl⟩ <;> (intro e; cases e)
end Go.Proofs.YtiibmnoikgfcbaaDoor
