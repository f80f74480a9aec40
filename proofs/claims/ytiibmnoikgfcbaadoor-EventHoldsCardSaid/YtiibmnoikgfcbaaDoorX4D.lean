/- Structs held against one another, and as keys: from their fields. No condition. -/
import Derived.Test.YtiibmnoikgfcbaaDoorX4C
import Derived.Laws.StructEq
namespace Go.Sx
open Go.RowKit
set_option linter.unusedVariables false
set_option linter.unusedSimpArgs false
section
variable {P : Program} {w : World}

def mkv (g : Bool) (xs : List Value) : Value := match g, xs with | false, [x] => x | _, xs => .agg xs.toArray
def EqD (P : Program) (d t : Nat) (g : Bool) (cs : List CK) : Prop := ∀ xs ys w, ckAll cs xs = true → ckAll cs ys = true → (Op.equalIn d t (mkv g xs) (mkv g ys)).run P w = .ok (eqV xs ys) w
def CkD (P : Program) (d t : Nat) (g : Bool) (cs : List CK) : Prop := ∀ e xs w, ckAll cs xs = true → (Instr.checkKey e d t (mkv g xs)).run P w = .ok () w

theorem ckAll_one {c : CK} {xs : List Value} (h : ckAll [c] xs = true) : ∃ x, xs = [x] ∧ ckFits c x = true := by
  match xs, h with
  | [x], h => exact ⟨x, rfl, by simpa [ckAll] using h⟩
  | [], h => simp [ckAll] at h
  | x :: y :: r, h => simp [ckAll] at h
theorem eqD_int {d t : Nat} {k : IntKind} (h : P.underlying t = some (.int k)) : EqD P (d + 1) t false [.int k] := fun xs ys w h1 h2 => by
  obtain ⟨x, rfl, q1⟩ := ckAll_one h1
  obtain ⟨y, rfl, q2⟩ := ckAll_one h2
  cases x <;> simp [ckFits] at q1
  cases y <;> simp [ckFits] at q2
  subst q1
  subst q2
  simp [mkv, run_equalIn_int w d t _ _ _ _ h, eqV, eqV1]
theorem eqD_str {d t : Nat} (h : P.underlying t = some .string) : EqD P (d + 1) t false [.str] := fun xs ys w h1 h2 => by
  obtain ⟨x, rfl, q1⟩ := ckAll_one h1
  obtain ⟨y, rfl, q2⟩ := ckAll_one h2
  cases x <;> simp [ckFits] at q1
  cases y <;> simp [ckFits] at q2
  simp [mkv, Op.equalIn, run_underlying h, eqV, eqV1]
theorem ckD_int {d t : Nat} {k : IntKind} (h : P.underlying t = some (.int k)) : CkD P (d + 1) t false [.int k] := fun e xs w h1 => by
  obtain ⟨x, rfl, q1⟩ := ckAll_one h1
  cases x <;> simp [ckFits] at q1
  simp [mkv, Instr.checkKey, run_underlying h]
theorem ckD_str {d t : Nat} (h : P.underlying t = some .string) : CkD P (d + 1) t false [.str] := fun e xs w h1 => by
  obtain ⟨x, rfl, q1⟩ := ckAll_one h1
  cases x <;> simp [ckFits] at q1
  simp [mkv, Instr.checkKey, run_underlying h]

theorem ckAll_append : ∀ {a b : List CK} {xs : List Value}, ckAll (a ++ b) xs = true → ckAll a (xs.take a.length) = true ∧ ckAll b (xs.drop a.length) = true ∧ a.length ≤ xs.length
  | [], b, xs, h => by simpa [ckAll] using h
  | c :: a, b, [], h => by simp [ckAll] at h
  | c :: a, b, x :: xs, h => by
    simp only [List.cons_append, ckAll, Bool.and_eq_true] at h
    obtain ⟨h1, h2, h3⟩ := ckAll_append h.2
    refine ⟨by simp [ckAll, h.1, h1], by simpa using h2, by simp; omega⟩
theorem ckAll_len : ∀ {a : List CK} {xs : List Value}, ckAll a xs = true → xs.length = a.length
  | [], [], _ => rfl
  | [], x :: xs, h => by simp [ckAll] at h
  | c :: a, [], h => by simp [ckAll] at h
  | c :: a, x :: xs, h => by
    simp only [ckAll, Bool.and_eq_true] at h
    simp [ckAll_len h.2]
theorem eqV_append : ∀ {a b c d : List Value}, a.length = c.length → eqV (a ++ b) (c ++ d) = (eqV a c && eqV b d)
  | [], b, [], d, _ => by simp [eqV]
  | x :: a, b, y :: c, d, h => by
    have := eqV_append (a := a) (b := b) (c := c) (d := d) (by simpa using h)
    simp [eqV, this, Bool.and_assoc]

/-- The fields of a struct: type, whether it is a struct or an array, its cells. -/
def EqFs (P : Program) (d : Nat) : List Field → Nat → List (Bool × List CK) → Prop
  | [], _, [] => True
  | f :: fs, o, (g, cs) :: r => (f.name == "_") = false ∧ f.offset = o ∧ EqD P d f.type g cs ∧ CkD P d f.type g cs ∧ (g = false → cs.length = 1) ∧ (∃ i, TiOk P f.type i ∧ i.size = cs.length ∧ i.k.agg = g) ∧ EqFs P d fs (o + cs.length) r
  | _, _, _ => False
def flatC : List (Bool × List CK) → List CK
  | [] => []
  | (_, cs) :: r => cs ++ flatC r

theorem run_part {t o : Nat} {i : Ti} (hi : TiOk P t i) {cs : List CK} {xs : List Value} (hs : i.size = cs.length) (h1 : i.k.agg = false → cs.length = 1) (h : ckAll cs ((xs.drop o).take cs.length) = true) : (part t xs.toArray o).run P w = .ok (mkv i.k.agg ((xs.drop o).take cs.length)) w := by
  have hlen := ckAll_len h
  simp only [List.length_take, List.length_drop] at hlen
  unfold part
  rw [Sem.run_bind, hi.isAgg w]
  cases ha : i.k.agg with
  | true =>
    simp only [Result.andThen_ok, if_true, Sem.run_bind, hi.size w, Sem.run_pure]
    congr 2
    simp [List.extract_eq_take_drop, hs]
  | false =>
    have h1 := h1 ha
    have ho : o < xs.length := by omega
    have e : (xs.drop o).take cs.length = [xs[o]] := by
      rw [h1]
      apply List.ext_getElem?
      intro q
      rw [blk_get]
      cases q with
      | zero => simp [ho]
      | succ q => simp
    rw [e]
    simp [mkv, ho]

theorem take_drop_cat {α : Type} {xs : List α} {o n m : Nat} : (xs.drop o).take (n + m) = (xs.drop o).take n ++ (xs.drop (o + n)).take m := by
  rw [List.take_add, List.drop_drop]

theorem eqFields_ok {d : Nat} : ∀ {fs : List Field} {o : Nat} {r : List (Bool × List CK)}, EqFs P d fs o r → ∀ (xs ys : List Value) (w : World), ckAll (flatC r) (xs.drop o) = true → ckAll (flatC r) (ys.drop o) = true →
    (Op.eqFields d xs.toArray ys.toArray fs).run P w = .ok (eqV (xs.drop o) (ys.drop o)) w
  | [], o, [], _, xs, ys, w, h1, h2 => by
    have e1 := ckAll_len h1
    have e2 := ckAll_len h2
    simp only [flatC, List.length_nil] at e1 e2
    rw [List.eq_nil_of_length_eq_zero e1, List.eq_nil_of_length_eq_zero e2]
    rfl
  | f :: fs, o, (g, cs) :: r, h, xs, ys, w, h1, h2 => by
    obtain ⟨hn, ho, he, _, hg, ⟨i, hi, hsz, hgi⟩, hr⟩ := h
    subst ho
    subst hgi
    simp only [flatC] at h1 h2
    obtain ⟨a1, a2, a3⟩ := ckAll_append h1
    obtain ⟨b1, b2, b3⟩ := ckAll_append h2
    rw [List.drop_drop] at a2 b2
    have hn' : f.name ≠ "_" := by simpa using hn
    simp only [Op.eqFields, if_pos hn', Sem.run_bind, run_part hi hsz hg a1, run_part hi hsz hg b1, Result.andThen_ok, he _ _ w a1 b1]
    have ih := eqFields_ok hr xs ys w a2 b2
    have e : eqV (xs.drop f.offset) (ys.drop f.offset) = (eqV ((xs.drop f.offset).take cs.length) ((ys.drop f.offset).take cs.length) && eqV (xs.drop (f.offset + cs.length)) (ys.drop (f.offset + cs.length))) := by
      rw [← eqV_append (by rw [ckAll_len a1, ckAll_len b1])]
      rw [← List.drop_drop, ← List.drop_drop, List.take_append_drop, List.take_append_drop]
    rw [e]
    cases eqV ((xs.drop f.offset).take cs.length) ((ys.drop f.offset).take cs.length) with
    | false => simp
    | true => simpa using ih

theorem eqD_st {d t : Nat} {r : List (Bool × List CK)} (ht : P.underlying t = some (.struct (P.fieldsOf t))) (hp : P.stoodInHeld t = false) (hf : EqFs P d (P.fieldsOf t).toList 0 r) : EqD P (d + 1) t true (flatC r) := fun xs ys w h1 h2 => by
  have := eqFields_ok hf xs ys w (by simpa using h1) (by simpa using h2)
  simp only [mkv]
  rw [run_equalIn_struct w d t _ _ ht hp, this]
  simp

theorem ckD_st {d t : Nat} {r : List (Bool × List CK)} (ht : P.underlying t = some (.struct (P.fieldsOf t))) (hf : EqFs P d (P.fieldsOf t).toList 0 r) : CkD P (d + 1) t true (flatC r) := fun e xs w h1 => by
  simp only [mkv, Instr.checkKey, Sem.run_bind, run_underlying ht, Result.andThen_ok]
  rw [← Array.forIn_toList]
  have key : ∀ (fs : List Field) (o : Nat) (r : List (Bool × List CK)), EqFs P d fs o r → ckAll (flatC r) (xs.drop o) = true →
      (forIn fs PUnit.unit fun f (_ : PUnit) => (do
        if f.name ≠ "_" then Instr.checkKey e d f.type (← part f.type xs.toArray f.offset)
        pure (ForInStep.yield PUnit.unit) : Sem (ForInStep PUnit))).run P w = .ok PUnit.unit w := by
    intro fs
    induction fs with
    | nil => intro o r _ _; simp
    | cons f fs ih =>
      intro o r hf h
      match r, hf, h with
      | (g, cs) :: r, hf, h =>
        obtain ⟨hn, ho, _, hc, hg, ⟨i, hi, hsz, hgi⟩, hr⟩ := hf
        subst ho
        subst hgi
        simp only [flatC] at h
        obtain ⟨a1, a2, a3⟩ := ckAll_append h
        rw [List.drop_drop] at a2
        have hn' : f.name ≠ "_" := by simpa using hn
        have := ih _ r hr a2
        simp only [List.forIn_cons, Sem.run_bind, if_pos hn', run_part hi hsz hg a1, Result.andThen_ok, hc e _ w a1, Sem.run_pure]
        exact this
  have := key _ 0 r hf (by simpa using h1)
  simp only [ne_eq, ite_not, Array.forIn_toList] at this ⊢
  erw [this]
  rfl

theorem EqOk.mk2 {t : Nat} {r : List (Bool × List CK)} (hg : P.eqGuardType P.depth t = false) (ht : P.underlying t = some (.struct (P.fieldsOf t))) (hp : P.stoodInHeld t = false) (hf : EqFs P 9999 (P.fieldsOf t).toList 0 r) : EqOk P t (flatC r) ∧ KeyOk P t (flatC r) :=
  ⟨⟨hg, fun xs ys w h1 h2 => eqD_st ht hp hf xs ys w h1 h2⟩, fun e xs w h => ckD_st ht hf e xs w h⟩

theorem EqOk.mk3 {t : Nat} {fs : Array Field} {r : List (Bool × List CK)} (ht : P.underlying t = some (.struct fs)) (hg : P.eqGuardType P.depth t = false) (hp : P.stoodInHeld t = false) (hf : EqFs P 9999 fs.toList 0 r) : EqOk P t (flatC r) ∧ KeyOk P t (flatC r) := by
  have e : P.fieldsOf t = fs := by simp [Program.fieldsOf, ht]
  exact EqOk.mk2 hg (by rw [e]; exact ht) hp (by rw [e]; exact hf)
theorem eqD_st3 {d t : Nat} {fs : Array Field} {r : List (Bool × List CK)} (ht : P.underlying t = some (.struct fs)) (hp : P.stoodInHeld t = false) (hf : EqFs P d fs.toList 0 r) : EqD P (d + 1) t true (flatC r) ∧ CkD P (d + 1) t true (flatC r) := by
  have e : P.fieldsOf t = fs := by simp [Program.fieldsOf, ht]
  exact ⟨eqD_st (by rw [e]; exact ht) hp (by rw [e]; exact hf), ckD_st (by rw [e]; exact ht) (by rw [e]; exact hf)⟩

/-! ### maps -/
section
variable {tb : Tab} {ρ : Vl} {H : List (Nat × SO)} {nx : Nat}

theorem denP_cons {k v : SV} {l : List (SV × SV)} {kvs : List (Value × Value)} (h : denP ρ ((k, v) :: l) = some kvs) : ∃ x y r, kvs = (x, y) :: r ∧ den ρ k = some x ∧ den ρ v = some y ∧ denP ρ l = some r := by
  simp only [denP] at h
  cases e1 : den ρ k with
  | none => rw [e1] at h; cases h
  | some x =>
    cases e2 : den ρ v with
    | none => rw [e1, e2] at h; cases h
    | some y =>
      cases e3 : denP ρ l with
      | none => rw [e1, e2, e3] at h; cases h
      | some r => rw [e1, e2, e3] at h; cases h; exact ⟨x, y, r, rfl, rfl, rfl, rfl⟩

theorem run_lookup {t kt et : Nat} (hu : P.underlying t = some (.map kt et)) {ei : Ti} (hei : TiOk P et ei) {zero : SV} (hz : zeroSV ei = some zero) {b : Nat} {es : Array MapEntry} {clk : Nat} (hb : w.heap[b]? = some (.map es clk)) {key : Value}
    (hck : ∀ e, (Instr.checkKey e 10000 kt key).run P w = .ok () w) {q : Value → Bool} (hfind : ∃ r, (Instr.findKey kt key es.toList).run P w = .ok r w ∧ (r.map (·.2)) = (es.toList.find? fun e => q e.key).map (·.val))
    {kvs : List (Value × Value)} (hm : MapRep kvs es) (hq : kvs.Pairwise fun a b => ¬ (q a.1 = true ∧ q b.1 = true)) (ok : Bool) :
    ∃ y o, (Instr.lookup t (.map (some b)) key ok).run P w = .ok (if ok then .tuple #[y, .bool o] else y) w ∧ ((kvs.find? fun a => q a.1) = none → den ρ zero = some y ∧ o = false) ∧ ∀ a, (kvs.find? fun a => q a.1) = some a → y = a.2 ∧ o = true := by
  obtain ⟨r, h1, h2⟩ := hfind
  rw [find_perm hm.1 hq] at h2
  obtain ⟨z, hz1, hzd⟩ := hei.zeroS w hz ρ
  cases r with
  | none =>
    refine ⟨z, false, ?_, fun _ => ⟨hzd, rfl⟩, fun a ha => ?_⟩
    · simp [Instr.lookup, run_underlying hu, MapKept.run_getObj_map hb, hck, h1, hz1]
    · rw [ha] at h2; cases h2
  | some r =>
    obtain ⟨i, y⟩ := r
    refine ⟨y, true, ?_, fun hn => ?_, fun a ha => ?_⟩
    · simp [Instr.lookup, run_underlying hu, MapKept.run_getObj_map hb, hck, h1]
    · rw [hn] at h2; cases h2
    · rw [ha] at h2
      simp only [Option.map_some, Option.some.injEq] at h2
      exact ⟨h2, rfl⟩

/-- Every key is a number of a kind. -/
theorem findNow_int {kd k : IntKind} {z : Int} : ∀ (l : List MapEntry) (i : Nat), (∀ e ∈ l, ∃ z', e.key = .int k z') →
    ∃ r, Instr.findNow (.int kd) (.int k z) l i = some r ∧ (r.map (·.2)) = (l.find? fun e => match e.key with | .int _ z' => z == z' | _ => false).map (·.val)
  | [], i, _ => ⟨none, rfl, rfl⟩
  | e :: l, i, h => by
    obtain ⟨z', hz⟩ := h e (List.mem_cons_self ..)
    obtain ⟨r, h1, h2⟩ := findNow_int (kd := kd) (k := k) (z := z) l (i + 1) fun e' he => h e' (List.mem_cons_of_mem _ he)
    cases hq : z == z' with
    | true => exact ⟨some (i, e.val), by simp [Instr.findNow, Instr.sameNow, hz, hq], by simp [List.find?, hz, hq]⟩
    | false => exact ⟨r, by simp [Instr.findNow, Instr.sameNow, hz, hq, h1], by simp [List.find?, hz, hq, h2]⟩

theorem intKeys_ok {k : IntKind} : ∀ {es : List (SV × SV)} {kvs : List (Value × Value)}, intKeys k es = true → denP ρ es = some kvs → ∀ a ∈ kvs, ∃ z, a.1 = .int k z
  | [], kvs, _, hd, a, ha => by cases hd; cases ha
  | (u, v) :: r, kvs, h, hd, a, ha => by
    obtain ⟨x, y, r', rfl, e1, e2, e3⟩ := denP_cons hd
    cases u <;> try exact absurd (show false = true from h) (by decide)
    rename_i k' z'
    simp only [intKeys, Bool.and_eq_true] at h
    have hk := kEq_ok h.1
    subst hk
    cases e1
    rcases List.mem_cons.1 ha with rfl | ha
    · exact ⟨_, rfl⟩
    · exact intKeys_ok h.2 e3 a ha

theorem atLit_ok {k : IntKind} {z : Int} : ∀ {es : List (SV × SV)} {kvs : List (Value × Value)} {r : Option SV}, intKeys k es = true → denP ρ es = some kvs → atLit k z es = some r →
    match r with
    | none => (kvs.find? fun a => match a.1 with | .int _ z' => z == z' | _ => false) = none
    | some v => ∃ a, (kvs.find? fun a => match a.1 with | .int _ z' => z == z' | _ => false) = some a ∧ den ρ v = some a.2
  | [], kvs, r, _, hd, h => by cases hd; cases h; rfl
  | (u, v) :: es, kvs, r, hk, hd, h => by
    obtain ⟨x, y, r', rfl, e1, e2, e3⟩ := denP_cons hd
    cases u <;> try exact absurd (show false = true from hk) (by decide)
    rename_i k' z'
    simp only [intKeys, Bool.and_eq_true] at hk
    simp only [atLit, hk.1] at h
    cases e1
    rw [eqI_ok] at h
    cases hq : z == z' with
    | true =>
      rw [hq] at h
      cases h
      exact ⟨(Value.int k' z', y), by simp [List.find?, hq], e2⟩
    | false =>
      rw [hq] at h
      have := atLit_ok hk.2 e3 h
      cases r with
      | none => simpa [List.find?, hq] using this
      | some v => simpa [List.find?, hq] using this

theorem absent_ok {k : IntKind} {x : Int} : ∀ {es : List (SV × SV)} {kvs : List (Value × Value)}, intKeys k es = true → denP ρ es = some kvs → absent x es → (kvs.find? fun a => match a.1 with | .int _ z' => x == z' | _ => false) = none
  | [], kvs, _, hd, _ => by cases hd; rfl
  | (u, v) :: es, kvs, hk, hd, h => by
    obtain ⟨x', y, r', rfl, e1, e2, e3⟩ := denP_cons hd
    cases u <;> try exact absurd (show false = true from hk) (by decide)
    rename_i k' z'
    simp only [intKeys, Bool.and_eq_true] at hk
    simp only [absent] at h
    cases e1
    have hq : (x == z') = false := by simpa using h.1
    simpa [List.find?, hq] using absent_ok hk.2 e3 h.2

theorem mapRep_int {kvs : List (Value × Value)} {es : Array MapEntry} (hm : MapRep kvs es) {z : Int} : kvs.Pairwise fun a b => ¬ ((match a.1 with | .int _ z' => z == z' | _ => false) = true ∧ (match b.1 with | .int _ z' => z == z' | _ => false) = true) := by
  refine hm.2.imp fun {a b} h => ?_
  rintro ⟨h1, h2⟩
  split at h1
  case h_2 => cases h1
  split at h2
  case h_2 => cases h2
  rename_i e1 _ _ _ e2
  rw [e1, e2] at h
  simp only [keyNe] at h
  simp at h1 h2 h
  omega

theorem eqV_same : ∀ {a b x : List Value}, eqV x a = true → eqV x b = true → (a.zip b).any (fun | (.int _ x, .int _ y) => x != y | _ => false) = false
  | [], b, x, _, _ => rfl
  | u :: a, [], x, _, _ => rfl
  | u :: a, v :: b, [], h, _ => by simp [eqV] at h
  | u :: a, v :: b, y :: x, h1, h2 => by
    simp only [eqV, Bool.and_eq_true] at h1 h2
    simp only [List.zip_cons_cons, List.any_cons, Bool.or_eq_false_iff]
    refine ⟨?_, eqV_same h1.2 h2.2⟩
    cases u <;> cases v <;> simp
    cases y <;> simp [eqV1] at h1 h2
    omega
theorem mapRep_agg {kvs : List (Value × Value)} {es : Array MapEntry} (hm : MapRep kvs es) {xs : List Value} : kvs.Pairwise fun a b => ¬ ((match a.1 with | .agg cs => eqV xs cs.toList | _ => false) = true ∧ (match b.1 with | .agg cs => eqV xs cs.toList | _ => false) = true) := by
  refine hm.2.imp fun {a b} h => ?_
  rintro ⟨h1, h2⟩
  split at h1
  case h_2 => cases h1
  split at h2
  case h_2 => cases h2
  rename_i e1 _ _ e2
  rw [e1, e2] at h
  simp only [keyNe, Bool.and_eq_true] at h
  have h3 := eqV_same h1 h2
  exact absurd (h.2.symm.trans h3) (by decide)

theorem iteV_ok {b : Bool} {u v r : SV} {x y : Value} (h : iteV b u v = some r) (hx : den ρ u = some x) (hy : den ρ v = some y) : den ρ r = some (if b then x else y) := by
  unfold iteV at h
  split at h
  case h_2 => cases h
  rename_i k a k' c h1 h2
  split at h
  case h_2 => cases h
  rename_i hk
  have := kEq_ok hk
  subst this
  cases h
  have e1 := asI_ok h1 hx
  have e2 := asI_ok h2 hy
  subst e1
  subst e2
  cases b <;> rfl

theorem atSym_ok {cs : List CK} {l : List SV} {xs : List Value} (hx : denL ρ l = some xs) {zero : SV} {z : Value} (hz : den ρ zero = some z) : ∀ {es : List (SV × SV)} {kvs : List (Value × Value)} {r : SV × Bool}, denP ρ es = some kvs → atSym (some cs) (.ag l) zero es = some r →
    (∀ a ∈ kvs, ∃ ys, a.1 = .agg ys.toArray ∧ ckAll cs ys = true ∧ ckAll cs xs = true) ∧
    (match kvs.find? (fun a => match a.1 with | .agg cs => eqV xs cs.toList | _ => false) with
    | none => den ρ r.1 = some z ∧ r.2 = false
    | some a => den ρ r.1 = some a.2 ∧ r.2 = true)
  | [], kvs, r, hd, h => by cases hd; cases h; exact ⟨fun a ha => (by cases ha), hz, rfl⟩
  | (u, v) :: es, kvs, r, hd, h => by
    obtain ⟨x, y, r', rfl, e1, e2, e3⟩ := denP_cons hd
    simp only [atSym] at h
    split at h
    case h_2 => cases h
    rename_i b v' b' hb hr
    split at h
    case h_2 => cases h
    rename_i w' hw
    cases h
    obtain ⟨ih1, ih2⟩ := atSym_ok hx hz e3 hr
    cases u <;> simp only [eqKey] at hb
    case ag l' =>
      simp only [den] at e1
      cases hd' : denL ρ l' with
      | none => rw [hd'] at e1; cases e1
      | some ys =>
        rw [hd'] at e1
        cases e1
        obtain ⟨c1, c2, c3⟩ := eqCells_ok hb hx hd'
        refine ⟨fun a ha => ?_, ?_⟩
        · rcases List.mem_cons.1 ha with rfl | ha
          · exact ⟨ys, rfl, c2, c1⟩
          · exact ih1 a ha
        · simp only [List.find?, c3]
          cases b with
          | true =>
            split at ih2
            · have := iteV_ok hw e2 ih2.1; exact ⟨by simpa using this, rfl⟩
            · have := iteV_ok hw e2 ih2.1; exact ⟨by simpa using this, rfl⟩
          | false =>
            simp only []
            split
            · rename_i hf
              rw [hf] at ih2
              have := iteV_ok hw e2 ih2.1
              exact ⟨by simpa using this, ih2.2⟩
            · rename_i a hf
              rw [hf] at ih2
              have := iteV_ok hw e2 ih2.1
              exact ⟨by simpa using this, ih2.2⟩
    all_goals (split at hb <;> try cases hb)
    all_goals (rename_i h0 _; cases h0)

theorem xlookup_ok (hP : TabOk P tb) (hH : HOk ρ w H) (t : Nat) {u v : SV} {x y : Value} (hx : den ρ u = some x) (hy : den ρ v = some y) (ok : Bool) :
    RunOk ρ w H nx ((do pure (Next.value (← Instr.lookup t x y ok)) : Sem Next).run P w) (xlookup tb H t u v ok) := by
  unfold xlookup
  cases hti : tb.ti t with
  | none => trivial
  | some i =>
    obtain ⟨d, hu, hfit⟩ := (hP.ti t i hti).und
    simp only []
    split <;> try trivial
    rename_i kt et h hk
    rw [hk] at hfit
    cases d <;> simp only [TK.fits] at hfit
    obtain ⟨rfl, rfl⟩ := hfit
    split <;> try trivial
    rename_i es ei ki hl hei hki
    split <;> try trivial
    rename_i zero hz
    obtain ⟨dk, huk, hfk⟩ := (hP.ti kt ki hki).und
    obtain ⟨hv, hr, hrep⟩ := hH h _ hl
    cases hv with
    | rw a n c => exact hrep.elim
    | blk b =>
      obtain ⟨kvs, en, clk, hd, hb, hm⟩ := hrep
      simp only [den, hr, Option.some.injEq] at hx
      subst hx
      split <;> try trivial
      · -- numbers
        rename_i k' k z hkk
        rw [hkk] at hfk
        cases dk <;> simp only [TK.fits] at hfk
        subst hfk
        simp only [den, Option.some.injEq] at hy
        subst hy
        cases hkz : kEq k k' && intKeys k es with
        | false => split <;> first | trivial | contradiction
        | true =>
          simp only [Bool.and_eq_true] at hkz
          have hkk' := kEq_ok hkz.1
          subst hkk'
          have hik := intKeys_ok hkz.2 hd
          have hik' : ∀ e ∈ en.toList, ∃ z', e.key = .int k z' := fun e he => by
            have := hm.1.mem_iff.1 (List.mem_map_of_mem (f := fun e => (e.key, e.val)) he)
            exact hik _ this
          obtain ⟨r, f1, f2⟩ := findNow_int (kd := k) (k := k) (z := z) en.toList 0 hik'
          obtain ⟨y0, o, hrun, n1, n2⟩ := run_lookup (ρ := ρ) hu (hP.ti et ei hei) hz hb (key := .int k z) (fun e => MapKept.run_checkKey huk (by simp [MapKept.IsKey]) e 9999) (q := fun v => match v with | .int _ z' => z == z' | _ => false) ⟨r, MapKept.run_findKey huk f1, f2⟩ hm (mapRep_int hm) ok
          have hrun' : (do pure (Next.value (← Instr.lookup t (.map (some b)) (.int k z) ok)) : Sem Next).run P w = .ok (.value (if ok then .tuple #[y0, .bool o] else y0)) w := by
            simp only [Sem.run_bind, hrun, Result.andThen_ok]; rfl
          rw [hrun']
          cases ha : atLit k z es with
          | none => trivial
          | some r =>
            have ga := atLit_ok hkz.2 hd ha
            cases r with
            | none =>
              obtain ⟨e1, rfl⟩ := n1 ga
              cases ok with
              | true => exact ⟨.tuple #[y0, .bool false], by simp only [den, denL, e1], rfl⟩
              | false => exact ⟨_, e1, rfl⟩
            | some v =>
              obtain ⟨a, g1, g2⟩ := ga
              obtain ⟨rfl, rfl⟩ := n2 a g1
              cases ok with
              | true => exact ⟨.tuple #[a.2, .bool true], by simp only [den, denL, g2], rfl⟩
              | false => exact ⟨_, g2, rfl⟩
      · -- a number that is no key
        rename_i k' k z hkk
        rw [hkk] at hfk
        cases dk <;> simp only [TK.fits] at hfk
        subst hfk
        simp only [den, Option.some.injEq] at hy
        subst hy
        cases hkz : kEq k k' && intKeys k es with
        | false => split <;> first | trivial | contradiction
        | true =>
          simp only [Bool.and_eq_true] at hkz
          have hkk' := kEq_ok hkz.1
          subst hkk'
          have hik := intKeys_ok hkz.2 hd
          have hik' : ∀ e ∈ en.toList, ∃ z', e.key = .int k z' := fun e he => by
            have := hm.1.mem_iff.1 (List.mem_map_of_mem (f := fun e => (e.key, e.val)) he)
            exact hik _ this
          obtain ⟨r, f1, f2⟩ := findNow_int (kd := k) (k := k) (z := z) en.toList 0 hik'
          obtain ⟨y0, o, hrun, n1, n2⟩ := run_lookup (ρ := ρ) hu (hP.ti et ei hei) hz hb (key := .int k z) (fun e => MapKept.run_checkKey huk (by simp [MapKept.IsKey]) e 9999) (q := fun v => match v with | .int _ z' => z == z' | _ => false) ⟨r, MapKept.run_findKey huk f1, f2⟩ hm (mapRep_int hm) ok
          have hrun' : (do pure (Next.value (← Instr.lookup t (.map (some b)) (.int k z) ok)) : Sem Next).run P w = .ok (.value (if ok then .tuple #[y0, .bool o] else y0)) w := by
            simp only [Sem.run_bind, hrun, Result.andThen_ok]; rfl
          rw [hrun']
          cases ok with
          | true =>
            intro ha
            obtain ⟨e1, rfl⟩ := n1 (absent_ok hkz.2 hd ha)
            exact ⟨.tuple #[y0, .bool false], by simp only [den, denL, e1], rfl⟩
          | false =>
            intro ha
            obtain ⟨e1, rfl⟩ := n1 (absent_ok hkz.2 hd ha)
            exact ⟨_, e1, rfl⟩
      · -- structs
        rename_i fs l hkk
        rw [hkk] at hfk
        cases dk <;> simp only [TK.fits] at hfk
        split <;> try trivial
        rename_i p0 es' cs hcs
        split <;> try trivial
        rename_i v0 o0 ha
        simp only [den] at hy
        cases hd' : denL ρ l with
        | none => rw [hd'] at hy; cases hy
        | some xs =>
          rw [hd'] at hy
          cases hy
          obtain ⟨z, hz1, hzd⟩ := (hP.ti et ei hei).zeroS w hz ρ
          obtain ⟨g1, g2⟩ := atSym_ok hd' hzd hd ha
          obtain ⟨hEq, hKey⟩ := hP.eqs kt cs hcs
          -- the map is not empty
          obtain ⟨x0, y0, r0, hkvs, _, _, _⟩ := denP_cons hd
          have hne : ∃ a, a ∈ kvs := ⟨(x0, y0), by rw [hkvs]; exact List.mem_cons_self ..⟩
          have hxs : ckAll cs xs = true := by obtain ⟨a, ha⟩ := hne; exact (g1 a ha).choose_spec.2.2
          have hen : ∀ e ∈ en.toList, ∃ ys, e.key = .agg ys.toArray ∧ ckAll cs ys = true := fun e he => by
            have := hm.1.mem_iff.1 (List.mem_map_of_mem (f := fun e => (e.key, e.val)) he)
            obtain ⟨ys, h1, h2, _⟩ := g1 _ this
            exact ⟨ys, h1, h2⟩
          have hnn : ∃ e r, en.toList = e :: r := by
            cases hn : en.toList with
            | cons e r => exact ⟨e, r, rfl⟩
            | nil =>
              have := hm.1.length_eq
              rw [hn, hkvs] at this
              simp at this
          have hask : ∃ r, (Instr.findAsking kt (.agg xs.toArray) en.toList 0).run P w = .ok r w ∧ (r.map (·.2)) = (en.toList.find? fun e => (fun v => match v with | Value.agg cs => eqV xs cs.toList | _ => false) e.key).map (·.val) :=
            run_findAsking (fun v => match v with | Value.agg cs => eqV xs cs.toList | _ => false) en.toList 0 fun e he => by
              obtain ⟨ys, h1, h2⟩ := hen e he
              rw [h1]
              exact hEq.2 xs ys w hxs h2
          obtain ⟨r, f1, f2⟩ := hask
          have hfind : (Instr.findKey kt (.agg xs.toArray) en.toList).run P w = .ok r w := by
            obtain ⟨e, rr, hn⟩ := hnn
            have : Instr.findNow (.struct ‹_›) (.agg xs.toArray) en.toList 0 = none := by
              rw [hn]
              simp [Instr.findNow, Instr.sameNow]
            simp [Instr.findKey, run_underlying huk, this, f1]
          obtain ⟨y1, o, hrun, n1, n2⟩ := run_lookup (ρ := ρ) hu (hP.ti et ei hei) hz hb (key := .agg xs.toArray) (fun e => hKey e xs w hxs) (q := fun v => match v with | Value.agg cs => eqV xs cs.toList | _ => false) ⟨r, hfind, f2⟩ hm (mapRep_agg hm) ok
          have hrun' : (do pure (Next.value (← Instr.lookup t (.map (some b)) (.agg xs.toArray) ok)) : Sem Next).run P w = .ok (.value (if ok then .tuple #[y1, .bool o] else y1)) w := by
            simp only [Sem.run_bind, hrun, Result.andThen_ok]; rfl
          rw [hrun']
          have hres : den ρ v0 = some y1 ∧ o0 = o := by
            split at g2
            · rename_i hf
              obtain ⟨e1, rfl⟩ := n1 hf
              rw [hzd] at e1
              cases e1
              exact g2
            · rename_i a hf
              obtain ⟨rfl, rfl⟩ := n2 a hf
              exact g2
          obtain ⟨hr1, rfl⟩ := hres
          cases ok with
          | true => exact ⟨.tuple #[y1, .bool o0], by simp only [den, denL, hr1], rfl⟩
          | false => exact ⟨_, hr1, rfl⟩

theorem freshLit_ok {k : IntKind} {z : Int} : ∀ {es : List (SV × SV)} {kvs : List (Value × Value)}, freshLit k z es = true → denP ρ es = some kvs → ∀ a ∈ kvs, ∃ z', a.1 = .int k z' ∧ z ≠ z'
  | [], kvs, _, hd, a, ha => by cases hd; cases ha
  | (u, v) :: r, kvs, h, hd, a, ha => by
    obtain ⟨x, y, r', rfl, e1, e2, e3⟩ := denP_cons hd
    cases u <;> try exact absurd (show false = true from h) (by decide)
    rename_i k' z'
    simp only [freshLit, Bool.and_eq_true, Bool.not_eq_true'] at h
    have hk := kEq_ok h.1
    subst hk
    cases e1
    rcases List.mem_cons.1 ha with rfl | ha
    · refine ⟨_, rfl, ?_⟩
      have := h.2.1
      rw [eqI_ok] at this
      simpa using this
    · exact freshLit_ok h.2.2 e3 a ha

theorem xinsert_ok (hP : TabOk P tb) (hH : HOk ρ w H) (t : Nat) {u v s : SV} {x y c : Value} (hx : den ρ u = some x) (hy : den ρ v = some y) (hc : den ρ s = some c) :
    RunOk ρ w H nx ((do Instr.mapUpdate t x y c; pure Next.skip : Sem Next).run P w) (xinsert tb H t u v s) := by
  unfold xinsert
  cases hti : tb.ti t with
  | none => trivial
  | some i =>
    obtain ⟨d, hu, hfit⟩ := (hP.ti t i hti).und
    simp only []
    split <;> try trivial
    rename_i kt et h hk
    rw [hk] at hfit
    cases d <;> simp only [TK.fits] at hfit
    obtain ⟨rfl, rfl⟩ := hfit
    split <;> try trivial
    rename_i es ki hl hki
    obtain ⟨dk, huk, hfk⟩ := (hP.ti kt ki hki).und
    obtain ⟨hv, hr, hrep⟩ := hH h _ hl
    cases hv with
    | rw a n c => exact hrep.elim
    | blk b =>
      obtain ⟨kvs, en, clk, hd, hb, hm⟩ := hrep
      simp only [den, hr, Option.some.injEq] at hx
      subst hx
      split <;> try trivial
      rename_i k' k z hkk
      rw [hkk] at hfk
      cases dk <;> simp only [TK.fits] at hfk
      subst hfk
      simp only [den, Option.some.injEq] at hy
      subst hy
      split <;> try trivial
      rename_i hf
      simp only [Bool.and_eq_true] at hf
      have hkk' := kEq_ok hf.1
      subst hkk'
      have hfr := freshLit_ok hf.2 hd
      have hik' : ∀ e ∈ en.toList, ∃ z', e.key = .int k z' := fun e he => by
        have := hm.1.mem_iff.1 (List.mem_map_of_mem (f := fun e => (e.key, e.val)) he)
        obtain ⟨z', h1, _⟩ := hfr _ this
        exact ⟨z', h1⟩
      obtain ⟨r, f1, f2⟩ := findNow_int (kd := k) (k := k) (z := z) en.toList 0 hik'
      have hnone : en.toList.find? (fun e => match e.key with | .int _ z' => z == z' | _ => false) = none := by
        rw [List.find?_eq_none]
        intro e he
        have := hm.1.mem_iff.1 (List.mem_map_of_mem (f := fun e => (e.key, e.val)) he)
        obtain ⟨z', h1, h2⟩ := hfr _ this
        have h1 : e.key = .int k z' := h1
        rw [h1]
        simpa using h2
      rw [hnone] at f2
      have hr0 : r = none := by cases r <;> simp at f2 ⊢
      subst hr0
      have hlt : b < w.heap.size := (Array.getElem?_eq_some_iff.1 hb).1
      have hrun : (Instr.mapUpdate t (.map (some b)) (.int k z) c).run P w = .ok () { w with heap := w.heap.setIfInBounds b (.map (en.push { key := .int k z, val := c, born := clk }) (clk + 1)) } := by
        simp [Instr.mapUpdate, run_underlying hu, MapKept.run_getObj_map hb, MapKept.run_checkKey (k := Value.int k z) huk (by simp [MapKept.IsKey]) false 9999, MapKept.run_findKey huk f1, MapKept.run_setObj_map _ hb]
      refine ⟨_, _, { w with heap := w.heap.setIfInBounds b (.map (en.push { key := .int k z, val := c, born := clk }) (clk + 1)) }, hl, rfl, hr, by simp only [Sem.run_bind, hrun, Result.andThen_ok]; rfl, ⟨rfl, rfl, rfl, by simp, fun k hk hF => (MapKept.heap_set hb).2 k hF⟩, ⟨(.int k z, c) :: kvs, _, _, by simp only [denP, den, hc, hd], (MapKept.heap_set hb).1, ?_, ?_⟩, rfl, fun k hk => ?_⟩
      · simp only [Array.toList_push, List.map_append, List.map_cons, List.map_nil]
        exact (List.perm_append_comm).trans (List.Perm.cons _ hm.1)
      · refine List.Pairwise.cons (fun a ha => ?_) hm.2
        obtain ⟨z', h1, h2⟩ := hfr a ha
        rw [h1]
        simpa [keyNe] using h2
      · simp only [SO.fp] at hk
        subst hk
        exact ⟨.inl rfl, by simpa using hlt⟩

theorem xmore_ok (hP : TabOk P tb) (hH : HOk ρ w H) (hn : ρ nx = none) {e : Operand → Option SV} {f : Operand → Value} (he : EOk ρ e f) (o : Oper) :
    RunOk ρ w H nx ((execOp f o).run P w) (xmore tb H nx e o.op) := by
  obtain ⟨dst, op, ty, pos, after, guard⟩ := o
  cases op
  case slice t x lo hi mx =>
    cases mx with
    | some m => trivial
    | none =>
      simp only [xmore]
      cases hx : e x with
      | none => trivial
      | some v => exact xslice_ok hP hH he t ((den_unls ρ v).trans (he x v hx)) lo hi
  case lookup t x k ok =>
    simp only [xmore]
    cases hx : e x with
    | none => trivial
    | some v =>
      cases hk : e k with
      | none => trivial
      | some u => exact xlookup_ok hP hH t (he x v hx) (he k u hk) ok
  case insert t m k x =>
    simp only [xmore]
    cases hm : e m with
    | none => trivial
    | some v =>
      cases hk : e k with
      | none => trivial
      | some u =>
        cases hx : e x with
        | none => trivial
        | some s => exact xinsert_ok hP hH t (he m v hm) (he k u hk) (he x s hx)
  case makeSlice t l c =>
    simp only [xmore]
    cases hl : e l with
    | none => trivial
    | some v =>
      cases hc : e c with
      | none => trivial
      | some u => exact xmake_ok hP hn t (he l v hl) (he c u hc)
  case call c =>
    simp only [xmore]
    obtain ⟨callee, args, argTypes⟩ := c
    split <;> try trivial
    · rename_i x y t t' hcal hx ht
      have hcal : callee = .builtin .append := hcal
      subst hcal
      have hx : args.toList = [x, y] := hx
      have ht : argTypes.toList = [t, t'] := ht
      have e1 : args = #[x, y] := by rw [← Array.toArray_toList (xs := args), hx]
      have e2 : argTypes = #[t, t'] := by rw [← Array.toArray_toList (xs := argTypes), ht]
      subst e1; subst e2
      split <;> try trivial
      rename_i u v hu hv htt
      have := Nat.eq_of_beq_eq_true htt
      subst this
      have := xappend_ok (P := P) (w := w) hP hH hn t ty (he x u hu) (he y v hv)
      simp only [execOp, resolve, Sem.run_bind, Sem.run_pure, Result.andThen_ok, invoke, builtin]
      simpa using this
    · rename_i x y hcal hx
      have hcal : callee = .builtin .min := hcal
      subst hcal
      have hx : args.toList = [x, y] := hx
      have e1 : args = #[x, y] := by rw [← Array.toArray_toList (xs := args), hx]
      subst e1
      split <;> try trivial
      rename_i u v hu hv
      have := minmax_min (P := P) (w := w) (H := H) (nx := nx) (he x u hu) (he y v hv) argTypes ty
      simp only [execOp, resolve, Sem.run_bind, Sem.run_pure, Result.andThen_ok, invoke, builtin]
      simpa using this
    · rename_i x y hcal hx
      have hcal : callee = .builtin .max := hcal
      subst hcal
      have hx : args.toList = [x, y] := hx
      have e1 : args = #[x, y] := by rw [← Array.toArray_toList (xs := args), hx]
      subst e1
      split <;> try trivial
      rename_i u v hu hv
      have := minmax_max (P := P) (w := w) (H := H) (nx := nx) (he x u hu) (he y v hv) argTypes ty
      simp only [execOp, resolve, Sem.run_bind, Sem.run_pure, Result.andThen_ok, invoke, builtin]
      simpa using this
  all_goals trivial
end
end
end Go.Sx
