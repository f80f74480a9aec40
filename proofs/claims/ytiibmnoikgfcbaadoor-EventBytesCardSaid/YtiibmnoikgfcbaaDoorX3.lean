/- What the symbolic operations say holds of the program's own, further: fields, indexes, conversions, operators. -/
import Derived.Test.YtiibmnoikgfcbaaDoorX2
namespace Go.Sx
open Go.RowKit
set_option linter.unusedVariables false
set_option linter.unusedSimpArgs false
section
variable {P : Program} {ρ : Vl} {w : World} {H : List (Nat × SO)} {nx : Nat}

/-- A part of an aggregate. -/
theorem part_ok {t : Nat} {i : Ti} (hi : TiOk P t i) {l : List SV} {cs : List Value} (hd : denL ρ l = some cs) (off : Nat) :
    (i.k.agg = true → off + i.size ≤ l.length → ∃ y, den ρ (.ag ((l.drop off).take i.size)) = some y ∧ (part t cs.toArray off).run P w = .ok y w) ∧
    (i.k.agg = false → ∀ v, l[off]? = some v → ∃ y, den ρ v = some y ∧ (part t cs.toArray off).run P w = .ok y w) := by
  constructor
  · intro ha hle
    refine ⟨.agg ((cs.drop off).take i.size).toArray, by simp only [den, denL_take i.size (denL_drop off hd)], ?_⟩
    unfold part
    rw [Sem.run_bind, hi.isAgg w, ha]
    simp only [Result.andThen_ok, if_true, Sem.run_bind, hi.size w, Sem.run_pure]
    congr 2
    simp [List.extract_eq_take_drop]
  · intro ha v hv
    obtain ⟨x, hx, hdx⟩ := denL_get hd hv
    refine ⟨x, hdx, ?_⟩
    unfold part
    rw [Sem.run_bind, hi.isAgg w, ha]
    simp [hx]

theorem field_ok {t ft : Nat} {i fi : Ti} (hi : TiOk P t i) (hfi : TiOk P ft fi) {fs : List (Nat × Nat × Nat)} (hk : i.k = .st fs) {k off sz : Nat} (hf : fs[k]? = some (ft, off, sz))
    {l : List SV} {x : Value} (hx : den ρ (.ag l) = some x) :
    (fi.k.agg = true → off + fi.size ≤ l.length → RunOk ρ w H nx ((do pure (Next.value (← Instr.field t x k)) : Sem Next).run P w) (.val (.ag ((l.drop off).take fi.size)))) ∧
    (fi.k.agg = false → ∀ v, l[off]? = some v → RunOk ρ w H nx ((do pure (Next.value (← Instr.field t x k)) : Sem Next).run P w) (.val v)) := by
  obtain ⟨d, hu, hfit⟩ := hi.und
  rw [hk] at hfit
  cases d <;> simp only [TK.fits] at hfit
  rename_i fields
  obtain ⟨fl, h1, h2⟩ := get_map hfit.1 hf
  simp only [Prod.mk.injEq] at h2
  have h1' : fields[k]? = some fl := by simpa using h1
  simp only [den] at hx
  cases hd : denL ρ l with
  | none => rw [hd] at hx; cases hx
  | some cs =>
    rw [hd] at hx
    cases hx
    have hrun : ∀ y, (part ft cs.toArray off).run P w = .ok y w → (do pure (Next.value (← Instr.field t (.agg cs.toArray) k)) : Sem Next).run P w = .ok (.value y) w := fun y hy => by
      unfold Instr.field
      simp only [Sem.run_bind, run_underlying hu w, Result.andThen_ok, h1', asAgg, Sem.run_pure, h2.1, h2.2, hy]
    obtain ⟨p1, p2⟩ := part_ok (w := w) hfi hd off
    exact ⟨fun ha hle => let ⟨y, a, b⟩ := p1 ha hle; ⟨y, a, hrun y b⟩, fun ha v hv => let ⟨y, a, b⟩ := p2 ha v hv; ⟨y, a, hrun y b⟩⟩

theorem asN_ok {v : SV} {j : Nat} {x : Value} (h : asN v = some j) (hx : den ρ v = some x) : ∃ k, x = .int k (j : Int) := by
  cases v <;> simp only [asN] at h <;> try cases h
  rename_i k z
  cases z <;> simp only [asN, Option.some.injEq] at h <;> try cases h
  simp only [den, Option.some.injEq] at hx
  exact ⟨k, hx.symm⟩
theorem asI_ok {v : SV} {k : IntKind} {j : Int} {x : Value} (h : asI v = some (k, j)) (hx : den ρ v = some x) : x = .int k j := by
  cases v <;> simp only [asI, Option.some.injEq, Prod.mk.injEq, reduceCtorEq] at h
  all_goals
    obtain ⟨rfl, rfl⟩ := h
    simp only [den, Option.some.injEq] at hx
    exact hx.symm

theorem indexAddr_sl_ok {t el : Nat} {i ei : Ti} (hi : TiOk P t i) (hk : i.k = .slc el) (hei : TiOk P el ei) {h o n c j : Nat} {x : Value} (hx : den ρ (.sl h o n c) = some x) {k : IntKind} (hj : j < n) :
    RunOk ρ w H nx ((do pure (Next.value (← Instr.indexAt t x (.int k j))) : Sem Next).run P w) (.val (.p h (o + j * ei.size))) := by
  obtain ⟨d, hu, hfit⟩ := hi.und
  rw [hk] at hfit
  cases d <;> simp only [TK.fits] at hfit
  subst hfit
  simp only [den] at hx
  split at hx
  case h_2 => cases hx
  rename_i b hb
  cases hx
  refine ⟨.pointer (some ⟨b, o + j * ei.size, none⟩), by simp only [den, hb], ?_⟩
  unfold Instr.indexAt
  simp only [Sem.run_bind, asIntOf, Sem.run_pure, Result.andThen_ok, run_underlying hu w]
  rw [if_pos ⟨by omega, by omega⟩]
  simp [hei.size w, addr0]

theorem indexAddr_arr_ok {t el m : Nat} {i ei : Ti} (hi : TiOk P t i) (hk : i.k = .arr m el) (hei : TiOk P el ei) {h o j : Nat} {x : Value} (hx : den ρ (.p h o) = some x) {k : IntKind} (hj : j < m) :
    RunOk ρ w H nx ((do pure (Next.value (← Instr.indexAt t x (.int k j))) : Sem Next).run P w) (.val (.p h (o + j * ei.size))) := by
  obtain ⟨d, hu, hfit⟩ := hi.und
  rw [hk] at hfit
  cases d <;> simp only [TK.fits] at hfit
  obtain ⟨rfl, rfl⟩ := hfit
  simp only [den] at hx
  split at hx
  case h_2 => cases hx
  rename_i b hb
  cases hx
  refine ⟨.pointer (some ⟨b, o + j * ei.size, none⟩), by simp only [den, hb], ?_⟩
  unfold Instr.indexAt
  simp only [Sem.run_bind, asIntOf, Sem.run_pure, Result.andThen_ok, run_underlying hu w, Instr.sureAddr]
  rw [if_pos ⟨by omega, by omega⟩]
  simp [hei.size w, addr0]

/-- What a row tells. -/
structure RowIs (ρ : Vl) (w : World) (sz n : Nat) (get : Nat → List SV) (a : Option Addr) (c : Nat) : Prop where
  le : n ≤ c
  no : a = none → n = 0
  at_ : ∀ i, i < n → (get i).length = sz ∧ ∃ ad xs, a = some ad ∧ denL ρ (get i) = some xs ∧ ∀ j x, xs[j]? = some x → w.cell? (ad.add (i * sz + j)) = some x
theorem row_is {o : SO} {hv : Hv} (h : o.rep ρ w hv) {sz n : Nat} {get : Nat → List SV} (hr : rowOf o = some (sz, n, get)) : ∃ a c, hv = .rw a n c ∧ RowIs ρ w sz n get a c := by
  cases o with
  | row sz' n' get' =>
    cases hr
    cases hv with
    | blk b => exact h.elim
    | rw a n'' c =>
      obtain ⟨⟨rfl, hc⟩, h1, h2, h3⟩ := h
      refine ⟨a, c, rfl, hc, fun ha => ?_, h3⟩
      subst ha
      rcases Nat.eq_zero_or_pos n'' with e | e
      · exact e
      · obtain ⟨ad, e2, _⟩ := h2 e
        cases e2
  | own t sz' n' get' =>
    cases hr
    cases hv with
    | blk b => exact h.elim
    | rw a n'' c =>
      obtain ⟨rfl, xs, hown, hg⟩ := h
      have hown' := hown
      obtain ⟨hlen, h2⟩ := hown'
      rcases h2 with ⟨e, rfl⟩ | ⟨g, cap, cur, e, _, _, hle, _⟩
      · cases e
        exact ⟨none, 0, rfl, Nat.le_refl _, fun _ => rfl, fun i hi => absurd hi (Nat.not_lt_zero _)⟩
      · cases e
        refine ⟨_, _, rfl, hle, fun e => (by cases e), fun i hi => ⟨(hg i hi).1, _, _, rfl, (hg i hi).2, fun j x hx => ?_⟩⟩
        rw [List.getElem?_take] at hx
        split at hx
        case isFalse => cases hx
        rw [List.getElem?_drop] at hx
        exact hown.cells rfl _ _ hx
  | cells l t => cases hr
  | mp es => cases hr
  | ab A => cases hr
  | rd A => cases hr
theorem row_lk (hH : HOk ρ w H) {h sz n : Nat} {get : Nat → List SV} (hl : (lk h H).bind rowOf = some (sz, n, get)) : ∃ a c, ρ h = some (.rw a n c) ∧ RowIs ρ w sz n get a c := by
  obtain ⟨o, h1, h2⟩ := Option.bind_eq_some_iff.1 hl
  obtain ⟨hv, hr, hrep⟩ := hH h o h1
  obtain ⟨a, c, rfl, h3⟩ := row_is hrep h2
  exact ⟨a, c, hr, h3⟩

theorem indexAddr_row_ok {t el : Nat} {i ei : Ti} (hi : TiOk P t i) (hk : i.k = .slc el) (hei : TiOk P el ei) (hH : HOk ρ w H) {h n : Nat} {get : Nat → List SV} (hl : (lk h H).bind rowOf = some (ei.size, n, get)) {x : Value} (hx : den ρ (.r h) = some x) {k : IntKind} {j : Int} (h0 : 0 ≤ j) (hj : j < n) :
    RunOk ρ w H nx ((do pure (Next.value (← Instr.indexAt t x (.int k j))) : Sem Next).run P w) (.val (.pr h j.toNat ei.size 0)) := by
  obtain ⟨d, hu, hfit⟩ := hi.und
  rw [hk] at hfit
  cases d <;> simp only [TK.fits] at hfit
  subst hfit
  obtain ⟨a, c, hr, hrow⟩ := row_lk hH hl
  obtain ⟨_, ad, _, rfl, _⟩ := hrow.at_ j.toNat (by omega)
  simp only [den, hr] at hx
  cases hx
  refine ⟨.pointer (some (ad.add (j.toNat * ei.size + 0))), by simp only [den, hr], ?_⟩
  unfold Instr.indexAt
  simp only [Sem.run_bind, asIntOf, Sem.run_pure, Result.andThen_ok, run_underlying hu w]
  rw [if_pos ⟨h0, hj⟩]
  simp [hei.size w]

theorem indexAddr_rs_ok {t el : Nat} {i ei : Ti} (hi : TiOk P t i) (hk : i.k = .slc el) (hei : TiOk P el ei) (hH : HOk ρ w H) {h lo m n : Nat} {get : Nat → List SV} (hl : (lk h H).bind rowOf = some (ei.size, n, get)) {x : Value} (hx : den ρ (.rs h lo m ei.size) = some x) {k : IntKind} {j : Int} (h0 : 0 ≤ j) (hj : j < m) (hb : lo + j < n) :
    RunOk ρ w H nx ((do pure (Next.value (← Instr.indexAt t x (.int k j))) : Sem Next).run P w) (.val (.pr h (lo + j.toNat) ei.size 0)) := by
  obtain ⟨d, hu, hfit⟩ := hi.und
  rw [hk] at hfit
  cases d <;> simp only [TK.fits] at hfit
  subst hfit
  obtain ⟨a, c, hr, hrow⟩ := row_lk hH hl
  obtain ⟨_, ad, _, rfl, _⟩ := hrow.at_ (lo + j.toNat) (by omega)
  have hc := hrow.le
  simp only [den, hr] at hx
  rw [if_neg (by omega)] at hx
  cases hx
  refine ⟨.pointer (some (ad.add ((lo + j.toNat) * ei.size + 0))), by simp only [den, hr], ?_⟩
  unfold Instr.indexAt
  simp only [Sem.run_bind, asIntOf, Sem.run_pure, Result.andThen_ok, run_underlying hu w, Option.map_some]
  rw [if_pos ⟨h0, hj⟩]
  simp [hei.size w, addr_add, Nat.add_mul]

theorem xloadR_ok {t : Nat} {i : Ti} (hi : TiOk P t i) (hH : HOk ρ w H) {h j sz o : Nat} {x : Value} (hx : den ρ (.pr h j sz o) = some x) :
    RunOk ρ w H nx ((do pure (Next.value (← Instr.loadAt t x)) : Sem Next).run P w) (xloadR i H h j sz o) := by
  have main : ∀ n get, (lk h H).bind rowOf = some (sz, n, get) → RunOk ρ w H nx ((do pure (Next.value (← Instr.loadAt t x)) : Sem Next).run P w) (match i.k.agg with
      | true => match Nat.ble (o + i.size) sz with
        | true => .ob (j < n) (.val (.ag (((get j).drop o).take i.size)))
        | false => .no "a load beyond an element"
      | false => match (get j)[o]? with | some v => .ob (j < n) (.val v) | none => .no "a load beyond an element") := by
   intro n get hl
   obtain ⟨a, c, hr, hrow⟩ := row_lk hH hl
   simp only [den, hr] at hx
   split at hx
   case h_2 => cases hx
   rename_i ad _ _ he
   simp only [Option.some.injEq, Hv.rw.injEq] at he
   obtain ⟨rfl, _, _⟩ := he
   cases hx
   have hcell : j < n → ∃ xs, denL ρ (get j) = some xs ∧ (get j).length = sz ∧ ∀ k v, xs[o + k]? = some v → w.cell? ((ad.add (j * sz + o)).add k) = some v := fun hj => by
     obtain ⟨hlen, ad', xs, e, hd, hc⟩ := hrow.at_ j hj
     cases e
     exact ⟨xs, hd, hlen, fun k v hv => by rw [addr_add, Nat.add_assoc]; exact hc _ _ hv⟩
   cases ha : i.k.agg with
   | true =>
     simp only []
     cases hle : Nat.ble (o + i.size) sz with
     | false => trivial
     | true =>
       intro hj
       obtain ⟨xs, hd, hlen, hc⟩ := hcell hj
       have hle' := Nat.le_of_ble_eq_true hle
       have hxl := denL_length hd
       refine ⟨.agg ((xs.drop o).take i.size).toArray, by simp only [den, denL_take i.size (denL_drop o hd)], ?_⟩
       have hrun := load_agg (w := w) hi ha (ad.add (j * sz + o)) ((xs.drop o).take i.size) (by simp; omega) (fun k v hk => by
         rw [List.getElem?_take] at hk
         split at hk
         · rw [List.getElem?_drop] at hk; exact hc k v hk
         · cases hk)
       simp only [Instr.loadAt, Instr.sureAddr, Sem.run_bind, Sem.run_pure, Result.andThen_ok, hrun]
   | false =>
     simp only []
     cases hgo : (get j)[o]? with
     | none => trivial
     | some v =>
       intro hj
       obtain ⟨xs, hd, hlen, hc⟩ := hcell hj
       obtain ⟨x, hx, hdx⟩ := denL_get hd hgo
       refine ⟨x, hdx, ?_⟩
       have h0 := hc 0 x (by simpa using hx)
       rw [addr_add, Nat.add_zero] at h0
       have hrun := load_one (w := w) hi ha (ad.add (j * sz + o)) x h0
       simp only [Instr.loadAt, Instr.sureAddr, Sem.run_bind, Sem.run_pure, Result.andThen_ok, hrun]
  unfold xloadR
  split <;> try trivial
  · rename_i sz' n get hl
    split <;> try trivial
    rename_i hsz
    have := Nat.eq_of_beq_eq_true hsz
    subst this
    exact main n get (by rw [hl]; rfl)
  · rename_i t' sz' n get hl
    split <;> try trivial
    rename_i hsz
    have := Nat.eq_of_beq_eq_true hsz
    subst this
    exact main n get (by rw [hl]; rfl)

theorem index_arr_ok {t el m : Nat} {i ei : Ti} (hi : TiOk P t i) (hk : i.k = .arr m el) (hei : TiOk P el ei) {l : List SV} {j : Nat} {x : Value} (hx : den ρ (.ag l) = some x) {k : IntKind} (hj : j < m) :
    (ei.k.agg = true → j * ei.size + ei.size ≤ l.length → RunOk ρ w H nx ((do pure (Next.value (← Instr.index t x (.int k j))) : Sem Next).run P w) (.val (.ag ((l.drop (j * ei.size)).take ei.size)))) ∧
    (ei.k.agg = false → ∀ v, l[j * ei.size]? = some v → RunOk ρ w H nx ((do pure (Next.value (← Instr.index t x (.int k j))) : Sem Next).run P w) (.val v)) := by
  obtain ⟨d, hu, hfit⟩ := hi.und
  rw [hk] at hfit
  cases d <;> simp only [TK.fits] at hfit
  obtain ⟨rfl, rfl⟩ := hfit
  simp only [den] at hx
  cases hd : denL ρ l with
  | none => rw [hd] at hx; cases hx
  | some cs =>
    rw [hd] at hx
    cases hx
    have hrun : ∀ y, (part el cs.toArray (j * ei.size)).run P w = .ok y w → (do pure (Next.value (← Instr.index t (.agg cs.toArray) (.int k j))) : Sem Next).run P w = .ok (.value y) w := fun y hy => by
      unfold Instr.index
      simp only [Sem.run_bind, asIntOf, Sem.run_pure, Result.andThen_ok, run_underlying hu w]
      rw [if_pos ⟨by omega, by omega⟩]
      simp [hei.size w, hy]
    obtain ⟨p1, p2⟩ := part_ok (w := w) hei hd (j * ei.size)
    exact ⟨fun ha hle => let ⟨y, a, b⟩ := p1 ha hle; ⟨y, a, hrun y b⟩, fun ha v hv => let ⟨y, a, b⟩ := p2 ha v hv; ⟨y, a, hrun y b⟩⟩

theorem index_str_ok {t : Nat} {i : Ti} (hi : TiOk P t i) (hk : i.k = .str) {s : ByteArray} {k : IntKind} {j : Int} (h0 : 0 ≤ j) (hj : j < s.size) :
    RunOk ρ w H nx ((do pure (Next.value (← Instr.index t (.string s) (.int k j))) : Sem Next).run P w) (.val (.i .u8 (if h : j.toNat < s.size then ((s[j.toNat]'h).toNat : Int) else 0))) := by
  obtain ⟨d, hu, hfit⟩ := hi.und
  rw [hk] at hfit
  cases d <;> simp only [TK.fits] at hfit
  have hlt : j.toNat < s.size := by omega
  refine ⟨.int .u8 ((s[j.toNat]'hlt).toNat : Int), by simp only [den, dif_pos hlt], ?_⟩
  unfold Instr.index
  simp only [Sem.run_bind, asIntOf, Sem.run_pure, Result.andThen_ok, run_underlying hu w, if_pos h0]
  rw [getElem?_pos s j.toNat hlt]
  rfl

theorem convert_int_ok {src dst : Nat} {i si : Ti} (hs : TiOk P src si) (hi : TiOk P dst i) {k : IntKind} (hk : i.k = .int k) {k' : IntKind} {z : Int} :
    (do pure (Next.value (← convert src dst (.int k' z))) : Sem Next).run P w = .ok (.value (.int k (k.wrap z))) w := by
  obtain ⟨d, hu, hfit⟩ := hi.und
  obtain ⟨d', hu', _⟩ := hs.und
  rw [hk] at hfit
  cases d <;> simp only [TK.fits] at hfit
  subst hfit
  unfold convert
  simp only [Sem.run_bind, run_underlying hu' w, run_underlying hu w, Result.andThen_ok]
  simp [Conv.intToInt]

theorem convert_str_ok {src dst : Nat} {i si : Ti} (hs : TiOk P src si) (hi : TiOk P dst i) (hk : i.k = .str) {s : ByteArray} :
    (do pure (Next.value (← convert src dst (.string s))) : Sem Next).run P w = .ok (.value (.string s)) w := by
  obtain ⟨d, hu, hfit⟩ := hi.und
  obtain ⟨d', hu', _⟩ := hs.und
  rw [hk] at hfit
  cases d <;> simp only [TK.fits] at hfit
  unfold convert
  simp only [Sem.run_bind, run_underlying hu' w, run_underlying hu w, Result.andThen_ok]
  simp

theorem makeInterface_ok {t : Nat} {i : Ti} (hi : TiOk P t i) (hk : ∀ k, i.k = k → k ≠ .ifc) (x : Value) :
    (do pure (Next.value (← Instr.makeInterface t x)) : Sem Next).run P w = .ok (.value (.iface t x)) w := by
  obtain ⟨d, hu, hfit⟩ := hi.und
  unfold Instr.makeInterface
  simp only [Sem.run_bind, run_underlying hu w, Result.andThen_ok]
  cases hkk : i.k <;> rw [hkk] at hfit <;> cases d <;> simp only [TK.fits] at hfit <;> first | exact absurd rfl (hk _ hkk) | rfl

theorem evL_ok {e : Operand → Option SV} {f : Operand → Value} (he : EOk ρ e f) : ∀ (xs : List Operand) (l : List SV), evL e xs = some l → denL ρ l = some (xs.map f)
  | [], l, h => by cases h; rfl
  | x :: r, l, h => by
    unfold evL at h
    split at h
    case h_2 => cases h
    rename_i v l' h1 h2
    cases h
    exact denL_mk (he x v h1) (evL_ok he r l' h2)

theorem extract_ok {l : List SV} {x : Value} (hx : den ρ (.tu l) = some x) {k : Nat} {v : SV} (hv : l[k]? = some v) :
    RunOk ρ w H nx ((do pure (Next.value (← Instr.extract x k)) : Sem Next).run P w) (.val v) := by
  simp only [den] at hx
  cases hd : denL ρ l with
  | none => rw [hd] at hx; cases hx
  | some cs =>
    rw [hd] at hx
    cases hx
    obtain ⟨y, hy, hdy⟩ := denL_get hd hv
    refine ⟨y, hdy, ?_⟩
    simp [Instr.extract, hy]

theorem xun_ok (op : UnOp) {v : SV} {x : Value} (hx : den ρ v = some x) : RunOk ρ w H nx ((do pure (Next.value (← Op.unary op x)) : Sem Next).run P w) (xun op v) := by
  unfold xun
  split <;> try trivial
  all_goals
    simp only [den, Option.some.injEq] at hx
    subst hx
    refine ⟨_, rfl, ?_⟩
    simp [Op.unary, Op.intArith]

theorem build_arr_ok {t el m : Nat} {i j : Ti} (hi : TiOk P t i) (hk : i.k = .arr m el) (hj : TiOk P el j) {e : Operand → Option SV} {f : Operand → Value} (he : EOk ρ e f) (parts : Array (Nat × Operand)) {l : List (Nat × Nat × SV)} {c : List SV}
    (h1 : partsAt j.size e parts.toList = some l) (h2 : fillS i.zero l = some c) :
    RunOk ρ w H nx ((do pure (Next.value (← Instr.build t (parts.map fun (i, x) => (i, f x)))) : Sem Next).run P w) (.val (.ag c)) := by
  obtain ⟨z, hz1, hz2, hz3⟩ := hi.zeroV w
  obtain ⟨d, hu, hf⟩ := hi.und
  rw [hk] at hf
  cases d <;> simp only [TK.fits] at hf
  obtain ⟨rfl, rfl⟩ := hf
  obtain ⟨cs, hc1, hc2⟩ := fill_ok (ρ := ρ) (place := fun i => some (i * j.size, j.size)) _ l i.zero c z.cells.toList (partsAt_ok he j.size parts.toList l h1) (denL_mono (Vl.none_le ρ) _ _ hz2) h2
  refine ⟨.agg cs.toArray, by simp only [den, hc2], ?_⟩
  have e1 : (parts.map fun (i, x) => (i, f x)).toList = parts.toList.map fun (i, x) => (i, f x) := by simp
  unfold Instr.build
  simp only [Sem.run_bind, hz1, Result.andThen_ok, run_underlying hu w, hj.size w, e1]
  rw [Array.toArray_toList] at hc1
  rw [hc1]
  rfl
end
end Go.Sx
