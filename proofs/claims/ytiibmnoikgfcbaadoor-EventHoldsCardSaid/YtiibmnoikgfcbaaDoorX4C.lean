/- Slices, texts of bytes, make, stores into rows, maps: the operations hold of the program's own. The type table must fit the program (TabOk). -/
import Derived.Test.YtiibmnoikgfcbaaDoorX4B
namespace Go.Sx
open Go.RowKit
set_option linter.unusedVariables false
set_option linter.unusedSimpArgs false
section
variable {P : Program} {tb : Tab} {ρ : Vl} {w : World} {H : List (Nat × SO)} {nx : Nat}

/-! ### slices -/
def BndIs (d : Nat) (x : Option Value) (l : Nat) : Prop := (x = none ∧ l = d) ∨ ∃ k, x = some (.int k (l : Int))
theorem bnd_ok {e : Operand → Option SV} {f : Operand → Value} (he : EOk ρ e f) {d : Nat} {o : Option Operand} {l : Int} (h : bnd d e o = some l) (h0 : 0 ≤ l) : BndIs d (o.map f) l.toNat := by
  cases o with
  | none => simp only [bnd, Option.some.injEq] at h; subst h; exact .inl ⟨rfl, by simp⟩
  | some o =>
    simp only [bnd] at h
    split at h
    case h_2 => cases h
    rename_i v hv
    obtain ⟨⟨k, z⟩, h1, h2⟩ := Option.map_eq_some_iff.1 h
    have := asI_ok h1 (he o v hv)
    simp only at h2
    subst h2
    exact .inr ⟨k, by simp only [Option.map_some, this]; rw [Int.toNat_of_nonneg h0]⟩

theorem bounds_ok (s : Bool) (len cap : Nat) {lo hi : Option Value} {l h : Nat} (hlo : BndIs 0 lo l) (hhi : BndIs len hi h) (h1 : l ≤ h) (h2 : h ≤ cap) :
    (Instr.sliceBounds s len cap lo hi none).run P w = .ok (l, h, cap) w := by
  have e1 : (0 : Int) ≤ l := by omega
  have e2 : (0 : Int) ≤ h := by omega
  have e3 : (l : Int) ≤ h := by omega
  have e4 : (h : Int) ≤ cap := by omega
  have e5 : (l : Int) ≤ cap := by omega
  rcases hlo with ⟨rfl, rfl⟩ | ⟨k, rfl⟩ <;> rcases hhi with ⟨rfl, rfl⟩ | ⟨k', rfl⟩ <;> simp [Instr.sliceBounds, run_sliceBound, *]

theorem xslice_ok (hP : TabOk P tb) (hH : HOk ρ w H) {e : Operand → Option SV} {f : Operand → Value} (he : EOk ρ e f) (t : Nat) {u : SV} {x : Value} (hx : den ρ u = some x) (lo hi : Option Operand) :
    RunOk ρ w H nx ((do pure (Next.value (← Instr.sliceAt t x (lo.map f) (hi.map f) none)) : Sem Next).run P w) (xslice tb H e t u lo hi) := by
  unfold xslice
  cases hti : tb.ti t with
  | none => trivial
  | some i =>
    obtain ⟨d, hu, hfit⟩ := (hP.ti t i hti).und
    simp only []
    split <;> try trivial
    · -- a text
      rename_i s hk
      rw [hk] at hfit
      cases d <;> simp only [TK.fits] at hfit
      split <;> try trivial
      rename_i l h hl hh
      rintro ⟨h0, h1, h2⟩
      simp only [den, Option.some.injEq] at hx
      subst hx
      have b1 := bnd_ok (d := 0) he hl h0
      have b2 := bnd_ok (d := s.size) he hh (by omega)
      refine ⟨_, rfl, ?_⟩
      simp [Instr.sliceAt, run_underlying hu, Instr.slice, bounds_ok (P := P) (w := w) false s.size s.size b1 b2 (by omega) (by omega)]
    · -- a row
      rename_i el g hk
      rw [hk] at hfit
      cases d <;> simp only [TK.fits] at hfit
      subst hfit
      split <;> try trivial
      rename_i ei sz n get hei hrow
      split <;> try trivial
      rename_i l h hsz hl hh
      have := Nat.eq_of_beq_eq_true hsz
      subst this
      rintro ⟨h0, h1, h2⟩
      obtain ⟨a, c, hr, hrw⟩ := row_lk hH hrow
      have hle := hrw.le
      simp only [den, hr, Option.some.injEq] at hx
      subst hx
      have b1 := bnd_ok (d := 0) he hl h0
      have b2 := bnd_ok (d := n) he hh (by omega)
      refine ⟨_, by simp only [den, hr]; rfl, ?_⟩
      simp [Instr.sliceAt, run_underlying hu, Instr.slice, bounds_ok (P := P) (w := w) true n c b1 b2 (by omega) (by omega), (hP.ti el ei hei).size w]
    · -- a part of a row
      rename_i el g m sz' hk
      rw [hk] at hfit
      cases d <;> simp only [TK.fits] at hfit
      subst hfit
      split <;> try trivial
      rename_i ei sz n get hei hrow
      split <;> try trivial
      rename_i l h hsz hl hh
      simp only [Bool.and_eq_true] at hsz
      have e1 := Nat.eq_of_beq_eq_true hsz.1
      have e2 := Nat.eq_of_beq_eq_true hsz.2
      subst e1
      subst e2
      rintro ⟨h0, h1, h2⟩
      obtain ⟨a, c, hr, hrw⟩ := row_lk hH hrow
      have hle := hrw.le
      simp only [den, hr, Option.some.injEq] at hx
      have b1 := bnd_ok (d := 0) he hl h0
      have b2 := bnd_ok (d := m) he hh (by omega)
      have hx : x = .slice a m c := by
        rw [← hx]
        by_cases hc : c = 0
        · simp [hc]
        · simp only [hc, if_false, Nat.zero_mul, Nat.sub_zero]
          cases a with
          | none => rfl
          | some ad => simp [Addr.add]
      subst hx
      refine ⟨_, by simp only [den, hr]; rfl, ?_⟩
      simp [Instr.sliceAt, run_underlying hu, Instr.slice, bounds_ok (P := P) (w := w) true m c b1 b2 (by omega) (by omega), (hP.ti el ei hei).size w]
    · -- cells
      rename_i el g o n c hk
      rw [hk] at hfit
      cases d <;> simp only [TK.fits] at hfit
      subst hfit
      split <;> try trivial
      rename_i ei l h hei hl hh
      split <;> try trivial
      rename_i hc
      simp only [Bool.and_eq_true] at hc
      have e1 := Nat.le_of_ble_eq_true hc.1
      have e2 := Nat.le_of_ble_eq_true hc.2
      simp only [den] at hx
      split at hx
      case h_2 => cases hx
      rename_i b hb
      cases hx
      have b1 := bnd_ok (d := 0) he hl (by simp)
      have b2 := bnd_ok (d := n) he hh (by simp)
      simp only [Int.ofNat_eq_natCast, Int.toNat_natCast] at b1 b2
      refine ⟨_, by simp only [den, hb]; rfl, ?_⟩
      simp [Instr.sliceAt, run_underlying hu, Instr.slice, bounds_ok (P := P) (w := w) true n c b1 b2 e1 e2, (hP.ti el ei hei).size w]
      by_cases hcl : c = l
      · subst hcl; simp
      · have : Nat.beq c l = false := by
          cases hb' : Nat.beq c l with
          | false => rfl
          | true => exact absurd (Nat.eq_of_beq_eq_true hb') hcl
        rw [if_neg hcl, this, cond_false, addr0]
    · -- an array
      rename_i n el g o hk
      rw [hk] at hfit
      cases d <;> simp only [TK.fits] at hfit
      obtain ⟨rfl, rfl⟩ := hfit
      split <;> try trivial
      rename_i ei l h hei hl hh
      split <;> try trivial
      rename_i hc
      simp only [Bool.and_eq_true] at hc
      have e1 := Nat.le_of_ble_eq_true hc.1
      have e2 := Nat.le_of_ble_eq_true hc.2
      simp only [den] at hx
      split at hx
      case h_2 => cases hx
      rename_i b hb
      cases hx
      have b1 := bnd_ok (d := 0) he hl (by simp)
      have b2 := bnd_ok (d := n) he hh (by simp)
      simp only [Int.ofNat_eq_natCast, Int.toNat_natCast] at b1 b2
      refine ⟨_, by simp only [den, hb]; rfl, ?_⟩
      simp [Instr.sliceAt, run_underlying hu, Instr.sureAddr, bounds_ok (P := P) (w := w) false n n b1 b2 e1 e2, (hP.ti el ei hei).size w]
      by_cases hcl : n = l
      · subst hcl; simp
      · have : Nat.beq n l = false := by
          cases hb' : Nat.beq n l with
          | false => rfl
          | true => exact absurd (Nat.eq_of_beq_eq_true hb') hcl
        rw [if_neg hcl, this, cond_false, addr0]

/-! ### texts of bytes -/
theorem xconv_ok (hP : TabOk P tb) (hH : HOk ρ w H) (src dst : Nat) {u : SV} {x : Value} (hx : den ρ u = some x) :
    RunOk ρ w H nx ((do pure (Next.value (← convert src dst x)) : Sem Next).run P w) (xconv tb H src dst u) := by
  unfold xconv
  split <;> try trivial
  rename_i i j hi hj
  split <;> try trivial
  rename_i el hki hkj
  split <;> try trivial
  rename_i ei hei
  split <;> try trivial
  rename_i hke
  split <;> try trivial
  rename_i p n g hsrc
  rintro ⟨hp, hg⟩
  obtain ⟨d1, hu1, hf1⟩ := (hP.ti src i hi).und
  obtain ⟨d2, hu2, hf2⟩ := (hP.ti dst j hj).und
  obtain ⟨d3, hu3, hf3⟩ := (hP.ti el ei hei).und
  rw [hki] at hf1
  rw [hkj] at hf2
  rw [hke] at hf3
  cases d1 <;> simp only [TK.fits] at hf1
  cases d2 <;> simp only [TK.fits] at hf2
  cases d3 <;> simp only [TK.fits] at hf3
  subst hf1
  subst hf3
  obtain ⟨a, c, rfl, hz, hat⟩ := (src_ok hH hx hsrc hp).is
  refine ⟨_, rfl, ?_⟩
  have hb : ∀ i, i < n → ∃ b : UInt8, byteAt (g i) = b ∧ denL ρ (g i) = some [.int .u8 (b.toNat : Int)] := fun i hi => by
    obtain ⟨z, hz, h | h⟩ := hg i hi
    · refine ⟨z.toUInt8, by rw [h]; simp [byteAt], ?_⟩
      rw [h]; simp only [denL, den]
      have : (z.toUInt8).toNat = z := by simp; omega
      rw [this]
    · refine ⟨z.toUInt8, by rw [h]; simp [byteAt], ?_⟩
      rw [h]; simp only [denL, den]
      have : (z.toUInt8).toNat = z := by simp; omega
      rw [this]
  have hrun : (convert src dst (.slice a n c)).run P w = .ok (.string (bytesOf n g)) w := by
    cases a with
    | none =>
      have := hz rfl
      subst this
      rw [run_convert_bytes_nil w src el hu1 hu3 0 c dst hu2]
      rfl
    | some ad =>
      have := run_convert_bytes_back (P := P) w src dst el ad c ((List.range n).map fun i => byteAt (g i)) hu1 hu3 hu2 (fun j hj => by
        have hjn : j < n := by simpa using hj
        obtain ⟨_, ad', xs, e, hd, hc⟩ := hat j hjn
        cases e
        obtain ⟨b, h1, h2⟩ := hb j hjn
        rw [hd] at h2
        cases h2
        have := hc 0 _ rfl
        simp only [Nat.mul_one, Nat.add_zero] at this
        rw [this]
        simp [h1])
      simp only [List.length_map, List.length_range] at this
      exact this
  simp only [Sem.run_bind, hrun, Result.andThen_ok]
  rfl

/-! ### make -/
theorem xmake_ok (hP : TabOk P tb) (hn : ρ nx = none) (t : Nat) {u v : SV} {x y : Value} (hx : den ρ u = some x) (hy : den ρ v = some y) :
    RunOk ρ w H nx ((do pure (Next.value (← Instr.makeSlice t x y)) : Sem Next).run P w) (xmake tb nx t u v) := by
  unfold xmake
  cases hti : tb.ti t with
  | none => trivial
  | some i =>
    obtain ⟨d, hu, hfit⟩ := (hP.ti t i hti).und
    simp only []
    split <;> try trivial
    rename_i el hk
    rw [hk] at hfit
    cases d <;> simp only [TK.fits] at hfit
    subst hfit
    split <;> try trivial
    rename_i ei k l k' c hei
    split <;> try trivial
    rename_i hc
    simp only [Bool.and_eq_true] at hc
    obtain ⟨h1, h2, h3, h4⟩ := hc
    have h1 := Nat.le_of_ble_eq_true h1
    have h2 := Nat.le_of_ble_eq_true h2
    have h3 := Nat.le_of_ble_eq_true h3
    have h4 := Nat.le_of_ble_eq_true h4
    obtain ⟨inf, z, hinf, hsize, hby, hz, hzd, hzl⟩ := (hP.ti el ei hei).info
    simp only [den, Option.some.injEq] at hx hy
    subst hx
    subst hy
    have hrun := run_make (P := P) w t el inf z hu hinf hz k k' l c (by omega) (by omega) (by rw [hby]; have : ((ei.bytes * c : Nat) : Int) ≤ 281474976710656 := by omega
                                                                                              rwa [Int.natCast_mul] at this) (by omega)
    simp only [Int.toNat_natCast] at hrun
    obtain ⟨ys, hd, hyl, hyj⟩ := denL_zeros (ρ := ρ) (denL_mono (Vl.none_le ρ) _ _ hzd) c
    have hzs := denL_length hzd
    simp only [Array.length_toList] at hzs
    have hrz : madeCells z.cells (c * inf.size) = ys.toArray := by
      unfold madeCells
      refine range_zero z.cells _ ys (by rw [hyl]; simp [hzs, hzl, hsize]) fun j hj => ?_
      have := hyj j (by rw [hsize] at hj; simpa [hzs, hzl] using hj)
      simpa using this
    rw [hrz] at hrun
    obtain ⟨hv, _, hb, hrep, hfp⟩ := new_cells (w := w) (ty := el) hd hn
    refine ⟨_, _, by simp only [Sem.run_bind, Int.ofNat_eq_natCast, hrun, Result.andThen_ok]; rfl, .blk w.heap.size, by simp only [den, Vl.upd_same], below_alloc1 w _, ⟨ys, denL_mono (Vl.le_upd hn) _ _ hd, heap_alloc_new w _⟩, ?_⟩
    intro k hk
    simp only [SO.fp] at hk
    subst hk
    simp

/-! ### stores into rows -/
theorem spl_get {α : Type} {xs v : List α} {p : Nat} (h : p + v.length ≤ xs.length) (m : Nat) : (xs.take p ++ (v ++ xs.drop (p + v.length)))[m]? = if m < p then xs[m]? else if m < p + v.length then v[m - p]? else xs[m]? := by
  have hp : (xs.take p).length = p := by simp; omega
  rw [List.getElem?_append, hp]
  split
  · rename_i h1; rw [List.getElem?_take, if_pos h1]
  · rename_i h1
    rw [List.getElem?_append]
    split
    · rename_i h2; rw [if_pos (by omega)]
    · rename_i h2; rw [if_neg (by omega), List.getElem?_drop]; congr 1; omega
theorem blk_get {α : Type} (xs : List α) (a sz q : Nat) : ((xs.drop a).take sz)[q]? = if q < sz then xs[a + q]? else none := by
  rw [List.getElem?_take]
  split
  · rw [List.getElem?_drop]
  · rfl

theorem xstoreR_ok {t : Nat} {i : Ti} (hi : TiOk P t i) (hH : HOk ρ w H) {h j sz o : Nat} {v : SV} {x y : Value} (hx : den ρ (.pr h j sz o) = some x) (hy : den ρ v = some y) :
    RunOk ρ w H nx ((do Instr.storeAt t x y; pure Next.skip : Sem Next).run P w) (xstoreR i H h j sz o v) := by
  unfold xstoreR
  split <;> try trivial
  rename_i ty sz' n get hl
  split <;> try trivial
  rename_i hc
  simp only [Bool.and_eq_true] at hc
  obtain ⟨h0, h1, h2, h3⟩ := hc
  have := Nat.eq_of_beq_eq_true h0
  subst this
  have h1 := Nat.eq_of_beq_eq_true h1
  have h2 := Nat.le_of_ble_eq_true h2
  intro hj
  obtain ⟨hv, hr, hrep⟩ := hH h _ hl
  cases hv with
  | blk b => exact hrep.elim
  | rw a n' c =>
    obtain ⟨rfl, xs, hown, hg⟩ := hrep
    have hown' := hown
    obtain ⟨hlen, ⟨e, rfl⟩ | ⟨b, cap, cur, e, hb0, hb, hle, hcm, hcs, htake⟩⟩ := hown'
    · omega
    · cases e
      simp only [den, hr] at hx
      cases hx
      have hcv := cells_ok hy
      have hlv := denL_length hcv
      simp only [Array.length_toList] at hlv
      have hmul : (j + 1) * sz ≤ n' * sz := Nat.mul_le_mul_right _ hj
      rw [Nat.add_mul, Nat.one_mul] at hmul
      have hmul2 : n' * sz ≤ c * sz := Nat.mul_le_mul_right _ hle
      have hst := run_storeCells_at (P := P) b (j * sz + o) ty y.cells.toList 0 cur w hb (by simp; omega) (allOne_ok h3 hcv)
      have hrun : (storeVar t ((⟨b, 0, none⟩ : Addr).add (j * sz + o)) y).run P w = .ok () (w.setRow b (cur.toList.take (j * sz + o) ++ y.cells.toList ++ cur.toList.drop (j * sz + o + y.cells.toList.length)).toArray) := by
        unfold storeVar
        rw [Sem.run_bind, hi.size w]
        simp only [Result.andThen_ok]
        rw [if_neg (by omega), addr0, Nat.zero_add]
        simpa using hst
      have hlt : b < w.heap.size := (Array.getElem?_eq_some_iff.1 hb).1
      have hxl : xs.length = n' * sz := hlen
      have hcl : cur.size = c * sz := hcs
      have hupd : Upd (SO.fp w (.own ty sz n' get) (.rw (some ⟨b, 0, none⟩) n' c)) w (w.setRow b (cur.toList.take (j * sz + o) ++ y.cells.toList ++ cur.toList.drop (j * sz + o + y.cells.toList.length)).toArray) :=
        ⟨rfl, rfl, rfl, by simp, fun k hk hF => setRow_other w b k _ (fun e => hF ⟨_, rfl, e⟩)⟩
      have hcells : ∀ k, k < n' → ((fun k => bif Nat.beq k j then splice (get j) o (cellsOf v) else get k) k).length = sz ∧ denL ρ ((fun k => bif Nat.beq k j then splice (get j) o (cellsOf v) else get k) k) = some (((xs.take (j * sz + o) ++ (y.cells.toList ++ xs.drop (j * sz + o + y.cells.toList.length))).drop (k * sz)).take sz) := by
        intro k hk
        have hk2 : (k + 1) * sz ≤ n' * sz := Nat.mul_le_mul_right _ hk
        rw [Nat.add_mul, Nat.one_mul] at hk2
        obtain ⟨g1, g2⟩ := hg k hk
        by_cases e : k = j
        · subst e
          simp only [Nat.beq_refl, cond_true]
          refine ⟨by unfold splice; simp [g1]; omega, ?_⟩
          rw [denL_splice o g2 hcv]
          congr 1
          apply List.ext_getElem?
          intro q
          rw [spl_get (by simp [hxl]; omega), blk_get, blk_get, spl_get (by simp [hxl]; omega)]
          simp only [Array.length_toList, hlv]
          by_cases q0 : q < sz
          · simp only [q0, if_true]
            by_cases q1 : q < o
            · rw [if_pos q1, if_pos (by omega)]
            · by_cases q2 : q < o + y.cells.size
              · rw [if_neg q1, if_pos (by omega), if_neg (by omega), if_pos (by omega)]; congr 1; omega
              · rw [if_neg q1, if_neg (by omega), if_neg (by omega), if_neg (by omega)]
          · simp only [q0, if_false]
            rw [if_neg (by omega), if_neg (by omega)]
        · have hb' : Nat.beq k j = false := by
            cases hb' : Nat.beq k j with
            | false => rfl
            | true => exact absurd (Nat.eq_of_beq_eq_true hb') e
          simp only [hb', cond_false]
          refine ⟨g1, ?_⟩
          rw [g2]
          congr 1
          apply List.ext_getElem?
          intro q
          rw [blk_get, blk_get, spl_get (by simp [hxl]; omega)]
          simp only [Array.length_toList, hlv]
          by_cases q0 : q < sz
          · simp only [q0, if_true]
            rcases Nat.lt_or_gt_of_ne e with hkj | hkj
            · have : (k + 1) * sz ≤ j * sz := Nat.mul_le_mul_right _ hkj
              rw [Nat.add_mul, Nat.one_mul] at this
              rw [if_pos (by omega)]
            · have : (j + 1) * sz ≤ k * sz := Nat.mul_le_mul_right _ hkj
              rw [Nat.add_mul, Nat.one_mul] at this
              rw [if_neg (by omega), if_neg (by omega)]
          · simp only [q0, if_false]
      refine ⟨_, _, _, hl, rfl, hr, ?_, hupd, ⟨rfl, xs.take (j * sz + o) ++ (y.cells.toList ++ xs.drop (j * sz + o + y.cells.toList.length)), ⟨?_, .inr ⟨b, c, _, rfl, hb0, setRow_heap w b _ _ ty _ hb, hle, hcm, ?_, ?_⟩⟩, hcells⟩, rfl, ?_⟩
      · simp only [Instr.storeAt, Instr.sureAddr, Sem.run_bind, Sem.run_pure, Result.andThen_ok, hrun]
      · simp; omega
      · simp; omega
      · rw [← htake]
        apply List.ext_getElem?
        intro q
        simp only [List.append_assoc]
        rw [List.getElem?_take, spl_get (by simp; omega), spl_get (by simp; omega)]
        simp only [List.getElem?_take]
        simp only [Array.length_toList, hlv]
        by_cases q0 : q < n' * sz
        · simp only [q0, if_true]
        · simp only [q0, if_false]
          rw [if_neg (by omega), if_neg (by omega)]
      · intro k hk
        obtain ⟨ad, e, rfl⟩ := hk
        cases e
        exact ⟨.inl ⟨_, rfl, rfl⟩, by simpa using hlt⟩

/-! ### smaller, greater -/
theorem minmax_min {u v : SV} {x y : Value} (hx : den ρ u = some x) (hy : den ρ v = some y) (ts : Array TypeId) (t : TypeId) : RunOk ρ w H nx ((do pure (Next.value (← Builtin.min_ ts t #[x, y])) : Sem Next).run P w) (minmax min u v) := by
  unfold minmax
  split <;> try trivial
  rename_i k a k' b h1 h2
  split <;> try trivial
  have e1 := asI_ok h1 hx
  have e2 := asI_ok h2 hy
  subst e1
  subst e2
  refine ⟨_, rfl, ?_⟩
  simp only [Sem.run_bind, run_min_int2, Result.andThen_ok]
  have : (if b < a then b else a) = min a b := by split <;> omega
  rw [this]; rfl
theorem minmax_max {u v : SV} {x y : Value} (hx : den ρ u = some x) (hy : den ρ v = some y) (ts : Array TypeId) (t : TypeId) : RunOk ρ w H nx ((do pure (Next.value (← Builtin.max_ ts t #[x, y])) : Sem Next).run P w) (minmax max u v) := by
  unfold minmax
  split <;> try trivial
  rename_i k a k' b h1 h2
  split <;> try trivial
  have e1 := asI_ok h1 hx
  have e2 := asI_ok h2 hy
  subst e1
  subst e2
  refine ⟨_, rfl, ?_⟩
  simp only [Sem.run_bind, run_max_int2, Result.andThen_ok]
  have : (if b > a then b else a) = max a b := by split <;> omega
  rw [this]; rfl

/-! ### maps -/
/-- One key held against the map's keys, told by a truth. -/
theorem run_findAsking {kt : TypeId} {key : Value} (q : Value → Bool) : ∀ (l : List MapEntry) (i : Nat), (∀ e ∈ l, (Op.equal kt key e.key).run P w = .ok (q e.key) w) →
    ∃ r, (Instr.findAsking kt key l i).run P w = .ok r w ∧ (r.map (·.2)) = (l.find? fun e => q e.key).map (·.val)
  | [], i, _ => ⟨none, rfl, rfl⟩
  | e :: l, i, h => by
    have h0 := h e (List.mem_cons_self ..)
    obtain ⟨r, h1, h2⟩ := run_findAsking q l (i + 1) fun e' he => h e' (List.mem_cons_of_mem _ he)
    cases hq : q e.key with
    | true =>
      rw [hq] at h0
      refine ⟨some (i, e.val), ?_, by simp [List.find?, hq]⟩
      simp [Instr.findAsking, h0]
    | false =>
      rw [hq] at h0
      refine ⟨r, ?_, by simp [List.find?, hq, h2]⟩
      simp [Instr.findAsking, h0, h1]

/-- What a lookup finds does not hang on the entries' order: at most one fits. -/
theorem find_perm {q : Value → Bool} {kvs : List (Value × Value)} {es : List MapEntry} (hp : (es.map fun e => (e.key, e.val)).Perm kvs) (h1 : kvs.Pairwise fun a b => ¬ (q a.1 = true ∧ q b.1 = true)) :
    (es.find? fun e => q e.key).map (·.val) = (kvs.find? fun a => q a.1).map (·.2) := by
  have h2 : (es.find? fun e => q e.key).map (·.val) = ((es.map fun e => (e.key, e.val)).find? fun a => q a.1).map (·.2) := by
    induction es generalizing kvs with
    | nil => rfl
    | cons e es ih =>
      simp only [List.map_cons, List.find?]
      cases q e.key with
      | true => rfl
      | false =>
        simp only []
        clear hp h1 ih
        induction es with
        | nil => rfl
        | cons e' es ih' =>
          simp only [List.map_cons, List.find?]
          cases q e'.key with
          | true => rfl
          | false => exact ih'
  rw [h2]
  -- both have at most one
  have uniq : ∀ {l : List (Value × Value)}, l.Pairwise (fun a b => ¬ (q a.1 = true ∧ q b.1 = true)) → ∀ a, a ∈ l → q a.1 = true → l.find? (fun a => q a.1) = some a := by
    intro l hl
    induction hl with
    | nil => intro a h; cases h
    | @cons x l hx hl' ih =>
      intro a ha hq
      rcases List.mem_cons.1 ha with rfl | ha
      · simp [List.find?, hq]
      · have : q x.1 = false := by
          cases hqx : q x.1 with
          | false => rfl
          | true => exact absurd ⟨hqx, hq⟩ (hx a ha)
        simp only [List.find?, this]
        exact ih a ha hq
  have h1' := hp.symm.pairwise h1 (fun {a b} h => fun ⟨x, y⟩ => h ⟨y, x⟩)
  cases hk : kvs.find? fun a => q a.1 with
  | some a =>
    have h3 := List.mem_of_find?_eq_some hk
    have h4 : q a.1 = true := by simpa using List.find?_some hk
    rw [uniq h1' a (hp.mem_iff.2 h3) h4]
  | none =>
    have h3 : ∀ a ∈ kvs, ¬ q a.1 = true := by simpa using hk
    have : (es.map fun e => (e.key, e.val)).find? (fun a => q a.1) = none := by
      rw [List.find?_eq_none]
      intro a ha
      simpa using h3 a (hp.mem_iff.1 ha)
    rw [this]
end
end Go.Sx
