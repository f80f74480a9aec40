/- Summaries of the library's texts (functions 45, 51, 47) and of numbers' bytes (function 57). The table of powers stands; the numbers lie in their widths. -/
import Derived.Test.YtiibmnoikgfcbaaDoorS1
import Derived.Test.YtiibmnoikgfcbaaDoorSh
namespace Go.Proofs.YtiibmnoikgfcbaaDoor
open Go Go.Sx Go.RowKit
set_option maxRecDepth 100000
set_option maxHeartbeats 400000
set_option linter.unusedVariables false
set_option linter.unusedSimpArgs false

def byteS (z : Int) (i : Nat) : SV := .i .u8 (z / 256 ^ i % 256)
theorem byteS_row (z : Int) (ρ : Vl) (i : Nat) : denL ρ [byteS z i] = some [byteG z i] := rfl
def sumFixed : Sum := fun args H nx => match args with
  | [v, .n .i64 (.ofNat k)] => match intK .u64 v, k with
    | some z, 1 => some (.ob (0 ≤ z ∧ z < 256) (.new (.tu [.r nx, .n .i64 0]) (.own 5 1 1 fun i => [byteS z i])))
    | some z, 2 => some (.ob (0 ≤ z ∧ z < 65536) (.new (.tu [.r nx, .n .i64 0]) (.own 5 1 2 fun i => [byteS z i])))
    | some z, 4 => some (.ob (0 ≤ z ∧ z < 4294967296) (.new (.tu [.r nx, .n .i64 0]) (.own 5 1 4 fun i => [byteS z i])))
    | _, _ => none
  | _ => none
theorem sumFixed_ok : SumOk1 Tryd.prog 57 sumFixed := by
  intro args H nx out h ρ w xs hH hd hn
  unfold sumFixed at h
  split at h
  case h_2 => cases h
  rename_i v k
  obtain ⟨x, r, rfl, h1, h2⟩ := denL_cons hd
  obtain ⟨y, r, rfl, h3, h4⟩ := denL_cons h2
  cases h4
  simp only [den, Option.some.injEq] at h3
  subst h3
  split at h
  case h_4 => cases h
  all_goals
    rename_i z hz
    cases h
    have := intK_ok hz h1
    subst this
    intro hp
  · exact (fixed1_c z hp w).mono fun e w' hb => hb.eff (v := some (.n .i64 0)) rfl fun i _ => ⟨rfl, rfl⟩
  · exact (fixed2_c z hp w).mono fun e w' hb => hb.eff (v := some (.n .i64 0)) rfl fun i _ => ⟨rfl, rfl⟩
  · exact (fixed4_c z hp w).mono fun e w' hb => hb.eff (v := some (.n .i64 0)) rfl fun i _ => ⟨rfl, rfl⟩

/-! ### texts of numbers -/
def powA : AO := tabAO Tryd.prog "internal/strconv.uint64pow10" .u64 Lib.pow10Tab
def itoaB (z : Int) : ByteArray := ⟨(Lib.itoa z).toArray⟩
theorem grow_below (w : World) (k : Nat) (os : Array Obj) : Below w.heap.size w (Go.Sort.grow (w.drewN k) os) :=
  ⟨rfl, rfl, rfl, by simp [Go.Sort.grow, World.drewN], fun j hj => by simp [Go.Sort.grow, World.drewN, Array.getElem?_append, hj]⟩
def sumItoa : Sum := fun args H nx => match args with
  | [v] => match intK .i64 v, lk 0 H with
    | some z, some (.rd A) => some (.ob (A = powA ∧ in64 z) (.val (.s (itoaB z))))
    | _, _ => none
  | _ => none
theorem sumItoa_ok : SumOk1 Tryd.prog 45 sumItoa := by
  intro args H nx out h ρ w xs hH hd hn
  unfold sumItoa at h
  split at h
  case h_2 => cases h
  rename_i v
  obtain ⟨x, r, rfl, h1, h2⟩ := denL_cons hd
  cases h2
  split at h
  case h_2 => cases h
  rename_i z A hz hA
  cases h
  have := intK_ok hz h1
  subst this
  rintro ⟨rfl, hp⟩
  obtain ⟨hv, _, htab⟩ := hH 0 _ hA
  exact (Tryd.strconv_Itoa z hp.1 hp.2 w htab).mono fun e w' ⟨h1, k, os, h2⟩ => ⟨_, h1, rfl, h2 ▸ grow_below w k os⟩
def sumFormat : Sum := fun args H nx => match args with
  | [v, .n .i64 (.ofNat 10)] => match intK .i64 v, lk 0 H with
    | some z, some (.rd A) => some (.ob (A = powA ∧ in64 z) (.val (.s (itoaB z))))
    | _, _ => none
  | _ => none
theorem sumFormat_ok : SumOk1 Tryd.prog 51 sumFormat := by
  intro args H nx out h ρ w xs hH hd hn
  unfold sumFormat at h
  split at h
  case h_2 => cases h
  rename_i v
  obtain ⟨x, r, rfl, h1, h2⟩ := denL_cons hd
  obtain ⟨y, r, rfl, h3, h4⟩ := denL_cons h2
  cases h4
  simp only [den, Option.some.injEq] at h3
  subst h3
  split at h
  case h_2 => cases h
  rename_i z A hz hA
  cases h
  have := intK_ok hz h1
  subst this
  rintro ⟨rfl, hp⟩
  obtain ⟨hv, _, htab⟩ := hH 0 _ hA
  exact (Tryd.strconv_FormatInt_10 z hp.1 hp.2 w htab).mono fun e w' ⟨h1, k, os, h2⟩ => ⟨_, h1, rfl, h2 ▸ grow_below w k os⟩

/-! ### texts behind one another -/
def textOf : List SV → Option ByteArray
  | [v] => match unls v with | .s x => some x | _ => none
  | _ => none
def textsG (g : Nat → List SV) : Nat → Nat → Option (List ByteArray)
  | _, 0 => some []
  | i, n + 1 => match textOf (g i), textsG g (i + 1) n with
    | some x, some l => some (x :: l)
    | _, _ => none
def joinB (l : List ByteArray) (sep : ByteArray) : ByteArray := ⟨(Lib.join (l.map (·.data.toList)) sep.data.toList).toArray⟩
def sumJoin : Sum := fun args H nx => match args with
  | [v, u] => match ownOf H 9 1 v, textOf [u] with
    | some (n, g, _), some sep => match textsG g 0 n with
      | some l => some (  .ob (l.length ≤ 1000 ∧ (Lib.join (l.map (·.data.toList)) sep.data.toList).length ≤ 140737488355328) (.val (.s (joinB l sep))))
      | none => none
    | _, _ => none
  | _ => none
theorem textOf_ok {ρ : Vl} {l : List SV} {x : ByteArray} {ys : List Value} (h : textOf l = some x) (hd : denL ρ l = some ys) : ys = [.string x] := by
  unfold textOf at h
  split at h
  case h_2 => cases h
  rename_i v
  obtain ⟨y, r, rfl, h1, h2⟩ := denL_cons hd
  cases h2
  rw [← den_unls] at h1
  split at h
  case h_2 => cases h
  rename_i z hz
  cases h
  rw [hz] at h1
  cases h1
  rfl
theorem textsG_ok {g : Nat → List SV} : ∀ {n i : Nat} {l : List ByteArray}, textsG g i n = some l → l.length = n ∧ ∀ j x, l[j]? = some x → textOf (g (i + j)) = some x
  | 0, i, l, h => by cases h; exact ⟨rfl, fun j x e => by simp at e⟩
  | n + 1, i, l, h => by
    simp only [textsG] at h
    split at h
    case h_2 => cases h
    rename_i x l' h1 h2
    cases h
    obtain ⟨q1, q2⟩ := textsG_ok h2
    refine ⟨by simp [q1], fun j y e => ?_⟩
    cases j with
    | zero => simp only [List.getElem?_cons_zero, Option.some.injEq] at e; subst e; exact h1
    | succ j =>
      simp only [List.getElem?_cons_succ] at e
      have := q2 j y e
      rw [show i + (j + 1) = i + 1 + j by omega]
      exact this
theorem sumJoin_ok : SumOk1 Tryd.prog 47 sumJoin := by
  intro args H nx out h ρ w xs hH hd hn
  unfold sumJoin at h
  split at h
  case h_2 => cases h
  rename_i v u
  split at h
  case h_2 => cases h
  rename_i n g ho sep hown hsep
  split at h
  case h_2 => cases h
  rename_i l hl
  cases h
  rintro ⟨hl2, hlen⟩
  obtain ⟨x, r, rfl, h1, h2⟩ := denL_cons hd
  obtain ⟨y, r, rfl, h3, h4⟩ := denL_cons h2
  cases h4
  have hy := textOf_ok hsep (ys := [y]) (denL_mk h3 rfl)
  cases hy
  obtain ⟨⟨ys, q1, q2⟩, q3, q4, a, c, rfl, q5⟩ := own_ok hH h1 hown
  obtain ⟨t1, t2⟩ := textsG_ok hl
  rcases q1.2 with ⟨e1, e2⟩ | ⟨b, cap, cur, e1, _, hb, hc1, hc2, hc3, hc4⟩
  · cases e1
    have : l = [] := List.length_eq_zero_iff.1 t1
    subst this
    exact (Tryd.strings_Join_none none 0 sep w).mono fun e w' ⟨h1, h2⟩ => ⟨_, h1, rfl, h2 ▸ Below.refl _ _⟩
  · cases e1
    subst t1
    refine (Tryd.strings_Join b 0 c l sep w (fun j x hx => ?_) (Array.getElem?_eq_some_iff.1 hb).1 (by omega) hc1 hlen).mono fun e w' ⟨h1, h2⟩ => ⟨_, h1, rfl, h2⟩
    have hj : j < l.length := (List.getElem?_eq_some_iff.1 hx).1
    have s1 := t2 j x hx
    rw [Nat.zero_add] at s1
    have s2 := textOf_ok s1 (q2 j hj).2
    rw [← hc4] at s2
    simp only [World.cell?, hb]
    have s3 := congrArg (·[0]?) s2
    simp only [List.getElem?_take, List.getElem?_drop, Nat.mul_one, List.getElem?_cons_zero, Nat.add_zero] at s3
    rw [Nat.zero_add]
    simpa [hj] using s3
end Go.Proofs.YtiibmnoikgfcbaaDoor
