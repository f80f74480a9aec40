/- Symbolic values and states for walks, and what they stand for. No condition. -/
import Derived.WalkKit
namespace Go.Sx
open Go.RowKit
set_option linter.unusedVariables false
set_option linter.unusedSimpArgs false

/-- What a handle stands for: a block's number, or a slice value. -/
inductive Hv where
  | blk (b : Nat)
  | rw (a : Option Addr) (n c : Nat)

abbrev Vl := Nat → Option Hv

/-- Symbolic values. n, lb: known numbers and truths; i, b: of which nothing is known but their Lean term. -/
inductive SV where
  | n (k : IntKind) (z : Int)
  | i (k : IntKind) (x : Int)
  | lb (x : Bool)
  | b (x : Bool)
  | s (x : ByteArray)
  | ls (l : List UInt8)
  | p (h o : Nat)
  | nilp
  | sl (h o len cap : Nat)
  | r (h : Nat)
  | rs (h lo n sz : Nat)
  | pr (h j sz o : Nat)
  | nils
  | m (h : Nat)
  | nilm
  | f (fn : Fn) (a c : List SV)
  | nilf
  | ag (l : List SV)
  | tu (l : List SV)
  | ifc (t : TypeId) (v : SV)
  | nili
  | q (v : Value)

mutual
def den (ρ : Vl) : SV → Option Value
  | .n k z => some (.int k z)
  | .i k x => some (.int k x)
  | .lb x => some (.bool x)
  | .b x => some (.bool x)
  | .s x => some (.string x)
  | .ls l => some (.string ⟨l.toArray⟩)
  | .p h o => match ρ h with | some (.blk b) => some (.pointer (some ⟨b, o, none⟩)) | _ => none
  | .nilp => some (.pointer none)
  | .sl h o len cap => match ρ h with | some (.blk b) => some (.slice (some ⟨b, o, none⟩) len cap) | _ => none
  | .r h => match ρ h with | some (.rw a n c) => some (.slice a n c) | _ => none
  | .rs h lo n sz => match ρ h with | some (.rw a _ c) => some (.slice (if c = lo then a else a.map (·.add (lo * sz))) n (c - lo)) | _ => none
  | .pr h j sz o => match ρ h with | some (.rw (some a) _ _) => some (.pointer (some (a.add (j * sz + o)))) | _ => none
  | .nils => some (.slice none 0 0)
  | .m h => match ρ h with | some (.blk b) => some (.map (some b)) | _ => none
  | .nilm => some (.map none)
  | .f fn a c => match denL ρ a, denL ρ c with | some x, some y => some (.func fn x.toArray y.toArray) | _, _ => none
  | .nilf => some .nilFunc
  | .ag l => match denL ρ l with | some x => some (.agg x.toArray) | _ => none
  | .tu l => match denL ρ l with | some x => some (.tuple x.toArray) | _ => none
  | .ifc t v => match den ρ v with | some x => some (.iface t x) | _ => none
  | .nili => some .nilIface
  | .q v => some v
def denL (ρ : Vl) : List SV → Option (List Value)
  | [] => some []
  | v :: l => match den ρ v, denL ρ l with | some x, some y => some (x :: y) | _, _ => none
end

/-- No handle from n on. -/
def Vl.none : Vl := fun _ => Option.none
def Vl.upd (ρ : Vl) (h : Nat) (v : Hv) : Vl := fun k => if k = h then some v else ρ k
def Vl.le (ρ ρ' : Vl) : Prop := ∀ h v, ρ h = some v → ρ' h = some v
def Vl.cut (ρ : Vl) (n : Nat) : Vl := fun k => if k < n then ρ k else Option.none

theorem Vl.le_refl (ρ : Vl) : ρ.le ρ := fun _ _ h => h
theorem Vl.le_trans {a b c : Vl} (h : a.le b) (k : b.le c) : a.le c := fun x v e => k x v (h x v e)
theorem Vl.none_le (ρ : Vl) : Vl.none.le ρ := fun _ _ h => by cases h
theorem Vl.le_upd {ρ : Vl} {h : Nat} {v : Hv} (e : ρ h = Option.none) : ρ.le (ρ.upd h v) := fun k x hx => by
  unfold Vl.upd
  by_cases hk : k = h
  · subst hk; rw [e] at hx; cases hx
  · rw [if_neg hk]; exact hx
theorem Vl.upd_same (ρ : Vl) (h : Nat) (v : Hv) : ρ.upd h v h = some v := by simp [Vl.upd]
theorem Vl.upd_other (ρ : Vl) {h k : Nat} (v : Hv) (e : k ≠ h) : ρ.upd h v k = ρ k := by simp [Vl.upd, e]
theorem Vl.cut_le (ρ : Vl) (n : Nat) : (ρ.cut n).le ρ := fun k x hx => by
  unfold Vl.cut at hx
  split at hx
  · exact hx
  · cases hx

mutual
theorem den_mono {ρ ρ' : Vl} (hl : ρ.le ρ') : ∀ (v : SV) (x : Value), den ρ v = some x → den ρ' v = some x
  | .n .., _, h | .i .., _, h | .lb _, _, h | .b _, _, h | .s _, _, h | .ls _, _, h | .nilp, _, h | .nils, _, h | .nilm, _, h | .nilf, _, h | .nili, _, h | .q _, _, h => h
  | .p k o, x, h => by
    simp only [den] at h ⊢
    cases e : ρ k with
    | none => rw [e] at h; cases h
    | some v => rw [e] at h; rw [hl _ _ e]; exact h
  | .sl k o a b, x, h => by
    simp only [den] at h ⊢
    cases e : ρ k with
    | none => rw [e] at h; cases h
    | some v => rw [e] at h; rw [hl _ _ e]; exact h
  | .r k, x, h => by
    simp only [den] at h ⊢
    cases e : ρ k with
    | none => rw [e] at h; cases h
    | some v => rw [e] at h; rw [hl _ _ e]; exact h
  | .pr k j sz o, x, h => by
    simp only [den] at h ⊢
    cases e : ρ k with
    | none => rw [e] at h; cases h
    | some v => rw [e] at h; rw [hl _ _ e]; exact h
  | .rs k j sz o, x, h => by
    simp only [den] at h ⊢
    cases e : ρ k with
    | none => rw [e] at h; cases h
    | some v => rw [e] at h; rw [hl _ _ e]; exact h
  | .m k, x, h => by
    simp only [den] at h ⊢
    cases e : ρ k with
    | none => rw [e] at h; cases h
    | some v => rw [e] at h; rw [hl _ _ e]; exact h
  | .f fn a c, x, h => by
    simp only [den] at h ⊢
    cases e : denL ρ a with
    | none => rw [e] at h; cases h
    | some u =>
      cases e' : denL ρ c with
      | none => rw [e, e'] at h; cases h
      | some u' => rw [e, e'] at h; rw [denL_mono hl a u e, denL_mono hl c u' e']; exact h
  | .ag l, x, h => by
    simp only [den] at h ⊢
    cases e : denL ρ l with
    | none => rw [e] at h; cases h
    | some u => rw [e] at h; rw [denL_mono hl l u e]; exact h
  | .tu l, x, h => by
    simp only [den] at h ⊢
    cases e : denL ρ l with
    | none => rw [e] at h; cases h
    | some u => rw [e] at h; rw [denL_mono hl l u e]; exact h
  | .ifc t v, x, h => by
    simp only [den] at h ⊢
    cases e : den ρ v with
    | none => rw [e] at h; cases h
    | some u => rw [e] at h; rw [den_mono hl v u e]; exact h
theorem denL_mono {ρ ρ' : Vl} (hl : ρ.le ρ') : ∀ (l : List SV) (x : List Value), denL ρ l = some x → denL ρ' l = some x
  | [], _, h => h
  | v :: l, x, h => by
    simp only [denL] at h ⊢
    cases e : den ρ v with
    | none => rw [e] at h; cases h
    | some u =>
      cases e' : denL ρ l with
      | none => rw [e, e'] at h; cases h
      | some u' => rw [e, e'] at h; rw [den_mono hl v u e, denL_mono hl l u' e']; exact h
end

/-- A known text as any other. -/
def unls : SV → SV
  | .ls l => .s ⟨l.toArray⟩
  | v => v
theorem den_unls (ρ : Vl) (v : SV) : den ρ (unls v) = den ρ v := by cases v <;> rfl

/-- The handles of a value are below n. -/
def under (n : Nat) : SV → Bool
  | .p h _ | .sl h .. | .r h | .rs h .. | .pr h .. | .m h => Nat.blt h n
  | .f _ a c => underL n a && underL n c
  | .ag l | .tu l => underL n l
  | .ifc _ v => under n v
  | _ => true
where underL (n : Nat) : List SV → Bool
  | [] => true
  | v :: l => under n v && underL n l

mutual
theorem den_cut {ρ : Vl} {n : Nat} : ∀ (v : SV) (x : Value), under n v = true → den ρ v = some x → den (ρ.cut n) v = some x
  | .n .., _, _, h | .i .., _, _, h | .lb _, _, _, h | .b _, _, _, h | .s _, _, _, h | .ls _, _, _, h | .nilp, _, _, h | .nils, _, _, h | .nilm, _, _, h | .nilf, _, _, h | .nili, _, _, h | .q _, _, _, h => h
  | .p k o, x, u, h => by
    simp only [under, Nat.blt_eq] at u
    simpa only [den, Vl.cut, if_pos u] using h
  | .sl k o a b, x, u, h => by
    simp only [under, Nat.blt_eq] at u
    simpa only [den, Vl.cut, if_pos u] using h
  | .r k, x, u, h => by
    simp only [under, Nat.blt_eq] at u
    simpa only [den, Vl.cut, if_pos u] using h
  | .pr k j sz o, x, u, h => by
    simp only [under, Nat.blt_eq] at u
    simpa only [den, Vl.cut, if_pos u] using h
  | .rs k j sz o, x, u, h => by
    simp only [under, Nat.blt_eq] at u
    simpa only [den, Vl.cut, if_pos u] using h
  | .m k, x, u, h => by
    simp only [under, Nat.blt_eq] at u
    simpa only [den, Vl.cut, if_pos u] using h
  | .f fn a c, x, u, h => by
    simp only [under, Bool.and_eq_true] at u
    simp only [den] at h ⊢
    cases e : denL ρ a with
    | none => rw [e] at h; cases h
    | some y =>
      cases e' : denL ρ c with
      | none => rw [e, e'] at h; cases h
      | some y' => rw [e, e'] at h; rw [denL_cut a y u.1 e, denL_cut c y' u.2 e']; exact h
  | .ag l, x, u, h => by
    simp only [under] at u
    simp only [den] at h ⊢
    cases e : denL ρ l with
    | none => rw [e] at h; cases h
    | some y => rw [e] at h; rw [denL_cut l y u e]; exact h
  | .tu l, x, u, h => by
    simp only [under] at u
    simp only [den] at h ⊢
    cases e : denL ρ l with
    | none => rw [e] at h; cases h
    | some y => rw [e] at h; rw [denL_cut l y u e]; exact h
  | .ifc t v, x, u, h => by
    simp only [under] at u
    simp only [den] at h ⊢
    cases e : den ρ v with
    | none => rw [e] at h; cases h
    | some y => rw [e] at h; rw [den_cut v y u e]; exact h
theorem denL_cut {ρ : Vl} {n : Nat} : ∀ (l : List SV) (x : List Value), under.underL n l = true → denL ρ l = some x → denL (ρ.cut n) l = some x
  | [], _, _, h => h
  | v :: l, x, u, h => by
    simp only [under.underL, Bool.and_eq_true] at u
    simp only [denL] at h ⊢
    cases e : den ρ v with
    | none => rw [e] at h; cases h
    | some y =>
      cases e' : denL ρ l with
      | none => rw [e, e'] at h; cases h
      | some y' => rw [e, e'] at h; rw [den_cut v y u.1 e, denL_cut l y' u.2 e']; exact h
end

/-! ### lists of values -/
theorem denL_cons {ρ : Vl} {v : SV} {l : List SV} {xs : List Value} (h : denL ρ (v :: l) = some xs) : ∃ x ys, xs = x :: ys ∧ den ρ v = some x ∧ denL ρ l = some ys := by
  simp only [denL] at h
  cases e : den ρ v with
  | none => rw [e] at h; cases h
  | some x =>
    cases e' : denL ρ l with
    | none => rw [e, e'] at h; cases h
    | some ys => rw [e, e'] at h; cases h; exact ⟨x, ys, rfl, rfl, rfl⟩
theorem denL_mk {ρ : Vl} {v : SV} {l : List SV} {x : Value} {ys : List Value} (h : den ρ v = some x) (h' : denL ρ l = some ys) : denL ρ (v :: l) = some (x :: ys) := by
  simp only [denL, h, h']
theorem denL_length {ρ : Vl} : ∀ {l : List SV} {xs : List Value}, denL ρ l = some xs → xs.length = l.length
  | [], xs, h => by cases h; rfl
  | v :: l, xs, h => by
    obtain ⟨x, ys, rfl, _, h2⟩ := denL_cons h
    simp [denL_length h2]
theorem denL_get {ρ : Vl} : ∀ {l : List SV} {xs : List Value}, denL ρ l = some xs → ∀ {j : Nat} {v : SV}, l[j]? = some v → ∃ x, xs[j]? = some x ∧ den ρ v = some x
  | [], xs, h, j, v, e => by simp at e
  | u :: l, xs, h, j, v, e => by
    obtain ⟨x, ys, rfl, h1, h2⟩ := denL_cons h
    cases j with
    | zero => simp at e; subst e; exact ⟨x, by simp, h1⟩
    | succ j => simp at e; simpa using denL_get h2 e
theorem denL_take {ρ : Vl} : ∀ {l : List SV} {xs : List Value} (k : Nat), denL ρ l = some xs → denL ρ (l.take k) = some (xs.take k)
  | _, xs, 0, h => by simp [denL]
  | [], xs, k + 1, h => by cases h; simp [denL]
  | v :: l, xs, k + 1, h => by
    obtain ⟨x, ys, rfl, h1, h2⟩ := denL_cons h
    simpa using denL_mk h1 (denL_take k h2)
theorem denL_drop {ρ : Vl} : ∀ {l : List SV} {xs : List Value} (k : Nat), denL ρ l = some xs → denL ρ (l.drop k) = some (xs.drop k)
  | l, xs, 0, h => by simpa using h
  | [], xs, k + 1, h => by cases h; simp [denL]
  | v :: l, xs, k + 1, h => by
    obtain ⟨x, ys, rfl, h1, h2⟩ := denL_cons h
    simpa using denL_drop k h2
theorem denL_append {ρ : Vl} : ∀ {l l' : List SV} {xs ys : List Value}, denL ρ l = some xs → denL ρ l' = some ys → denL ρ (l ++ l') = some (xs ++ ys)
  | [], l', xs, ys, h, h' => by cases h; simpa using h'
  | v :: l, l', xs, ys, h, h' => by
    obtain ⟨x, zs, rfl, h1, h2⟩ := denL_cons h
    simpa using denL_mk h1 (denL_append h2 h')

/-- Looked up by number: the first one counts. -/
def lk {α : Type} (t : Nat) : List (Nat × α) → Option α
  | [] => none
  | (k, v) :: r => bif Nat.beq t k then some v else lk t r
theorem lk_cons_same {α : Type} (t : Nat) (v : α) (r : List (Nat × α)) : lk t ((t, v) :: r) = some v := by simp [lk]
theorem lk_cons_other {α : Type} {t k : Nat} (v : α) (r : List (Nat × α)) (h : t ≠ k) : lk t ((k, v) :: r) = lk t r := by
  have : Nat.beq t k = false := by
    cases e : Nat.beq t k with
    | false => rfl
    | true => exact absurd (Nat.eq_of_beq_eq_true e) h
  simp [lk, this]
theorem lk_mem {α : Type} {t : Nat} {v : α} : ∀ {l : List (Nat × α)}, lk t l = some v → (t, v) ∈ l
  | [], h => by cases h
  | (k, u) :: r, h => by
    by_cases e : t = k
    · subst e; rw [lk_cons_same] at h; cases h; exact List.mem_cons_self ..
    · rw [lk_cons_other _ _ e] at h; exact List.mem_cons_of_mem _ (lk_mem h)
/-- Put anew, where it is. -/
def rp {α : Type} (t : Nat) (x : α) : List (Nat × α) → List (Nat × α)
  | [] => []
  | (k, v) :: r => bif Nat.beq t k then (k, x) :: r else (k, v) :: rp t x r
theorem lk_rp_same {α : Type} {t : Nat} {x y : α} : ∀ {l : List (Nat × α)}, lk t l = some y → lk t (rp t x l) = some x
  | [], h => by cases h
  | (k, v) :: r, h => by
    by_cases e : t = k
    · subst e; simp [rp, lk]
    · have : Nat.beq t k = false := by
        cases e' : Nat.beq t k with
        | false => rfl
        | true => exact absurd (Nat.eq_of_beq_eq_true e') e
      simp only [lk, rp, this, cond_false] at h ⊢
      exact lk_rp_same h
theorem lk_rp_other {α : Type} {t u : Nat} {x : α} (hne : u ≠ t) : ∀ {l : List (Nat × α)}, lk u (rp t x l) = lk u l
  | [] => rfl
  | (k, v) :: r => by
    by_cases e : t = k
    · subst e
      simp only [rp, Nat.beq_refl, cond_true]
      rw [lk_cons_other _ _ hne, lk_cons_other _ _ hne]
    · have : Nat.beq t k = false := by
        cases e' : Nat.beq t k with
        | false => rfl
        | true => exact absurd (Nat.eq_of_beq_eq_true e') e
      simp only [rp, this, cond_false]
      by_cases e2 : u = k
      · subst e2; rw [lk_cons_same, lk_cons_same]
      · rw [lk_cons_other _ _ e2, lk_cons_other _ _ e2]; exact lk_rp_other hne
end Go.Sx
