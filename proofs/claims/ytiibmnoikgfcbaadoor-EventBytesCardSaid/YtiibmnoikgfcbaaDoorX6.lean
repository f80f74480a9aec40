/- Symbolic states, what they say of a frame and a world, and the walk of a region's operations. -/
import Derived.Test.YtiibmnoikgfcbaaDoorX5
namespace Go.Sx
open Go.RowKit
set_option linter.unusedVariables false
set_option linter.unusedSimpArgs false

structure St where
  T : List (Nat × SV)
  G : List (Nat × (List (Nat × Bool) × SV))
  H : List (Nat × SO)
  nx : Nat
  n : Nat

/-- Where a call began: the world, which of its blocks may be turned, the handles that were given. -/
structure Cx where
  w0 : World
  F : Nat → Prop
  ρ0 : Vl
  ds : List Deferred

/-- What is known of memory: M tells what lies behind which handle. -/
structure HSr (cx : Cx) (ρ : Vl) (M : Nat → SO → Prop) (w : World) : Prop where
  hp : ∀ h o, M h o → ∃ hv, ρ h = some hv ∧ o.rep ρ w hv
  dj : ∀ h h' o o' hv hv' k, M h o → M h' o' → ρ h = some hv → ρ h' = some hv' → h ≠ h' → o.mine = true → o.fp w hv k → o'.fp w hv' k → False
  ow : ∀ h o hv k, M h o → o.mine = true → ρ h = some hv → o.fp w hv k → cx.w0.heap.size ≤ k ∨ cx.F k
  fr : Upd cx.F cx.w0 w
  ag : cx.ρ0.le ρ

structure HS (cx : Cx) (ρ : Vl) (H : List (Nat × SO)) (nx : Nat) (w : World) : Prop where
  r : HSr cx ρ (fun h o => lk h H = some o) w
  nx : ∀ h, nx ≤ h → ρ h = none
theorem HS.hp {cx : Cx} {ρ : Vl} {H : List (Nat × SO)} {nx : Nat} {w : World} (h : HS cx ρ H nx w) : HOk ρ w H := h.r.hp
theorem HS.fr {cx : Cx} {ρ : Vl} {H : List (Nat × SO)} {nx : Nat} {w : World} (h : HS cx ρ H nx w) : Upd cx.F cx.w0 w := h.r.fr
theorem HS.ag {cx : Cx} {ρ : Vl} {H : List (Nat × SO)} {nx : Nat} {w : World} (h : HS cx ρ H nx w) : cx.ρ0.le ρ := h.r.ag

def idsHold (tm : Array Value) (ids : List (Nat × Bool)) : Prop := ∀ e ∈ ids, tm[e.1]? = some (.bool e.2)

/-- What is known of the temporaries. -/
structure TS (ρ : Vl) (T : List (Nat × SV)) (G : List (Nat × (List (Nat × Bool) × SV))) (n : Nat) (tm : Array Value) : Prop where
  sz : tm.size = n
  vs : ∀ t v, lk t G = none → lk t T = some v → ∃ y, tm[t]? = some y ∧ den ρ v = some y
  gd : ∀ t ids v, (t, (ids, v)) ∈ G → (idsHold tm ids → ∃ y, tm[t]? = some y ∧ den ρ v = some y) ∧ (¬ idsHold tm ids → tm[t]? = some undef)

structure Sat (cx : Cx) (ρ : Vl) (s : St) (a : Act) (w : World) : Prop where
  hs : HS cx ρ s.H s.nx w
  ts : TS ρ s.T s.G s.n a.tmps
  df : a.defers = cx.ds

/-! ### what lies behind a handle, in another world -/
theorem rowRep_keep {ρ : Vl} {w w' : World} {sz n : Nat} {get : Nat → List SV} {a : Option Addr} (h : RowRep ρ w sz n get a) (hs : w.heap.size ≤ w'.heap.size)
    (hk : 0 < n → ∀ ad, a = some ad → w'.heap[ad.block]? = w.heap[ad.block]?) : RowRep ρ w' sz n get a := by
  obtain ⟨h1, h2, h3⟩ := h
  refine ⟨h1, fun hn => ?_, fun i hi => ?_⟩
  · obtain ⟨ad, e, hb⟩ := h2 hn
    exact ⟨ad, e, by omega⟩
  · obtain ⟨hl, ad, xs, e, hd, hc⟩ := h3 i hi
    refine ⟨hl, ad, xs, e, hd, fun j x hx => ?_⟩
    rw [World.cell?_of_block (w := w) (by rw [addr_block]; exact hk (by omega) ad e)]
    exact hc j x hx

theorem SO.keep {ρ : Vl} {w w' : World} {o : SO} {hv : Hv} (h : o.rep ρ w hv) (hs : w.heap.size ≤ w'.heap.size) (hk : ∀ k, o.fp w hv k → w'.heap[k]? = w.heap[k]?) :
    o.rep ρ w' hv ∧ ∀ k, o.fp w' hv k → o.fp w hv k := by
  cases o with
  | cells l t =>
    cases hv with
    | rw a n c => exact h.elim
    | blk b =>
      obtain ⟨cs, h1, h2⟩ := h
      exact ⟨⟨cs, h1, (hk b rfl).trans h2⟩, fun k hk => hk⟩
  | row sz n get =>
    cases hv with
    | blk b => exact h.elim
    | rw a n' c =>
      obtain ⟨e, h⟩ := h
      exact ⟨⟨e, rowRep_keep h hs fun hn ad e => hk ad.block ⟨hn, ad, e, rfl⟩⟩, fun k hk => hk⟩
  | own t sz n get =>
    cases hv with
    | blk b => exact h.elim
    | rw a n' c =>
      obtain ⟨e, xs, h1, h2⟩ := h
      refine ⟨⟨e, xs, ⟨h1.1, ?_⟩, h2⟩, fun k hk => hk⟩
      rcases h1.2 with h0 | ⟨g, cap, cur, hv, hb, hh, r⟩
      · exact .inl h0
      · refine .inr ⟨g, cap, cur, hv, hb, ?_, r⟩
        cases hv
        exact (hk g ⟨_, rfl, rfl⟩).trans hh
  | mp es =>
    cases hv with
    | rw a n c => exact h.elim
    | blk b =>
      obtain ⟨kvs, en, clk, h1, h2, h3⟩ := h
      exact ⟨⟨kvs, en, clk, h1, (hk b rfl).trans h2, h3⟩, fun k hk => hk⟩
  | ab A => exact A.keep w w' hv h hs hk
  | rd A => exact A.keep w w' hv h hs hk

theorem SO.inb {ρ : Vl} {w : World} {o : SO} {hv : Hv} {k : Nat} (h : o.rep ρ w hv) (hk : o.fp w hv k) : k < w.heap.size := by
  cases o with
  | cells l t =>
    cases hv with
    | rw a n c => exact h.elim
    | blk b => obtain ⟨cs, _, h2⟩ := h; simp only [SO.fp] at hk; subst hk; exact (Array.getElem?_eq_some_iff.1 h2).1
  | row sz n get =>
    cases hv with
    | blk b => exact h.elim
    | rw a n' c =>
      obtain ⟨e, _, h2, _⟩ := h
      obtain ⟨hn, ad, e2, rfl⟩ := hk
      obtain ⟨ad', e3, hlt⟩ := h2 hn
      rw [e2] at e3; cases e3; exact hlt
  | own t sz n get =>
    cases hv with
    | blk b => exact h.elim
    | rw a n' c =>
      obtain ⟨e, xs, h1, _⟩ := h
      obtain ⟨ad, e2, rfl⟩ := hk
      exact (h1.lt ad.block (by rw [e2]; rfl)).2
  | mp es =>
    cases hv with
    | rw a n c => exact h.elim
    | blk b => obtain ⟨_, _, _, _, h2, _⟩ := h; simp only [SO.fp] at hk; subst hk; exact (Array.getElem?_eq_some_iff.1 h2).1
  | ab A => exact A.inb w hv k h hk
  | rd A => exact A.inb w hv k h hk

theorem rowRep_mono {ρ ρ' : Vl} (hl : ρ.le ρ') {w : World} {sz n : Nat} {get : Nat → List SV} {a : Option Addr} (h : RowRep ρ w sz n get a) : RowRep ρ' w sz n get a :=
  ⟨h.1, h.2.1, fun i hi => let ⟨l, ad, xs, e, hd, hc⟩ := h.2.2 i hi; ⟨l, ad, xs, e, denL_mono hl _ _ hd, hc⟩⟩
theorem denP_mono {ρ ρ' : Vl} (hl : ρ.le ρ') : ∀ (l : List (SV × SV)) (z : List (Value × Value)), denP ρ l = some z → denP ρ' l = some z
  | [], _, h => h
  | (k, v) :: l, z, h => by
    simp only [denP] at h ⊢
    cases e1 : den ρ k with
    | none => rw [e1] at h; cases h
    | some x =>
      cases e2 : den ρ v with
      | none => rw [e1, e2] at h; cases h
      | some y =>
        cases e3 : denP ρ l with
        | none => rw [e1, e2, e3] at h; cases h
        | some z' => rw [e1, e2, e3] at h; rw [den_mono hl _ _ e1, den_mono hl _ _ e2, denP_mono hl _ _ e3]; exact h
theorem SO.mono {ρ ρ' : Vl} (hl : ρ.le ρ') {w : World} {o : SO} {hv : Hv} (h : o.rep ρ w hv) : o.rep ρ' w hv := by
  cases o with
  | cells l t => cases hv with
    | rw a n c => exact h.elim
    | blk b => obtain ⟨cs, h1, h2⟩ := h; exact ⟨cs, denL_mono hl _ _ h1, h2⟩
  | row sz n get => cases hv with
    | blk b => exact h.elim
    | rw a n' c => exact ⟨h.1, rowRep_mono hl h.2⟩
  | own t sz n get => cases hv with
    | blk b => exact h.elim
    | rw a n' c => obtain ⟨e, xs, h1, h2⟩ := h; exact ⟨e, xs, h1, fun i hi => ⟨(h2 i hi).1, denL_mono hl _ _ (h2 i hi).2⟩⟩
  | mp es => cases hv with
    | rw a n c => exact h.elim
    | blk b => obtain ⟨kvs, en, clk, h1, h2⟩ := h; exact ⟨kvs, en, clk, denP_mono hl _ _ h1, h2⟩
  | ab A => exact h
  | rd A => exact h

/-! ### memory moves on -/
section
variable {cx : Cx} {ρ : Vl} {H : List (Nat × SO)} {nx : Nat} {w w' : World}

theorem Upd.trans {F : Nat → Prop} {a b c : World} (h : Upd F a b) (k : Upd (fun k => F k ∨ a.heap.size ≤ k) b c) : Upd F a c :=
  ⟨k.os.trans h.os, k.tape.trans h.tape, k.output.trans h.output, Nat.le_trans h.size k.size, fun i hi hF => (k.block i (Nat.lt_of_lt_of_le hi h.size) (by intro e; rcases e with e | e; exact hF e; omega)).trans (h.block i hi hF)⟩
theorem Upd.of_below {F : Nat → Prop} (h : Below w.heap.size w w') : Upd F w w' := ⟨h.os, h.tape, h.output, h.size, fun k hk _ => h.block k hk⟩
theorem Upd.mono {F F' : Nat → Prop} (h : Upd F w w') (hF : ∀ k, k < w.heap.size → F k → F' k) : Upd F' w w' := ⟨h.os, h.tape, h.output, h.size, fun k hk n => h.block k hk fun f => n (hF k hk f)⟩
theorem Upd.refl (F : Nat → Prop) (w : World) : Upd F w w := ⟨rfl, rfl, rfl, Nat.le_refl _, fun _ _ _ => rfl⟩
theorem Upd.below (h : Upd (fun _ => False) w w') : Below w.heap.size w w' := ⟨h.os, h.tape, h.output, h.size, fun k hk => h.block k hk id⟩

variable {M : Nat → SO → Prop}
/-- New blocks are made, nothing else. -/
theorem HSr.grow (h : HSr cx ρ M w) (hb : Below w.heap.size w w') : HSr cx ρ M w' := by
  have key : ∀ k o hv, M k o → ρ k = some hv → o.rep ρ w' hv ∧ ∀ j, o.fp w' hv j → o.fp w hv j := fun k o hv hk hr => by
    obtain ⟨hv', e, hrep⟩ := h.hp k o hk
    rw [hr] at e; cases e
    exact SO.keep hrep hb.size fun j hj => hb.block j (SO.inb hrep hj)
  refine ⟨fun k o hk => ?_, ?_, ?_, h.fr.trans (Upd.of_below hb), h.ag⟩
  · obtain ⟨hv, e, _⟩ := h.hp k o hk
    exact ⟨hv, e, (key k o hv hk e).1⟩
  · intro k k' o o' hv hv' j hk hk' hr hr' hne hm hf hf'
    exact h.dj k k' o o' hv hv' j hk hk' hr hr' hne hm ((key k o hv hk hr).2 j hf) ((key k' o' hv' hk' hr').2 j hf')
  · intro k o hv j hk hm hr hf
    exact h.ow k o hv j hk hm hr ((key k o hv hk hr).2 j hf)
theorem HSr.less {M' : Nat → SO → Prop} (h : HSr cx ρ M w) (hm : ∀ k o, M' k o → M k o) : HSr cx ρ M' w :=
  ⟨fun k o hk => h.hp k o (hm k o hk), fun k k' o o' hv hv' j hk hk' => h.dj k k' o o' hv hv' j (hm _ _ hk) (hm _ _ hk'), fun k o hv j hk => h.ow k o hv j (hm _ _ hk), h.fr, h.ag⟩

/-- A new handle. -/
theorem HSr.new (h : HSr cx ρ M w) (hn : ρ nx = none) {v : SV} {o : SO} {y : Value} (he : Eff ρ w nx (.new v o) y w') :
    ∃ hv, den (ρ.upd nx hv) v = some y ∧ HSr cx (ρ.upd nx hv) (fun k o' => M k o' ∨ (k = nx ∧ o' = o)) w' := by
  obtain ⟨hv, hd, hb, hrep, hfp⟩ := he
  have hle : ρ.le (ρ.upd nx hv) := Vl.le_upd hn
  have h' := h.grow hb
  have hno : ∀ o', ¬ M nx o' := fun o' hm => by
    obtain ⟨hv', e, _⟩ := h.hp nx o' hm
    rw [hn] at e; cases e
  have ne : ∀ {k o'}, M k o' → k ≠ nx := fun hm e => by subst e; exact hno _ hm
  have lt_old : ∀ k o' hv' j, M k o' → ρ k = some hv' → o'.fp w' hv' j → j < w.heap.size := fun k o' hv' j hk hr hf => by
    obtain ⟨hv'', e, hr0⟩ := h.hp k o' hk
    rw [hr] at e; cases e
    exact SO.inb hr0 ((SO.keep hr0 hb.size fun i hi => hb.block i (SO.inb hr0 hi)).2 j hf)
  refine ⟨hv, hd, ⟨fun k o' hk => ?_, ?_, ?_, h'.fr, Vl.le_trans h.ag hle⟩⟩
  · rcases hk with hk | ⟨rfl, rfl⟩
    · obtain ⟨hv', e1, e2⟩ := h'.hp k o' hk
      exact ⟨hv', hle _ _ e1, SO.mono hle e2⟩
    · exact ⟨hv, Vl.upd_same _ _ _, hrep⟩
  · intro k k' o1 o2 hv1 hv2 j hk hk' hr hr' hne hm hf hf'
    rcases hk with hk | ⟨rfl, rfl⟩
    · rw [Vl.upd_other _ _ (ne hk)] at hr
      rcases hk' with hk' | ⟨rfl, rfl⟩
      · rw [Vl.upd_other _ _ (ne hk')] at hr'
        exact h'.dj k k' o1 o2 hv1 hv2 j hk hk' hr hr' hne hm hf hf'
      · rw [Vl.upd_same] at hr'; cases hr'
        have := lt_old k o1 hv1 j hk hr hf
        have := (hfp j hf').1
        omega
    · rw [Vl.upd_same] at hr; cases hr
      rcases hk' with hk' | ⟨rfl, rfl⟩
      · rw [Vl.upd_other _ _ (ne hk')] at hr'
        have := lt_old k' o2 hv2 j hk' hr' hf'
        have := (hfp j hf).1
        omega
      · exact absurd rfl hne
  · intro k o1 hv1 j hk hm hr hf
    rcases hk with hk | ⟨rfl, rfl⟩
    · rw [Vl.upd_other _ _ (ne hk)] at hr
      exact h'.ow k o1 hv1 j hk hm hr hf
    · rw [Vl.upd_same] at hr; cases hr
      exact .inl (Nat.le_trans h.fr.size (hfp j hf).1)

/-- An object of the call's own is written. -/
theorem HSr.put (h : HSr cx ρ M w) {k0 : Nat} {o0 o1 : SO} {hv0 : Hv} (hk0 : M k0 o0) (hm0 : o0.mine = true) (hr0 : ρ k0 = some hv0) (hu : Upd (o0.fp w hv0) w w')
    (hrep : o1.rep ρ w' hv0) (hm1 : o1.mine = true) (hfp : ∀ k, o1.fp w' hv0 k → (o0.fp w hv0 k ∨ w.heap.size ≤ k) ∧ k < w'.heap.size) : HSr cx ρ (fun k o => (k ≠ k0 ∧ M k o) ∨ (k = k0 ∧ o = o1)) w' := by
  have other : ∀ k o hv, k ≠ k0 → M k o → ρ k = some hv → o.rep ρ w' hv ∧ ∀ j, o.fp w' hv j → o.fp w hv j := fun k o hv hne hk hr => by
    obtain ⟨hv', e, hrep'⟩ := h.hp k o hk
    rw [hr] at e; cases e
    exact SO.keep hrep' hu.size fun j hj => hu.block j (SO.inb hrep' hj) fun hj0 => h.dj k0 k o0 o hv0 hv j hk0 hk hr0 hr (Ne.symm hne) hm0 hj0 hj
  have lt_old : ∀ k o hv j, M k o → ρ k = some hv → o.fp w hv j → j < w.heap.size := fun k o hv j hk hr hf => by
    obtain ⟨hv', e, hr'⟩ := h.hp k o hk
    rw [hr] at e; cases e
    exact SO.inb hr' hf
  refine ⟨fun k o hk => ?_, ?_, ?_, ?_, h.ag⟩
  · rcases hk with ⟨e, hk⟩ | ⟨rfl, rfl⟩
    · obtain ⟨hv, e1, _⟩ := h.hp k o hk
      exact ⟨hv, e1, (other k o hv e hk e1).1⟩
    · exact ⟨hv0, hr0, hrep⟩
  · intro k k' o o' hv hv' j hk hk' hr hr' hne hm hf hf'
    rcases hk with ⟨e, hk⟩ | ⟨rfl, rfl⟩
    · have h1 := (other k o hv e hk hr).2 j hf
      rcases hk' with ⟨e', hk'⟩ | ⟨rfl, rfl⟩
      · exact h.dj k k' o o' hv hv' j hk hk' hr hr' hne hm h1 ((other k' o' hv' e' hk' hr').2 j hf')
      · rw [hr0] at hr'; cases hr'
        rcases (hfp j hf').1 with h3 | h3
        · exact h.dj k k' o o0 hv hv0 j hk hk0 hr hr0 hne hm h1 h3
        · have := lt_old k o hv j hk hr h1; omega
    · rw [hr0] at hr; cases hr
      rcases hk' with ⟨e', hk'⟩ | ⟨rfl, rfl⟩
      · have h2 := (other k' o' hv' e' hk' hr').2 j hf'
        rcases (hfp j hf).1 with h3 | h3
        · exact h.dj k k' o0 o' hv0 hv' j hk0 hk' hr0 hr' hne hm0 h3 h2
        · have := lt_old k' o' hv' j hk' hr' h2; omega
      · exact absurd rfl hne
  · intro k o hv j hk hm hr hf
    rcases hk with ⟨e, hk⟩ | ⟨rfl, rfl⟩
    · exact h.ow k o hv j hk hm hr ((other k o hv e hk hr).2 j hf)
    · rw [hr0] at hr; cases hr
      rcases (hfp j hf).1 with h3 | h3
      · exact h.ow k o0 hv0 j hk0 hm0 hr0 h3
      · exact .inl (Nat.le_trans h.fr.size h3)
  · refine h.fr.trans (hu.mono fun k hk hf => ?_)
    rcases h.ow k0 o0 hv0 k hk0 hm0 hr0 hf with h1 | h1
    · exact .inr h1
    · exact .inl h1

/-- An object of the call's own goes over into another one, with a handle of its own. -/
theorem HSr.mv (h : HSr cx ρ M w) {k0 : Nat} {o0 o1 : SO} {hv0 hv1 : Hv} (hn : ρ nx = none) (hk0 : M k0 o0) (hm0 : o0.mine = true) (hr0 : ρ k0 = some hv0) (hu : Upd (o0.fp w hv0) w w')
    (hrep : o1.rep (ρ.upd nx hv1) w' hv1) (hm1 : o1.mine = true) (hfp : ∀ k, o1.fp w' hv1 k → (o0.fp w hv0 k ∨ w.heap.size ≤ k) ∧ k < w'.heap.size) : HSr cx (ρ.upd nx hv1) (fun k o => (k ≠ k0 ∧ M k o) ∨ (k = nx ∧ o = o1)) w' := by
  have hle : ρ.le (ρ.upd nx hv1) := Vl.le_upd hn
  have other : ∀ k o hv, k ≠ k0 → M k o → ρ k = some hv → o.rep ρ w' hv ∧ ∀ j, o.fp w' hv j → o.fp w hv j := fun k o hv hne hk hr => by
    obtain ⟨hv', e, hrep'⟩ := h.hp k o hk
    rw [hr] at e; cases e
    exact SO.keep hrep' hu.size fun j hj => hu.block j (SO.inb hrep' hj) fun hj0 => h.dj k0 k o0 o hv0 hv j hk0 hk hr0 hr (Ne.symm hne) hm0 hj0 hj
  have lt_old : ∀ k o hv j, M k o → ρ k = some hv → o.fp w hv j → j < w.heap.size := fun k o hv j hk hr hf => by
    obtain ⟨hv', e, hr'⟩ := h.hp k o hk
    rw [hr] at e; cases e
    exact SO.inb hr' hf
  have ne : ∀ {k o'}, M k o' → k ≠ nx := fun {k o'} hm e => by
    subst e
    obtain ⟨hv', e, _⟩ := h.hp _ o' hm
    rw [hn] at e; cases e
  refine ⟨fun k o hk => ?_, ?_, ?_, ?_, Vl.le_trans h.ag hle⟩
  · rcases hk with ⟨e, hk⟩ | ⟨rfl, rfl⟩
    · obtain ⟨hv, e1, _⟩ := h.hp k o hk
      exact ⟨hv, hle _ _ e1, SO.mono hle (other k o hv e hk e1).1⟩
    · exact ⟨hv1, Vl.upd_same _ _ _, hrep⟩
  · intro k k' o o' hv hv' j hk hk' hr hr' hne hm hf hf'
    rcases hk with ⟨e, hk⟩ | ⟨rfl, rfl⟩
    · rw [Vl.upd_other _ _ (ne hk)] at hr
      have h1 := (other k o hv e hk hr).2 j hf
      rcases hk' with ⟨e', hk'⟩ | ⟨rfl, rfl⟩
      · rw [Vl.upd_other _ _ (ne hk')] at hr'
        exact h.dj k k' o o' hv hv' j hk hk' hr hr' hne hm h1 ((other k' o' hv' e' hk' hr').2 j hf')
      · rw [Vl.upd_same] at hr'; cases hr'
        rcases (hfp j hf').1 with h3 | h3
        · exact h.dj k k0 o o0 hv hv0 j hk hk0 hr hr0 e hm h1 h3
        · have := lt_old k o hv j hk hr h1; omega
    · rw [Vl.upd_same] at hr; cases hr
      rcases hk' with ⟨e', hk'⟩ | ⟨rfl, rfl⟩
      · rw [Vl.upd_other _ _ (ne hk')] at hr'
        have h2 := (other k' o' hv' e' hk' hr').2 j hf'
        rcases (hfp j hf).1 with h3 | h3
        · exact h.dj k0 k' o0 o' hv0 hv' j hk0 hk' hr0 hr' (Ne.symm e') hm0 h3 h2
        · have := lt_old k' o' hv' j hk' hr' h2; omega
      · exact absurd rfl hne
  · intro k o hv j hk hm hr hf
    rcases hk with ⟨e, hk⟩ | ⟨rfl, rfl⟩
    · rw [Vl.upd_other _ _ (ne hk)] at hr
      exact h.ow k o hv j hk hm hr ((other k o hv e hk hr).2 j hf)
    · rw [Vl.upd_same] at hr; cases hr
      rcases (hfp j hf).1 with h3 | h3
      · exact h.ow k0 o0 hv0 j hk0 hm0 hr0 h3
      · exact .inl (Nat.le_trans h.fr.size h3)
  · refine h.fr.trans (hu.mono fun k hk hf => ?_)
    rcases h.ow k0 o0 hv0 k hk0 hm0 hr0 hf with h1 | h1
    · exact .inr h1
    · exact .inl h1

theorem HS.grow (h : HS cx ρ H nx w) (hb : Below w.heap.size w w') : HS cx ρ H nx w' := ⟨h.r.grow hb, h.nx⟩
theorem HS.new (h : HS cx ρ H nx w) {v : SV} {o : SO} {y : Value} (he : Eff ρ w nx (.new v o) y w') :
    ∃ ρ', ρ.le ρ' ∧ den ρ' v = some y ∧ HS cx ρ' ((nx, o) :: H) (nx + 1) w' := by
  have hn := h.nx nx (Nat.le_refl _)
  obtain ⟨hv, hd, hs⟩ := h.r.new hn he
  refine ⟨ρ.upd nx hv, Vl.le_upd hn, hd, ⟨hs.less fun k o' hk => ?_, fun k hk => ?_⟩⟩
  · by_cases e : k = nx
    · subst e; rw [lk_cons_same] at hk; cases hk; exact .inr ⟨rfl, rfl⟩
    · rw [lk_cons_other _ _ e] at hk; exact .inl hk
  · rw [Vl.upd_other _ _ (by omega)]
    exact h.nx k (by omega)
theorem HS.put (h : HS cx ρ H nx w) {k0 : Nat} {o0 o1 : SO} {hv0 : Hv} (hk0 : lk k0 H = some o0) (hm0 : o0.mine = true) (hr0 : ρ k0 = some hv0) (hu : Upd (o0.fp w hv0) w w')
    (hrep : o1.rep ρ w' hv0) (hm1 : o1.mine = true) (hfp : ∀ k, o1.fp w' hv0 k → (o0.fp w hv0 k ∨ w.heap.size ≤ k) ∧ k < w'.heap.size) : HS cx ρ (rp k0 o1 H) nx w' := by
  refine ⟨(h.r.put hk0 hm0 hr0 hu hrep hm1 hfp).less fun k o hk => ?_, h.nx⟩
  by_cases e : k = k0
  · subst e; rw [lk_rp_same hk0] at hk; cases hk; exact .inr ⟨rfl, rfl⟩
  · rw [lk_rp_other e] at hk; exact .inl ⟨e, hk⟩
/-- An entry taken out. -/
def rmH : Nat → List (Nat × SO) → List (Nat × SO)
  | _, [] => []
  | t, (u, v) :: r => bif Nat.beq t u then rmH t r else (u, v) :: rmH t r
theorem lk_rmH {t u : Nat} {o : SO} : ∀ {H : List (Nat × SO)}, lk u (rmH t H) = some o → u ≠ t ∧ lk u H = some o
  | [], h => by cases h
  | (k, v) :: r, h => by
    simp only [rmH] at h
    cases e : Nat.beq t k with
    | true =>
      have := Nat.eq_of_beq_eq_true e
      subst this
      rw [e, cond_true] at h
      obtain ⟨h1, h2⟩ := lk_rmH h
      exact ⟨h1, by rw [lk_cons_other _ _ h1]; exact h2⟩
    | false =>
      rw [e, cond_false] at h
      by_cases e2 : u = k
      · subst e2
        rw [lk_cons_same] at h ⊢
        exact ⟨(by rintro rfl; rw [Nat.beq_refl] at e; cases e), h⟩
      · rw [lk_cons_other _ _ e2] at h ⊢
        exact lk_rmH h
theorem HS.mv (h : HS cx ρ H nx w) {k0 : Nat} {o0 o1 : SO} {hv0 hv1 : Hv} {v : SV} {y : Value} (hd : den (ρ.upd nx hv1) v = some y) (hk0 : lk k0 H = some o0) (hm0 : o0.mine = true) (hr0 : ρ k0 = some hv0) (hu : Upd (o0.fp w hv0) w w')
    (hrep : o1.rep (ρ.upd nx hv1) w' hv1) (hm1 : o1.mine = true) (hfp : ∀ k, o1.fp w' hv1 k → (o0.fp w hv0 k ∨ w.heap.size ≤ k) ∧ k < w'.heap.size) :
    ∃ ρ', ρ.le ρ' ∧ den ρ' v = some y ∧ HS cx ρ' ((nx, o1) :: rmH k0 H) (nx + 1) w' := by
  have hn := h.nx nx (Nat.le_refl _)
  refine ⟨ρ.upd nx hv1, Vl.le_upd hn, hd, ⟨(h.r.mv hn hk0 hm0 hr0 hu hrep hm1 hfp).less fun k o hk => ?_, fun k hk => ?_⟩⟩
  · by_cases e : k = nx
    · subst e; rw [lk_cons_same] at hk; cases hk; exact .inr ⟨rfl, rfl⟩
    · rw [lk_cons_other _ _ e] at hk; exact .inl (lk_rmH hk)
  · rw [Vl.upd_other _ _ (by omega)]
    exact h.nx k (by omega)
end

def rmT (t : Nat) : List (Nat × SV) → List (Nat × SV)
  | [] => []
  | (u, v) :: r => bif Nat.beq t u then rmT t r else (u, v) :: rmT t r
theorem lk_rmT {t u : Nat} : ∀ {T : List (Nat × SV)}, u ≠ t → lk u (rmT t T) = lk u T
  | [], _ => rfl
  | (k, v) :: r, h => by
    simp only [rmT]
    cases e : Nat.beq t k with
    | true =>
      have := Nat.eq_of_beq_eq_true e
      subst this
      simp only [cond_true]
      rw [lk_cons_other _ _ h, lk_rmT h]
    | false =>
      simp only [cond_false]
      by_cases e2 : u = k
      · subst e2; rw [lk_cons_same, lk_cons_same]
      · rw [lk_cons_other _ _ e2, lk_cons_other _ _ e2, lk_rmT h]
theorem lk_rmT_same {t : Nat} : ∀ {T : List (Nat × SV)}, lk t (rmT t T) = none
  | [] => rfl
  | (k, v) :: r => by
    simp only [rmT]
    cases e : Nat.beq t k with
    | true => simp only [cond_true]; exact lk_rmT_same
    | false =>
      simp only [cond_false]
      rw [lk_cons_other _ _ (by rintro rfl; rw [Nat.beq_refl] at e; cases e)]
      exact lk_rmT_same

theorem TS.mono {ρ ρ' : Vl} (hl : ρ.le ρ') {T : List (Nat × SV)} {G : List (Nat × (List (Nat × Bool) × SV))} {n : Nat} {tm : Array Value} (h : TS ρ T G n tm) : TS ρ' T G n tm :=
  ⟨h.sz, fun t v hg hv => let ⟨y, h1, h2⟩ := h.vs t v hg hv; ⟨y, h1, den_mono hl _ _ h2⟩, fun t ids v hg => ⟨fun hi => let ⟨y, h1, h2⟩ := (h.gd t ids v hg).1 hi; ⟨y, h1, den_mono hl _ _ h2⟩, (h.gd t ids v hg).2⟩⟩
end Go.Sx
