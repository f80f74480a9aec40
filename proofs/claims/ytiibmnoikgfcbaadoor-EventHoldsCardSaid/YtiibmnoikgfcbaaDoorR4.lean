/- Read (function 10), up to where its bytes come to be read. -/
import Derived.Test.YtiibmnoikgfcbaaDoorR3
namespace Go.Proofs.YtiibmnoikgfcbaaDoor
open Go Go.Sx Go.RowKit
set_option maxRecDepth 100000
set_option maxHeartbeats 1000000
set_option linter.unusedVariables false
set_option linter.unusedSimpArgs false

def tailC : Option Code → Code
  | some (.seq _ (.seq _ r)) => r
  | _ => .skip
def readT : List (Nat × SV) := [(10, .f (.func 31) [] [.p 1 0, .p 2 0]), (4, .p 3 0), (3, .p 2 0), (2, .p 1 0), (0, .r 0)]
def readH (n : Nat) (get : Nat → List SV) : List (Nat × SO) := [(3, .cells [.n .i64 0] 31), (2, .cells [.n .i64 0] 3), (1, .cells noEv 28), (0, .row 1 n get)]
def noV (code : Int) : Value := .tuple #[.agg #[.int .i64 0, .int .i64 0, .int .i64 0, .int .i64 0, .int .u32 0, .int .i64 0, .int .i64 0, .int .i64 0, .int .i64 0], .int .i64 0, .int .i64 code]
def PanH (H : List (Nat × SO)) : Prop := ∃ c0 c1 c2 c3 c4 c5 c6 c7 c8 m e0, lk 1 H = some (.cells [c0, c1, c2, c3, c4, c5, c6, c7, c8] 28) ∧ lk 2 H = some (.cells [m] 3) ∧ lk 3 H = some (.cells [e0] 31)
def PanT (T : List (Nat × SV)) : Prop := lk 2 T = some (.p 1 0) ∧ lk 3 T = some (.p 2 0) ∧ lk 4 T = some (.p 3 0)
/-- What is asked at the end of Read's body. -/
def ReadK (tb : Tab) (y : Value) (e : Exit) (s : St) : Prop :=
  match e with
  | .ret => match xres tb s Tryd.f10.results.toList with
    | some v => shut v = some y
    | none => False
  | .panic c => (∃ code, c = [{ v := .iface 31 (.int .i64 code), recovered := false }] ∧ y = noV code) ∧ PanH s.H ∧ PanT s.T ∧ s.G = [] ∧ s.n = 57
  | _ => False

theorem wp_defer1 {P : Program} {Q : Exit → Act → World → Prop} {a : Act} {w : World} {id d g t1 t2 : Nat} {fn : Fn} {u v : Nat} {x1 : Operand} {ps ps' : String} {af af' : Array Edge} {at_ : Array Nat}
    (h : Q .normal { tmps := (a.put (some d) (.func fn #[] #[a.eval (.tmp u), a.eval (.tmp v)])).tmps, defers := { target := .fn (.func g) #[], args := #[] ++ #[(a.put (some d) (.func fn #[] #[a.eval (.tmp u), a.eval (.tmp v)])).eval x1, (a.put (some d) (.func fn #[] #[a.eval (.tmp u), a.eval (.tmp v)])).eval (.tmp d)] } :: (a.put (some d) (.func fn #[] #[a.eval (.tmp u), a.eval (.tmp v)])).defers } w) :
    (Code.region id #[{ dst := some d, op := .makeFunc fn #[] #[.tmp u, .tmp v], type := t1, pos := ps, after := af, guard := none }, { dst := none, op := .defer { callee := .value (.func g), args := #[x1, .tmp d], argTypes := at_ }, type := t2, pos := ps', after := af', guard := none }] false).wp P Q a w := by
  have hr1 : (execOp a.eval { dst := some d, op := .makeFunc fn #[] #[.tmp u, .tmp v], type := t1, pos := ps, after := af, guard := none }).run P w = .ok (.value (.func fn #[] #[a.eval (.tmp u), a.eval (.tmp v)])) w := by
    have e : ∀ (b c : Array Value), (Instr.makeFunc fn b c).run P w = .ok (.func fn b c) w := fun _ _ => rfl
    simp [execOp, e]
  have hr2 : ∀ b : Act, (execOp b.eval { dst := none, op := .defer { callee := .value (.func g), args := #[x1, .tmp d], argTypes := at_ }, type := t2, pos := ps', after := af', guard := none }).run P w = .ok (.defer { target := .fn (.func g) #[], args := #[] ++ #[b.eval x1, b.eval (.tmp d)] }) w := fun b => by
    simp [execOp, resolve, Deferred.ofValue, Act.eval]
  refine wp_region ?_
  show wpOps P _ Q [0, 1] a w
  simp only [wpOps, List.getElem?_toArray, List.getElem?_cons_zero, List.getElem?_cons_succ, Region.wanted, if_true]
  refine .inl ?_
  unfold Oper.wp
  rw [hr1]
  refine .inl ?_
  rw [hr2]
  exact h
theorem read_run {tb : Tab} (hP : TabOk Tryd.prog tb) {C : CH} (hC : COk Tryd.prog C) {n : Nat} {get : Nat → List SV} {x : Value} (y : Value) (h : wpx Tryd.prog tb C (tailC Tryd.f10.body) ⟨readT, [], readH n get, 4, 57⟩ (ReadK tb y)) (w : World) (hx : RowV w 1 n get x) :
    Calls Tryd.prog 10 #[x] w fun e w' => e = .returned y ∧ Below w.heap.size w w' := by
  obtain ⟨a, c, rfl, hc, hr⟩ := hx.is
  have hs0 := HS.startR w hc hr
  have hsat : Sat ⟨w, fun _ => False, Vl.none.upd 0 (.rw a n c), []⟩ (Vl.none.upd 0 (.rw a n c)) ⟨[(0, .r 0)], [], [(0, .row 1 n get)], 1, 57⟩ { tmps := #[.slice a n c] ++ Array.replicate (57 - 1) undef, defers := [] } w := by
    have := sat_enter hs0 (vs := [.r 0]) (xs := [.slice a n c]) (denL_mk (by simp only [den, Vl.upd_same]) rfl) (n := 57) (by simp)
    exact ⟨hs0, this.ts, rfl⟩
  refine calls_of_wp_defers Tryd.func10 rfl ?_
  refine wp_seq ?_
  -- the results' cells
  refine wpx_ok (tb := tabK) tabK_ok (CI_ok tabK_ok 5) _ (K := fun e s => e = .normal ∧ s = ⟨[(4, .p 3 0), (3, .p 2 0), (2, .p 1 0), (0, .r 0)], [], readH n get, 4, 57⟩) (by (conv => whnf); exact ⟨rfl, rfl⟩) _ _ _ _ hsat _ ?_
  rintro e ρ1 s1 a1 w1 ⟨rfl, rfl⟩ hs1
  refine wp_seq (wp_defer1 ?_)
  have e2 := ev_ok hs1.ts (ids := []) (fun e he => by cases he) (.tmp 2) (.p 1 0) rfl
  have e3 := ev_ok hs1.ts (ids := []) (fun e he => by cases he) (.tmp 3) (.p 2 0) rfl
  have hf : den ρ1 (.f (.func 31) [] [.p 1 0, .p 2 0]) = some (.func (.func 31) #[] #[a1.eval (.tmp 2), a1.eval (.tmp 3)]) := by
    simp only [den, denL] at e2 e3 ⊢
    rw [e2, e3]
  obtain ⟨s2, h2, hs2⟩ := put_ok (s := ⟨[(4, .p 3 0), (3, .p 2 0), (2, .p 1 0), (0, .r 0)], [], readH n get, 4, 57⟩) (ids := []) (d := some 10) (v := .f (.func 31) [] [.p 1 0, .p 2 0]) (K := fun s => s = ⟨readT, [], readH n get, 4, 57⟩) rfl hs1.hs hs1.ts hs1.df (fun _ => hf) (fun n => absurd (fun e he => by cases he) n)
  subst h2
  generalize hb : a1.put (some 10) (.func (.func 31) #[] #[a1.eval (.tmp 2), a1.eval (.tmp 3)]) = b at hs2 ⊢
  have x4 := ev_ok hs2.ts (ids := []) (fun e he => by cases he) (.tmp 4) (.p 3 0) rfl
  have x10 := ev_ok hs2.ts (ids := []) (fun e he => by cases he) (.tmp 10) (.f (.func 31) [] [.p 1 0, .p 2 0]) rfl
  have hbd : b.defers = [] := hs2.df
  have key : wpx Tryd.prog tb C (tailC Tryd.f10.body) ⟨readT, [], readH n get, 4, 57⟩ (ReadK tb y) := h
  have hs3 : Sat ⟨w, fun _ => False, ρ1, { target := .fn (.func 30) #[], args := #[] ++ #[b.eval (.tmp 4), b.eval (.tmp 10)] } :: b.defers⟩ ρ1 ⟨readT, [], readH n get, 4, 57⟩ { tmps := b.tmps, defers := { target := .fn (.func 30) #[], args := #[] ++ #[b.eval (.tmp 4), b.eval (.tmp 10)] } :: b.defers } w1 :=
    ⟨⟨⟨hs2.hs.r.hp, hs2.hs.r.dj, hs2.hs.r.ow, hs2.hs.r.fr, Vl.le_refl _⟩, hs2.hs.nx⟩, hs2.ts, rfl⟩
  refine wpx_ok hP hC (tailC Tryd.f10.body) key _ _ _ _ hs3 _ ?_
  intro e ρ2 s' a' w2 hk hs'
  have hdf : a'.defers = { target := .fn (.func 30) #[], args := #[] ++ #[b.eval (.tmp 4), b.eval (.tmp 10)] } :: b.defers := hs'.df
  rw [hbd] at hdf
  have hs4 : HS ⟨w, fun _ => False, ρ1, []⟩ ρ2 s'.H s'.nx w2 := ⟨⟨hs'.hs.r.hp, hs'.hs.r.dj, hs'.hs.r.ow, hs'.hs.r.fr, hs'.hs.r.ag⟩, hs'.hs.nx⟩
  have y4 := den_mono hs4.ag _ _ x4
  have y10 := den_mono hs4.ag _ _ x10
  have hin : (invoke (.fn (.func 30) #[]) (#[] ++ #[b.eval (.tmp 4), b.eval (.tmp 10)])).run Tryd.prog w2 = .ok (.enter 30 #[b.eval (.tmp 4), b.eval (.tmp 10)]) w2 := by
    have := enters_mem fnsL_ok 30 rfl #[b.eval (.tmp 4), b.eval (.tmp 10)] w2
    simp only [invoke, Array.append_empty, Array.empty_append]
    exact this
  -- results, read behind what was deferred
  have fin : ∀ {tb : Tab} (hP : TabOk Tryd.prog tb) (s : St) (ρ3 : Vl) (w3 : World) (v : SV), HS ⟨w, fun _ => False, ρ1, []⟩ ρ3 s.H s.nx w3 → TS ρ3 s.T s.G s.n a'.tmps → xres tb s Tryd.f10.results.toList = some v → shut v = some y → Leaves Tryd.prog Tryd.f10 a'.tmps (fun e w' => e = .returned y ∧ Below w.heap.size w w') [] .returning w3 := fun {tb} hP s ρ3 w3 v hs hts hv hy => by
    obtain ⟨z, q1, q2⟩ := results_ok hP (cx := ⟨w, fun _ => False, ρ1, []⟩) (ρ := ρ3) (s := s) (a := { tmps := a'.tmps, defers := [] }) (w := w3) ⟨hs, hts, rfl⟩ hv
    have := den_mono (Vl.none_le ρ3) _ _ hy
    rw [q1] at this
    cases this
    exact ⟨_, q2, rfl, hs.fr.below⟩
  cases e with
  | ret =>
    simp only [ReadK] at hk
    split at hk
    case h_2 => exact hk.elim
    rename_i v hv
    show Leaves Tryd.prog Tryd.f10 a'.tmps _ a'.defers .returning w2
    rw [hdf]
    refine leaves_cons (f := 30) (by simp) hin ?_
    refine (caught_idle hs4 y4 y10).mono ?_
    rintro e u' w3 ⟨⟨z, rfl⟩, rfl, ρ3, hle, hs5⟩
    exact fin hP s' ρ3 w3 v hs5 (hs'.ts.mono hle) hv hk
  | panic ch =>
    obtain ⟨⟨code, rfl, rfl⟩, ⟨c0, c1, c2, c3, c4, c5, c6, c7, c8, m, e0, l1, l2, l3⟩, ⟨t2, t3, t4⟩, hG, hn57⟩ := hk
    show Leaves Tryd.prog Tryd.f10 a'.tmps _ a'.defers (.panicking _) w2
    rw [hdf]
    refine leaves_cons (f := 30) (by simp) hin ?_
    have hs5 : HS ⟨w, fun _ => False, ρ1, []⟩ ρ2 [(1, .cells [c0, c1, c2, c3, c4, c5, c6, c7, c8] 28), (2, .cells [m] 3), (3, .cells [e0] 31)] s'.nx w2 := HS.less hs4 fun k o hl => by
      by_cases e1 : k = 1
      · subst e1; rw [lk_cons_same] at hl; rw [l1]; exact hl
      · rw [lk_cons_other _ _ e1] at hl
        by_cases e2 : k = 2
        · subst e2; rw [lk_cons_same] at hl; rw [l2]; exact hl
        · rw [lk_cons_other _ _ e2] at hl
          by_cases e3 : k = 3
          · subst e3; rw [lk_cons_same] at hl; rw [l3]; exact hl
          · rw [lk_cons_other _ _ e3] at hl; cases hl
    refine (caught_p code hs5 y4 y10).mono ?_
    rintro e u' w3 ⟨⟨z, rfl⟩, rfl, ρ3, hle, hs6⟩
    refine fin tabK_ok ⟨[(2, .p 1 0), (3, .p 2 0), (4, .p 3 0)], [], _, s'.nx, 57⟩ ρ3 w3 (.tu [.ag noEv, .n .i64 0, .i .i64 code]) hs6 ⟨?_, fun t v _ hl => ?_, fun _ _ _ hm => by cases hm⟩ ?_ rfl
    · exact hs'.ts.sz.trans hn57
    · have ts := hs'.ts.mono hle
      have get : lk t s'.T = some v := by
        by_cases e1 : t = 2
        · subst e1; rw [lk_cons_same] at hl; rw [t2]; exact hl
        · rw [lk_cons_other _ _ e1] at hl
          by_cases e2 : t = 3
          · subst e2; rw [lk_cons_same] at hl; rw [t3]; exact hl
          · rw [lk_cons_other _ _ e2] at hl
            by_cases e3 : t = 4
            · subst e3; rw [lk_cons_same] at hl; rw [t4]; exact hl
            · rw [lk_cons_other _ _ e3] at hl; cases hl
      exact ts.vs t v (by rw [hG]; rfl) get
    · rfl
  | normal => exact hk.elim
  | exit id => exact hk.elim
  | goto l => exact hk.elim
  | outgrown => exact hk.elim

/-! ### where the first byte names no kind -/
noncomputable def inlR : List (Nat × Func) := (32, Tryd.f32) :: (33, Tryd.f33) :: (64, Tryd.f64) :: inlA
theorem inlR_ok : inlAll Tryd.prog inlR := ⟨Tryd.func32, Tryd.func33, Tryd.func64, inlA_ok⟩
noncomputable def tabRd : Tab := mkTab tiRows eqL fnsL [] inlR 20 [(34, sumRight), (65, sum65), (91, sum91)]
theorem tabRd_ok : TabOk Tryd.prog tabRd := mkTab_ok (by kernel_rfl) tiRows_ok eqL_ok fnsL_ok inlR_ok ⟨sumRight_ok, sum65_ok, sum91_ok, trivial⟩
theorem bytesG_rowB {n : Nat} {g : Nat → Int} (h : ∀ i, i < n → 0 ≤ g i ∧ g i < 256) : BytesG n (rowB g) := fun i hi => ⟨(g i).toNat, by have := h i hi; omega, .inl (by have := h i hi; show [SV.i .u8 (g i)] = _; congr 2; omega)⟩
theorem bytesG_at {n : Nat} {g : Nat → Int} (h : ∀ i, i < n → 0 ≤ g i ∧ g i < 256) (lo m : Nat) (hm : lo + m ≤ n) : BytesG m fun i => rowB g (lo + i) := fun i hi => bytesG_rowB h (lo + i) (by omega)
theorem readNone_c (g : Nat → Int) (n : Nat) (hb : ∀ i, i < n → 0 ≤ g i ∧ g i < 256) (hn : 0 < n) (hm : n ≤ maxLen) (hk : g 0 = 0 ∨ 14 < g 0) (x : Value) (w : World) (hx : RowV w 1 n (rowB g) x) : Calls Tryd.prog 10 #[x] w fun e w' => e = .returned (noV 260) ∧ Below w.heap.size w w' := by
  refine read_run tabRd_ok (CI_ok tabRd_ok 8) (n := n) (get := rowB g) (noV 260) ?_ w hx
  conv => whnf
  refine And.intro (by (conv => whnf); exact Nat.zero_le _) ?_
  conv => whnf
  refine And.intro (by
    (conv => whnf)
    exact ⟨by show 0 + (n - 0) ≤ n; omega, bytesG_at hb 0 _ (by omega), by show n - 0 ≤ maxLen; omega⟩) ?_
  have hs : shortB (n - 0) 1 = false := by simp only [shortB, decide_eq_false_iff_not]; omega
  have kv : IntKind.i64.wrap (bif shortB (n - 0) 1 then 0 else leN (gI fun i => rowB g (0 + i)) 1) = g 0 := by
    rw [hs, IntKind.wrap_i64]
    have := hb 0 hn
    simp [leN, gI, numAt, rowB]
    omega
  conv => whnf
  refine And.intro (fun h => by rw [hs] at h; exact absurd h (by decide)) (fun _ => ?_)
  conv => whnf
  refine And.intro (by
    (conv => whnf)
    simp only [absent, kv, and_true]
    omega) ?_
  conv => whnf
  exact ⟨⟨260, rfl, rfl⟩, ⟨_, _, _, _, _, _, _, _, _, _, _, rfl, rfl, rfl⟩, ⟨rfl, rfl, rfl⟩, rfl, rfl⟩
def sumReadN : Sum := fun args H _ => match args with
  | [v] => match src2 H v with
    | some (p, n, g) => some (.ob (p ∧ BytesG n g ∧ n ≤ maxLen ∧ 0 < n ∧ (gI g 0 = 0 ∨ 14 < gI g 0)) (.val (.tu [.ag noEv, .n .i64 0, .n .i64 260])))
    | none => none
  | _ => none
theorem sumReadN_ok : SumOk1 Tryd.prog 10 sumReadN := by
  intro args H nx out ho ρ w xs hH hd hn
  unfold sumReadN at ho
  split at ho
  case h_2 => cases ho
  rename_i v
  split at ho
  case h_2 => cases ho
  rename_i p n g hs
  cases ho
  rintro ⟨hp, hb, hm, h0, hk⟩
  obtain ⟨x, r, rfl, h1, h2⟩ := denL_cons hd
  cases h2
  exact (readNone_c (gI g) n (fun i hi => (bytesG_num hb i hi).2) h0 hm hk x w (src_row hH h1 hs hp hb hm)).mono fun e w' ⟨q1, q2⟩ => ⟨_, q1, rfl, q2⟩
end Go.Proofs.YtiibmnoikgfcbaaDoor
