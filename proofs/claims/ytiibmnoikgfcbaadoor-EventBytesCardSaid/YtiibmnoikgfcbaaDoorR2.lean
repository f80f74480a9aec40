/- A number read by the reader's closure (function 65); bytes from a place on (function 91). What is deferred (function 30): where nothing was given up, and where it was, with an error's number. Read (function 10), up to where its bytes come to be read. -/
import Derived.Test.YtiibmnoikgfcbaaDoorR1
import Derived.Recover
namespace Go.Proofs.YtiibmnoikgfcbaaDoor
open Go Go.Sx Go.RowKit
set_option maxRecDepth 100000
set_option maxHeartbeats 1000000
set_option linter.unusedVariables false
set_option linter.unusedSimpArgs false

theorem num65_c (k : Int) (x : Value) (b : Nat) (w : World) (hc : w.cell? ⟨b, 0, none⟩ = some (.int .i64 k)) (u v : Value)
    (h66 : Calls Tryd.prog 66 #[x, .int .i64 k] w fun e w' => e = .returned (.tuple #[u, v]) ∧ Below w.heap.size w w') :
    Calls Tryd.prog 65 #[x, .pointer (some ⟨b, 0, none⟩)] w fun e w' => e = .returned (.tuple #[u, v]) ∧ Below w.heap.size w w' := by
  go_enter Tryd.func65, Tryd.ntmps65
  go_wp2_with (go_at_fn 66; fail)
  refine h66.mono ?_
  rintro e w' ⟨rfl, hb⟩
  go_wp2
  go_ret2
  exact ⟨rfl, hb⟩
theorem from91_c (a : Option Addr) (n c k : Nat) (hk : k ≤ n) (hc : n ≤ c) (w : World) : Calls Tryd.prog 91 #[.agg #[.slice a n c], .int .i64 k] w fun e w' => e = .returned (.slice (if c = k then a else a.map (·.add (k * 1))) (n - k) (c - k)) ∧ Below w.heap.size w w' := by
  go_enter Tryd.func91, Tryd.ntmps91
  go_wp2
  all_goals go_ret
  all_goals exact ⟨by simp [*], (Below.refl _ w).alloc (Nat.le_refl _) _⟩

/-! ### summaries -/
def sum91 : Sum := fun args H _ => match args with
  | [.ag [.r h], .n .i64 (.ofNat k)] => match (lk h H).bind rowOf with
    | some (1, n, _) => some (.ob (k ≤ n) (.val (.rs h k (n - k) 1)))
    | _ => none
  | _ => none
theorem sum91_ok : SumOk1 Tryd.prog 91 sum91 := by
  intro args H nx out ho ρ w xs hH hd hn
  unfold sum91 at ho
  split at ho
  case h_2 => cases ho
  rename_i h k
  split at ho
  case h_2 => cases ho
  rename_i n g hl
  cases ho
  intro hk
  obtain ⟨a, c, hr, hrow⟩ := row_lk hH hl
  have e : xs = [.agg #[.slice a n c], .int .i64 (k : Int)] := by
    simp only [denL, den, hr, Option.some.injEq] at hd
    exact hd.symm
  subst e
  exact (from91_c a n c k hk hrow.le w).mono fun e w' ⟨q1, q2⟩ => ⟨_, q1, by simp only [den, hr], q2⟩

def sum65 : Sum := fun args H _ => match args with
  | [v, .p h 0] => match lk h H, src2 H v with
    | some (.cells [.n .i64 (.ofNat 1)] _), some (p, m, g) => some (.ob (p ∧ BytesG m g ∧ m ≤ maxLen) (.val (.tu [.i .u64 (bif shortB m 1 then 0 else leN (gI g) 1), .i .i64 (bif shortB m 1 then 110 else 0)])))
    | some (.cells [.n .i64 (.ofNat 2)] _), some (p, m, g) => some (.ob (p ∧ BytesG m g ∧ m ≤ maxLen) (.val (.tu [.i .u64 (bif shortB m 2 then 0 else leN (gI g) 2), .i .i64 (bif shortB m 2 then 110 else 0)])))
    | some (.cells [.n .i64 (.ofNat 4)] _), some (p, m, g) => some (.ob (p ∧ BytesG m g ∧ m ≤ maxLen) (.val (.tu [.i .u64 (bif shortB m 4 then 0 else leN (gI g) 4), .i .i64 (bif shortB m 4 then 110 else 0)])))
    | _, _ => none
  | _ => none
theorem sum65_ok : SumOk1 Tryd.prog 65 sum65 := by
  intro args H nx out ho ρ w xs hH hd hn
  unfold sum65 at ho
  split at ho
  case h_2 => cases ho
  rename_i v h
  obtain ⟨x, r, rfl, h1, h2⟩ := denL_cons hd
  obtain ⟨y, r, rfl, h3, h4⟩ := denL_cons h2
  cases h4
  have cell : ∀ k t, lk h H = some (.cells [.n .i64 (.ofNat k)] t) → ∃ b, y = .pointer (some ⟨b, 0, none⟩) ∧ w.cell? ⟨b, 0, none⟩ = some (.int .i64 (k : Int)) := fun k t hl => by
    obtain ⟨hv, hr, hrep⟩ := hH h _ hl
    cases hv with
    | rw a n c => exact hrep.elim
    | blk b =>
      obtain ⟨cs, q1, q2⟩ := hrep
      cases q1
      simp only [den, hr, Option.some.injEq] at h3
      exact ⟨b, h3.symm, by simp [World.cell?, q2]⟩
  split at ho
  case h_4 => cases ho
  all_goals
    rename_i t p m g hl hs
    cases ho
    rintro ⟨hp, hb, hm⟩
    have hrow := src_row hH h1 hs hp hb hm
    obtain ⟨b, rfl, hc⟩ := cell _ _ hl
    have hb' : ∀ i, i < m → 0 ≤ gI g i ∧ gI g i < 256 := fun i hi => (bytesG_num hb i hi).2
  · exact (num65_c 1 x b w hc _ _ (readFixed1_c (gI g) m hb' x w hrow)).mono fun e w' ⟨q1, q2⟩ => ⟨_, q1, rfl, q2⟩
  · exact (num65_c 2 x b w hc _ _ (readFixed2_c (gI g) m hb' x w hrow)).mono fun e w' ⟨q1, q2⟩ => ⟨_, q1, rfl, q2⟩
  · exact (num65_c 4 x b w hc _ _ (readFixed4_c (gI g) m hb' x w hrow)).mono fun e w' ⟨q1, q2⟩ => ⟨_, q1, rfl, q2⟩
end Go.Proofs.YtiibmnoikgfcbaaDoor

namespace Go.Proofs.YtiibmnoikgfcbaaDoor
open Go Go.Sx Go.RowKit
set_option maxRecDepth 100000
set_option maxHeartbeats 1000000
set_option linter.unusedVariables false
set_option linter.unusedSimpArgs false

theorem xop_assert {P : Program} {why : String} {o : Oper} {s : St} {K : Exit → St → Prop} {x : Operand} {t1 t : TypeId} {v : SV} {k : IntKind} (ho : o.op = .typeAssert x t1 t true) (hx : ev s [] x = some (.ifc t v)) (hu : P.underlying t = some (.int k)) (h : put s [] o.dst (.tu [v, .lb true]) (K .normal)) : XOp P why o s K := by
  intro cx ρ a w hs Q hQ
  have hd := ev_ok hs.ts (ids := []) (fun e he => by cases he) _ _ hx
  simp only [den] at hd
  cases hv : den ρ v with
  | none => rw [hv] at hd; cases hd
  | some y =>
    rw [hv] at hd
    have hd := Option.some.inj hd
    have hrun : (execOp a.eval o).run P w = .ok (.value (.tuple #[y, .bool true])) w := by
      simp [execOp, ho, ← hd, Instr.typeAssert, run_underlying hu]
    unfold Oper.wp
    rw [hrun]
    obtain ⟨s', k, hs'⟩ := put_ok h hs.hs hs.ts hs.df (x := .tuple #[y, .bool true]) (fun _ => by simp only [den, denL, hv]) (fun n => absurd (fun e he => by cases he) n)
    exact hQ _ _ _ _ _ k hs'
theorem xop_nils {P : Program} {why : String} {o : Oper} {s : St} {K : Exit → St → Prop} {x : Operand} {t t1 : TypeId} {ms : Array (String × TypeId)} (ho : o.op = .binOp .neq t x (.const .nilIface) t1) (hx : ev s [] x = some .nili) (hu : P.underlying t = some (.interface ms)) (h : put s [] o.dst (.lb false) (K .normal)) : XOp P why o s K := by
  intro cx ρ a w hs Q hQ
  have hd := ev_ok hs.ts (ids := []) (fun e he => by cases he) _ _ hx
  simp only [den, Option.some.injEq] at hd
  have hrun : (execOp a.eval o).run P w = .ok (.value (.bool false)) w := by
    have h1 : (Op.equal t .nilIface .nilIface).run P w = .ok true w := by unfold Op.equal Op.equalIn Op.maxDepth; simp [run_underlying hu]
    have h2 : (eqGuard .neq t x (.const .nilIface) .nilIface .nilIface).run P w = .ok () w := by unfold eqGuard; simp
    have e : execOp a.eval o = (do let z ← (do eqGuard .neq t x (.const .nilIface) .nilIface .nilIface; binOp .neq t .nilIface .nilIface : Sem Value); pure (Next.value z) : Sem Next) := by
      unfold execOp
      rw [ho]
      simp only [← hd]
      rfl
    have h3 : (binOp .neq t .nilIface .nilIface).run P w = .ok (.bool false) w := by
      show (do pure (.bool (!(← Op.equal t .nilIface .nilIface))) : Sem Value).run P w = _
      simp only [Sem.run_bind, h1, Result.andThen_ok]
      rfl
    rw [e]
    simp only [Sem.run_bind, h2, h3, Result.andThen_ok]
    rfl
  unfold Oper.wp
  rw [hrun]
  obtain ⟨s', k, hs'⟩ := put_ok h hs.hs hs.ts hs.df (x := .bool false) (fun _ => rfl) (fun n => absurd (fun e he => by cases he) n)
  exact hQ _ _ _ _ _ k hs'

/-- The first region of what is deferred. -/
theorem wpS_recover {P : Program} {Q : Exit → Act → List Frame → World → Prop} {a : Act} {cs cs' : List Frame} {w : World} {v : Value} {id d d' t t' : Nat} {ps ps' : String} {af af' : Array Edge}
    (hrec : (match recoverD cs with | some x => x | none => (.nilIface, cs)) = (v, cs')) (hsz : d < a.tmps.size) (h : Q .normal ((a.put (some d) v).put (some d') v) cs' w) :
    (Code.region id #[{ dst := some d, op := .call { callee := .builtin .recover, args := #[], argTypes := #[] }, type := t, pos := ps, after := af, guard := none }, { dst := some d', op := .assign (.tmp d), type := t', pos := ps', after := af', guard := none }] false).wpS P Q a cs w := by
  refine wpS_region ?_
  have hev : ∀ v, (a.put (some d) v).eval (.tmp d) = v := fun v => by simp [Act.eval, Act.put, hsz]
  have hev' : (a.put (some d) v).eval (.tmp d) = v := hev v
  have h : Q .normal ((a.put (some d) v).put (some d') ((a.put (some d) v).eval (.tmp d))) cs' w := by rw [hev']; exact h
  have hr0 : (execOp a.eval { dst := some d, op := .call { callee := .builtin .recover, args := #[], argTypes := #[] }, type := t, pos := ps, after := af, guard := none }).run P w = .ok .recover w := rfl
  show wpOpsS P _ Q [0, 1] a cs w
  simp only [wpOpsS, List.getElem?_toArray, List.getElem?_cons_zero, List.getElem?_cons_succ, Region.wanted, if_true, hr0]
  cases hr : recoverD cs with
  | some x =>
    rw [hr] at hrec
    cases hrec
    exact h
  | none =>
    rw [hr] at hrec
    cases hrec
    exact h

noncomputable def inlK : List (Nat × Func) := [(31, Tryd.f31)]
theorem inlK_ok : inlAll Tryd.prog inlK := ⟨Tryd.func31, trivial⟩
noncomputable def tabK : Tab := mkTab tiRows eqL fnsL [] inlK 20 []
theorem tabK_ok : TabOk Tryd.prog tabK := mkTab_ok (by kernel_rfl) tiRows_ok eqL_ok fnsL_ok inlK_ok trivial

/-- Sat at a deferred call's beginning. -/
theorem sat_enter {cx : Cx} {ρ : Vl} {H : List (Nat × SO)} {nx : Nat} {w : World} (hs : HS cx ρ H nx w) {vs : List SV} {xs : List Value} (hd : denL ρ vs = some xs) {n : Nat} (hn : vs.length ≤ n) :
    Sat ⟨w, fun k => cx.F k ∨ cx.w0.heap.size ≤ k, ρ, []⟩ ρ ⟨argsT 0 vs, [], H, nx, n⟩ { tmps := xs.toArray ++ Array.replicate (n - xs.toArray.size) undef, defers := [] } w := by
  refine ⟨hs.enter, ⟨?_, ?_, fun _ _ _ hm => by cases hm⟩, rfl⟩
  · have := denL_length hd
    simp; omega
  · intro t v _ hl
    obtain ⟨j, y, rfl, e1, e2⟩ := lk_argsT hd hl
    have hj : j < xs.length := by
      rcases Nat.lt_or_ge j xs.length with h | h
      · exact h
      · rw [List.getElem?_eq_none h] at e1; cases e1
    refine ⟨y, ?_, e2⟩
    rw [Nat.zero_add, Array.getElem?_append_left (by simpa using hj)]
    simpa using e1

theorem caught_idle {cx : Cx} {ρ : Vl} {H : List (Nat × SO)} {nx : Nat} {w : World} (hs : HS cx ρ H nx w) {u v : SV} {x y : Value} (hx : den ρ u = some x) (hy : den ρ v = some y) :
    CallsD Tryd.prog 30 #[x, y] .returning w fun e u' w' => (∃ z, e = .returned z) ∧ u' = .returning ∧ ∃ ρ', ρ.le ρ' ∧ HS cx ρ' H nx w' := by
  refine callsD_of_wpS Tryd.func30 rfl fun c₀ cs hu => ?_
  have hsat := sat_enter hs (vs := [u, v]) (xs := [x, y]) (denL_mk hx (denL_mk hy rfl)) (n := 23) (by simp)
  refine wpS_seq (wpS_recover (v := .nilIface) (cs' := c₀ :: cs) (by simp [recoverD, hu]) (by have := hsat.ts.sz; exact Nat.lt_of_lt_of_eq (show 7 < 23 by decide) this.symm) ?_)
  refine wpS_of_wp ?_
  obtain ⟨s1, h1, hs1⟩ := put_ok (s := ⟨argsT 0 [u, v], [], H, nx, 23⟩) (ids := []) (d := some 7) (v := .nili) (K := fun s => s = ⟨(7, .nili) :: argsT 0 [u, v], [], H, nx, 23⟩) rfl hsat.hs hsat.ts hsat.df (x := .nilIface) (fun _ => rfl) (fun n => absurd (fun e he => by cases he) n)
  subst h1
  obtain ⟨s2, h2, hs2⟩ := put_ok (s := ⟨(7, .nili) :: argsT 0 [u, v], [], H, nx, 23⟩) (ids := []) (d := some 4) (v := .nili) (K := fun s => s = ⟨(4, .nili) :: (7, .nili) :: argsT 0 [u, v], [], H, nx, 23⟩) rfl hs1.hs hs1.ts hs1.df (x := .nilIface) (fun _ => rfl) (fun n => absurd (fun e he => by cases he) n)
  subst h2
  refine wpx_ok tabK_ok (CI_ok tabK_ok 5) _ (K := fun e s' => (e = .normal ∧ s'.H = H) ∧ s'.nx = nx) ?_ _ _ _ _ hs2 _ ?_
  · conv => whnf
    refine xop_nils (why := "an operator") (s := ⟨(8, .nili) :: (4, .nili) :: (7, .nili) :: argsT 0 [u, v], [], H, nx, 23⟩) (x := .tmp 8) rfl rfl Tryd.underlying20 ?_
    conv => whnf
    exact ⟨⟨rfl, rfl⟩, rfl⟩
  · intro e ρ' s' a' w' ⟨⟨he, hH⟩, hnx⟩ hs'
    subst he
    obtain ⟨h3, h4⟩ := hs.leave hs'.hs
    refine ⟨hs'.df, .returning, ?_, .tuple #[], ?_, ⟨_, rfl⟩, rfl, ρ', h3, ?_⟩
    · cases c₀; simp_all
    · exact results_none rfl _ _ _
    · rw [hH, hnx] at h4
      exact h4

/-- What is known of memory, less. -/
theorem HS.less {cx : Cx} {ρ : Vl} {H H' : List (Nat × SO)} {nx : Nat} {w : World} (h : HS cx ρ H nx w) (hl : ∀ k o, lk k H' = some o → lk k H = some o) : HS cx ρ H' nx w := ⟨h.r.less hl, h.nx⟩

def noEv : List SV := [.n .i64 0, .n .i64 0, .n .i64 0, .n .i64 0, .n .u32 0, .n .i64 0, .n .i64 0, .n .i64 0, .n .i64 0]
theorem caught_p (code : Int) {cx : Cx} {ρ : Vl} {nx : Nat} {w : World} {c0 c1 c2 c3 c4 c5 c6 c7 c8 m e0 : SV} (hs : HS cx ρ [(1, .cells [c0, c1, c2, c3, c4, c5, c6, c7, c8] 28), (2, .cells [m] 3), (3, .cells [e0] 31)] nx w) {x y : Value} (hx : den ρ (.p 3 0) = some x) (hy : den ρ (.f (.func 31) [] [.p 1 0, .p 2 0]) = some y) :
    CallsD Tryd.prog 30 #[x, y] (.panicking [{ v := .iface 31 (.int .i64 code), recovered := false }]) w fun e u' w' => (∃ z, e = .returned z) ∧ u' = .panicking [{ v := .iface 31 (.int .i64 code), recovered := true }] ∧
      ∃ ρ', ρ.le ρ' ∧ HS cx ρ' [(1, .cells noEv 28), (2, .cells [.n .i64 0] 3), (3, .cells [.i .i64 code] 31)] nx w' := by
  refine callsD_of_wpS Tryd.func30 rfl fun c₀ cs hu => ?_
  have hsat := sat_enter hs (vs := [.p 3 0, .f (.func 31) [] [.p 1 0, .p 2 0]]) (xs := [x, y]) (denL_mk hx (denL_mk hy rfl)) (n := 23) (by simp)
  refine wpS_seq (wpS_recover (v := .iface 31 (.int .i64 code)) (cs' := { c₀ with mode := .panicking [{ v := .iface 31 (.int .i64 code), recovered := true }] } :: cs) (by simp [recoverD, hu]) (by have := hsat.ts.sz; exact Nat.lt_of_lt_of_eq (show 7 < 23 by decide) this.symm) ?_)
  refine wpS_of_wp ?_
  obtain ⟨s1, h1, hs1⟩ := put_ok (s := ⟨argsT 0 [.p 3 0, .f (.func 31) [] [.p 1 0, .p 2 0]], [], _, nx, 23⟩) (ids := []) (d := some 7) (v := .ifc 31 (.i .i64 code)) (K := fun s => s = ⟨(7, .ifc 31 (.i .i64 code)) :: argsT 0 [.p 3 0, .f (.func 31) [] [.p 1 0, .p 2 0]], [], [(1, .cells [c0, c1, c2, c3, c4, c5, c6, c7, c8] 28), (2, .cells [m] 3), (3, .cells [e0] 31)], nx, 23⟩) rfl hsat.hs hsat.ts hsat.df (x := .iface 31 (.int .i64 code)) (fun _ => rfl) (fun n => absurd (fun e he => by cases he) n)
  subst h1
  obtain ⟨s2, h2, hs2⟩ := put_ok (s := ⟨(7, .ifc 31 (.i .i64 code)) :: argsT 0 [.p 3 0, .f (.func 31) [] [.p 1 0, .p 2 0]], [], _, nx, 23⟩) (ids := []) (d := some 4) (v := .ifc 31 (.i .i64 code)) (K := fun s => s = ⟨(4, .ifc 31 (.i .i64 code)) :: (7, .ifc 31 (.i .i64 code)) :: argsT 0 [.p 3 0, .f (.func 31) [] [.p 1 0, .p 2 0]], [], [(1, .cells [c0, c1, c2, c3, c4, c5, c6, c7, c8] 28), (2, .cells [m] 3), (3, .cells [e0] 31)], nx, 23⟩) rfl hs1.hs hs1.ts hs1.df (x := .iface 31 (.int .i64 code)) (fun _ => rfl) (fun n => absurd (fun e he => by cases he) n)
  subst h2
  refine wpx_ok tabK_ok (CI_ok tabK_ok 5) _ (K := fun e s' => (e = .normal ∧ s'.H = [(1, .cells noEv 28), (2, .cells [.n .i64 0] 3), (3, .cells [.i .i64 code] 31)]) ∧ s'.nx = nx) ?_ _ _ _ _ hs2 _ ?_
  · conv => whnf
    refine xop_assert (why := "an operation") (s := ⟨(11, .ifc 31 (.i .i64 code)) :: (9, .lb true) :: (8, .ifc 31 (.i .i64 code)) :: (4, .ifc 31 (.i .i64 code)) :: (7, .ifc 31 (.i .i64 code)) :: argsT 0 [.p 3 0, .f (.func 31) [] [.p 1 0, .p 2 0]], [], [(1, .cells [c0, c1, c2, c3, c4, c5, c6, c7, c8] 28), (2, .cells [m] 3), (3, .cells [e0] 31)], nx, 23⟩) (x := .tmp 11) (t1 := 20) (t := 31) (v := .i .i64 code) rfl rfl Tryd.underlying31 ?_
    cases nx with
    | zero =>
      conv => whnf
      exact ⟨⟨rfl, rfl⟩, rfl⟩
    | succ nx =>
      conv => whnf
      exact ⟨⟨rfl, rfl⟩, rfl⟩
  · intro e ρ' s' a' w' ⟨⟨he, hH⟩, hnx⟩ hs'
    subst he
    obtain ⟨h3, h4⟩ := hs.leave hs'.hs
    refine ⟨hs'.df, _, rfl, .tuple #[], results_none rfl _ _ _, ⟨_, rfl⟩, rfl, ρ', h3, ?_⟩
    rw [hH, hnx] at h4
    exact h4
end Go.Proofs.YtiibmnoikgfcbaaDoor

namespace Go.Proofs.YtiibmnoikgfcbaaDoor
open Go Go.Sx Go.RowKit
set_option maxRecDepth 100000
set_option maxHeartbeats 1000000
set_option linter.unusedVariables false
set_option linter.unusedSimpArgs false

def tailC : Option Code → Code
  | some (.seq _ (.seq _ r)) => r
  | _ => .skip
def readT : List (Nat × SV) := [(10, .f (.func 31) [] [.p 1 0, .p 2 0]), (4, .p 3 0), (3, .p 2 0), (2, .p 1 0), (0, .r 0)]
def readH (n : Nat) (get : Nat → List SV) : List (Nat × SO) := [(3, .cells [.n .i64 0] 31), (2, .cells [.n .i64 0] 3), (1, .cells noEv 28), (0, .row 1 n get)]
def noV (code : Int) : Value := .tuple #[.agg #[.int .i64 0, .int .i64 0, .int .i64 0, .int .i64 0, .int .u32 0, .int .i64 0, .int .i64 0, .int .i64 0, .int .i64 0], .int .i64 0, .int .i64 code]
def PanH (H : List (Nat × SO)) : Prop := ∃ c0 c1 c2 c3 c4 c5 c6 c7 c8 m e0, lk 1 H = some (.cells [c0, c1, c2, c3, c4, c5, c6, c7, c8] 28) ∧ lk 2 H = some (.cells [m] 3) ∧ lk 3 H = some (.cells [e0] 31)
def PanT (T : List (Nat × SV)) : Prop := lk 2 T = some (.p 1 0) ∧ lk 3 T = some (.p 2 0) ∧ lk 4 T = some (.p 3 0)
/-- What is asked at the end of Read's body. -/
def ReadK (tb : Tab) (y : Value) (e : Exit) (s : St) : Prop :=
  match e with
  | .ret => match xres tb s Tryd.f10.results.toList with
    | some v => shut v = some y
    | none => False
  | .panic c => (∃ code, c = [{ v := .iface 31 (.int .i64 code), recovered := false }] ∧ y = noV code) ∧ PanH s.H ∧ PanT s.T ∧ s.G = [] ∧ s.n = 57
  | _ => False

theorem wp_defer1 {P : Program} {Q : Exit → Act → World → Prop} {a : Act} {w : World} {id d g t1 t2 : Nat} {fn : Fn} {u v : Nat} {x1 : Operand} {ps ps' : String} {af af' : Array Edge} {at_ : Array Nat}
    (h : Q .normal { tmps := (a.put (some d) (.func fn #[] #[a.eval (.tmp u), a.eval (.tmp v)])).tmps, defers := { target := .fn (.func g) #[], args := #[] ++ #[(a.put (some d) (.func fn #[] #[a.eval (.tmp u), a.eval (.tmp v)])).eval x1, (a.put (some d) (.func fn #[] #[a.eval (.tmp u), a.eval (.tmp v)])).eval (.tmp d)] } :: (a.put (some d) (.func fn #[] #[a.eval (.tmp u), a.eval (.tmp v)])).defers } w) :
    (Code.region id #[{ dst := some d, op := .makeFunc fn #[] #[.tmp u, .tmp v], type := t1, pos := ps, after := af, guard := none }, { dst := none, op := .defer { callee := .value (.func g), args := #[x1, .tmp d], argTypes := at_ }, type := t2, pos := ps', after := af', guard := none }] false).wp P Q a w := by
  have hr1 : (execOp a.eval { dst := some d, op := .makeFunc fn #[] #[.tmp u, .tmp v], type := t1, pos := ps, after := af, guard := none }).run P w = .ok (.value (.func fn #[] #[a.eval (.tmp u), a.eval (.tmp v)])) w := by
    have e : ∀ (b c : Array Value), (Instr.makeFunc fn b c).run P w = .ok (.func fn b c) w := fun _ _ => rfl
    simp [execOp, e]
  have hr2 : ∀ b : Act, (execOp b.eval { dst := none, op := .defer { callee := .value (.func g), args := #[x1, .tmp d], argTypes := at_ }, type := t2, pos := ps', after := af', guard := none }).run P w = .ok (.defer { target := .fn (.func g) #[], args := #[] ++ #[b.eval x1, b.eval (.tmp d)] }) w := fun b => by
    simp [execOp, resolve, Deferred.ofValue, Act.eval]
  refine wp_region ?_
  show wpOps P _ Q [0, 1] a w
  simp only [wpOps, List.getElem?_toArray, List.getElem?_cons_zero, List.getElem?_cons_succ, Region.wanted, if_true]
  refine .inl ?_
  unfold Oper.wp
  rw [hr1]
  refine .inl ?_
  rw [hr2]
  exact h
theorem read_run {tb : Tab} (hP : TabOk Tryd.prog tb) {C : CH} (hC : COk Tryd.prog C) {n : Nat} {get : Nat → List SV} {x : Value} (y : Value) (h : wpx Tryd.prog tb C (tailC Tryd.f10.body) ⟨readT, [], readH n get, 4, 57⟩ (ReadK tb y)) (w : World) (hx : RowV w 1 n get x) :
    Calls Tryd.prog 10 #[x] w fun e w' => e = .returned y ∧ Below w.heap.size w w' := by
  obtain ⟨a, c, rfl, hc, hr⟩ := hx.is
  have hs0 := HS.startR w hc hr
  have hsat : Sat ⟨w, fun _ => False, Vl.none.upd 0 (.rw a n c), []⟩ (Vl.none.upd 0 (.rw a n c)) ⟨[(0, .r 0)], [], [(0, .row 1 n get)], 1, 57⟩ { tmps := #[.slice a n c] ++ Array.replicate (57 - 1) undef, defers := [] } w := by
    have := sat_enter hs0 (vs := [.r 0]) (xs := [.slice a n c]) (denL_mk (by simp only [den, Vl.upd_same]) rfl) (n := 57) (by simp)
    exact ⟨hs0, this.ts, rfl⟩
  refine calls_of_wp_defers Tryd.func10 rfl ?_
  refine wp_seq ?_
  -- the results' cells
  refine wpx_ok (tb := tabK) tabK_ok (CI_ok tabK_ok 5) _ (K := fun e s => e = .normal ∧ s = ⟨[(4, .p 3 0), (3, .p 2 0), (2, .p 1 0), (0, .r 0)], [], readH n get, 4, 57⟩) (by (conv => whnf); exact ⟨rfl, rfl⟩) _ _ _ _ hsat _ ?_
  rintro e ρ1 s1 a1 w1 ⟨rfl, rfl⟩ hs1
  refine wp_seq (wp_defer1 ?_)
  have e2 := ev_ok hs1.ts (ids := []) (fun e he => by cases he) (.tmp 2) (.p 1 0) rfl
  have e3 := ev_ok hs1.ts (ids := []) (fun e he => by cases he) (.tmp 3) (.p 2 0) rfl
  have hf : den ρ1 (.f (.func 31) [] [.p 1 0, .p 2 0]) = some (.func (.func 31) #[] #[a1.eval (.tmp 2), a1.eval (.tmp 3)]) := by
    simp only [den, denL] at e2 e3 ⊢
    rw [e2, e3]
  obtain ⟨s2, h2, hs2⟩ := put_ok (s := ⟨[(4, .p 3 0), (3, .p 2 0), (2, .p 1 0), (0, .r 0)], [], readH n get, 4, 57⟩) (ids := []) (d := some 10) (v := .f (.func 31) [] [.p 1 0, .p 2 0]) (K := fun s => s = ⟨readT, [], readH n get, 4, 57⟩) rfl hs1.hs hs1.ts hs1.df (fun _ => hf) (fun n => absurd (fun e he => by cases he) n)
  subst h2
  generalize hb : a1.put (some 10) (.func (.func 31) #[] #[a1.eval (.tmp 2), a1.eval (.tmp 3)]) = b at hs2 ⊢
  have x4 := ev_ok hs2.ts (ids := []) (fun e he => by cases he) (.tmp 4) (.p 3 0) rfl
  have x10 := ev_ok hs2.ts (ids := []) (fun e he => by cases he) (.tmp 10) (.f (.func 31) [] [.p 1 0, .p 2 0]) rfl
  have hbd : b.defers = [] := hs2.df
  have key : wpx Tryd.prog tb C (tailC Tryd.f10.body) ⟨readT, [], readH n get, 4, 57⟩ (ReadK tb y) := h
  have hs3 : Sat ⟨w, fun _ => False, ρ1, { target := .fn (.func 30) #[], args := #[] ++ #[b.eval (.tmp 4), b.eval (.tmp 10)] } :: b.defers⟩ ρ1 ⟨readT, [], readH n get, 4, 57⟩ { tmps := b.tmps, defers := { target := .fn (.func 30) #[], args := #[] ++ #[b.eval (.tmp 4), b.eval (.tmp 10)] } :: b.defers } w1 :=
    ⟨⟨⟨hs2.hs.r.hp, hs2.hs.r.dj, hs2.hs.r.ow, hs2.hs.r.fr, Vl.le_refl _⟩, hs2.hs.nx⟩, hs2.ts, rfl⟩
  refine wpx_ok hP hC (tailC Tryd.f10.body) key _ _ _ _ hs3 _ ?_
  intro e ρ2 s' a' w2 hk hs'
  have hdf : a'.defers = { target := .fn (.func 30) #[], args := #[] ++ #[b.eval (.tmp 4), b.eval (.tmp 10)] } :: b.defers := hs'.df
  rw [hbd] at hdf
  have hs4 : HS ⟨w, fun _ => False, ρ1, []⟩ ρ2 s'.H s'.nx w2 := ⟨⟨hs'.hs.r.hp, hs'.hs.r.dj, hs'.hs.r.ow, hs'.hs.r.fr, hs'.hs.r.ag⟩, hs'.hs.nx⟩
  have y4 := den_mono hs4.ag _ _ x4
  have y10 := den_mono hs4.ag _ _ x10
  have hin : (invoke (.fn (.func 30) #[]) (#[] ++ #[b.eval (.tmp 4), b.eval (.tmp 10)])).run Tryd.prog w2 = .ok (.enter 30 #[b.eval (.tmp 4), b.eval (.tmp 10)]) w2 := by
    have := enters_mem fnsL_ok 30 rfl #[b.eval (.tmp 4), b.eval (.tmp 10)] w2
    simp only [invoke, Array.append_empty, Array.empty_append]
    exact this
  -- results, read behind what was deferred
  have fin : ∀ {tb : Tab} (hP : TabOk Tryd.prog tb) (s : St) (ρ3 : Vl) (w3 : World) (v : SV), HS ⟨w, fun _ => False, ρ1, []⟩ ρ3 s.H s.nx w3 → TS ρ3 s.T s.G s.n a'.tmps → xres tb s Tryd.f10.results.toList = some v → shut v = some y → Leaves Tryd.prog Tryd.f10 a'.tmps (fun e w' => e = .returned y ∧ Below w.heap.size w w') [] .returning w3 := fun {tb} hP s ρ3 w3 v hs hts hv hy => by
    obtain ⟨z, q1, q2⟩ := results_ok hP (cx := ⟨w, fun _ => False, ρ1, []⟩) (ρ := ρ3) (s := s) (a := { tmps := a'.tmps, defers := [] }) (w := w3) ⟨hs, hts, rfl⟩ hv
    have := den_mono (Vl.none_le ρ3) _ _ hy
    rw [q1] at this
    cases this
    exact ⟨_, q2, rfl, hs.fr.below⟩
  cases e with
  | ret =>
    simp only [ReadK] at hk
    split at hk
    case h_2 => exact hk.elim
    rename_i v hv
    show Leaves Tryd.prog Tryd.f10 a'.tmps _ a'.defers .returning w2
    rw [hdf]
    refine leaves_cons (f := 30) (by simp) hin ?_
    refine (caught_idle hs4 y4 y10).mono ?_
    rintro e u' w3 ⟨⟨z, rfl⟩, rfl, ρ3, hle, hs5⟩
    exact fin hP s' ρ3 w3 v hs5 (hs'.ts.mono hle) hv hk
  | panic ch =>
    obtain ⟨⟨code, rfl, rfl⟩, ⟨c0, c1, c2, c3, c4, c5, c6, c7, c8, m, e0, l1, l2, l3⟩, ⟨t2, t3, t4⟩, hG, hn57⟩ := hk
    show Leaves Tryd.prog Tryd.f10 a'.tmps _ a'.defers (.panicking _) w2
    rw [hdf]
    refine leaves_cons (f := 30) (by simp) hin ?_
    have hs5 : HS ⟨w, fun _ => False, ρ1, []⟩ ρ2 [(1, .cells [c0, c1, c2, c3, c4, c5, c6, c7, c8] 28), (2, .cells [m] 3), (3, .cells [e0] 31)] s'.nx w2 := HS.less hs4 fun k o hl => by
      by_cases e1 : k = 1
      · subst e1; rw [lk_cons_same] at hl; rw [l1]; exact hl
      · rw [lk_cons_other _ _ e1] at hl
        by_cases e2 : k = 2
        · subst e2; rw [lk_cons_same] at hl; rw [l2]; exact hl
        · rw [lk_cons_other _ _ e2] at hl
          by_cases e3 : k = 3
          · subst e3; rw [lk_cons_same] at hl; rw [l3]; exact hl
          · rw [lk_cons_other _ _ e3] at hl; cases hl
    refine (caught_p code hs5 y4 y10).mono ?_
    rintro e u' w3 ⟨⟨z, rfl⟩, rfl, ρ3, hle, hs6⟩
    refine fin tabK_ok ⟨[(2, .p 1 0), (3, .p 2 0), (4, .p 3 0)], [], _, s'.nx, 57⟩ ρ3 w3 (.tu [.ag noEv, .n .i64 0, .i .i64 code]) hs6 ⟨?_, fun t v _ hl => ?_, fun _ _ _ hm => by cases hm⟩ ?_ rfl
    · exact hs'.ts.sz.trans hn57
    · have ts := hs'.ts.mono hle
      have get : lk t s'.T = some v := by
        by_cases e1 : t = 2
        · subst e1; rw [lk_cons_same] at hl; rw [t2]; exact hl
        · rw [lk_cons_other _ _ e1] at hl
          by_cases e2 : t = 3
          · subst e2; rw [lk_cons_same] at hl; rw [t3]; exact hl
          · rw [lk_cons_other _ _ e2] at hl
            by_cases e3 : t = 4
            · subst e3; rw [lk_cons_same] at hl; rw [t4]; exact hl
            · rw [lk_cons_other _ _ e3] at hl; cases hl
      exact ts.vs t v (by rw [hG]; rfl) get
    · rfl
  | normal => exact hk.elim
  | exit id => exact hk.elim
  | goto l => exact hk.elim
  | outgrown => exact hk.elim

/-! ### where the first byte names no kind -/
noncomputable def inlR : List (Nat × Func) := (32, Tryd.f32) :: (33, Tryd.f33) :: (64, Tryd.f64) :: inlA
theorem inlR_ok : inlAll Tryd.prog inlR := ⟨Tryd.func32, Tryd.func33, Tryd.func64, inlA_ok⟩
noncomputable def tabRd : Tab := mkTab tiRows eqL fnsL [] inlR 20 [(34, sumRight), (65, sum65), (91, sum91)]
theorem tabRd_ok : TabOk Tryd.prog tabRd := mkTab_ok (by kernel_rfl) tiRows_ok eqL_ok fnsL_ok inlR_ok ⟨sumRight_ok, sum65_ok, sum91_ok, trivial⟩
theorem bytesG_rowB {n : Nat} {g : Nat → Int} (h : ∀ i, i < n → 0 ≤ g i ∧ g i < 256) : BytesG n (rowB g) := fun i hi => ⟨(g i).toNat, by have := h i hi; omega, .inl (by have := h i hi; show [SV.i .u8 (g i)] = _; congr 2; omega)⟩
theorem bytesG_at {n : Nat} {g : Nat → Int} (h : ∀ i, i < n → 0 ≤ g i ∧ g i < 256) (lo m : Nat) (hm : lo + m ≤ n) : BytesG m fun i => rowB g (lo + i) := fun i hi => bytesG_rowB h (lo + i) (by omega)
theorem readNone_c (g : Nat → Int) (n : Nat) (hb : ∀ i, i < n → 0 ≤ g i ∧ g i < 256) (hn : 0 < n) (hm : n ≤ maxLen) (hk : g 0 = 0 ∨ 14 < g 0) (x : Value) (w : World) (hx : RowV w 1 n (rowB g) x) : Calls Tryd.prog 10 #[x] w fun e w' => e = .returned (noV 260) ∧ Below w.heap.size w w' := by
  refine read_run tabRd_ok (CI_ok tabRd_ok 8) (n := n) (get := rowB g) (noV 260) ?_ w hx
  conv => whnf
  refine And.intro (by (conv => whnf); exact Nat.zero_le _) ?_
  conv => whnf
  refine And.intro (by
    (conv => whnf)
    exact ⟨by show 0 + (n - 0) ≤ n; omega, bytesG_at hb 0 _ (by omega), by show n - 0 ≤ maxLen; omega⟩) ?_
  have hs : shortB (n - 0) 1 = false := by simp only [shortB, decide_eq_false_iff_not]; omega
  have kv : IntKind.i64.wrap (bif shortB (n - 0) 1 then 0 else leN (gI fun i => rowB g (0 + i)) 1) = g 0 := by
    rw [hs, IntKind.wrap_i64]
    have := hb 0 hn
    simp [leN, gI, numAt, rowB]
    omega
  conv => whnf
  refine And.intro (fun h => by rw [hs] at h; exact absurd h (by decide)) (fun _ => ?_)
  conv => whnf
  refine And.intro (by
    (conv => whnf)
    simp only [absent, kv, and_true]
    omega) ?_
  conv => whnf
  exact ⟨⟨260, rfl, rfl⟩, ⟨_, _, _, _, _, _, _, _, _, _, _, rfl, rfl, rfl⟩, ⟨rfl, rfl, rfl⟩, rfl, rfl⟩
def sumReadN : Sum := fun args H _ => match args with
  | [v] => match src2 H v with
    | some (p, n, g) => some (.ob (p ∧ BytesG n g ∧ n ≤ maxLen ∧ 0 < n ∧ (gI g 0 = 0 ∨ 14 < gI g 0)) (.val (.tu [.ag noEv, .n .i64 0, .n .i64 260])))
    | none => none
  | _ => none
theorem sumReadN_ok : SumOk1 Tryd.prog 10 sumReadN := by
  intro args H nx out ho ρ w xs hH hd hn
  unfold sumReadN at ho
  split at ho
  case h_2 => cases ho
  rename_i v
  split at ho
  case h_2 => cases ho
  rename_i p n g hs
  cases ho
  rintro ⟨hp, hb, hm, h0, hk⟩
  obtain ⟨x, r, rfl, h1, h2⟩ := denL_cons hd
  cases h2
  exact (readNone_c (gI g) n (fun i hi => (bytesG_num hb i hi).2) h0 hm hk x w (src_row hH h1 hs hp hb hm)).mono fun e w' ⟨q1, q2⟩ => ⟨_, q1, rfl, q2⟩
end Go.Proofs.YtiibmnoikgfcbaaDoor
