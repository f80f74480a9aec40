/- What is deferred (function 30): where nothing was given up, and where it was, with an error's number. -/
import Derived.Test.YtiibmnoikgfcbaaDoorR2
import Derived.Recover
namespace Go.Proofs.YtiibmnoikgfcbaaDoor
open Go Go.Sx Go.RowKit
set_option maxRecDepth 100000
set_option maxHeartbeats 1000000
set_option linter.unusedVariables false
set_option linter.unusedSimpArgs false

theorem xop_assert {P : Program} {why : String} {o : Oper} {s : St} {K : Exit → St → Prop} {x : Operand} {t1 t : TypeId} {v : SV} {k : IntKind} (ho : o.op = .typeAssert x t1 t true) (hx : ev s [] x = some (.ifc t v)) (hu : P.underlying t = some (.int k)) (h : put s [] o.dst (.tu [v, .lb true]) (K .normal)) : XOp P why o s K := by
  intro cx ρ a w hs Q hQ
  have hd := ev_ok hs.ts (ids := []) (fun e he => by cases he) _ _ hx
  simp only [den] at hd
  cases hv : den ρ v with
  | none => rw [hv] at hd; cases hd
  | some y =>
    rw [hv] at hd
    have hd := Option.some.inj hd
    have hrun : (execOp a.eval o).run P w = .ok (.value (.tuple #[y, .bool true])) w := by
      simp [execOp, ho, ← hd, Instr.typeAssert, run_underlying hu]
    unfold Oper.wp
    rw [hrun]
    obtain ⟨s', k, hs'⟩ := put_ok h hs.hs hs.ts hs.df (x := .tuple #[y, .bool true]) (fun _ => by simp only [den, denL, hv]) (fun n => absurd (fun e he => by cases he) n)
    exact hQ _ _ _ _ _ k hs'
theorem xop_nils {P : Program} {why : String} {o : Oper} {s : St} {K : Exit → St → Prop} {x : Operand} {t t1 : TypeId} {ms : Array (String × TypeId)} (ho : o.op = .binOp .neq t x (.const .nilIface) t1) (hx : ev s [] x = some .nili) (hu : P.underlying t = some (.interface ms)) (h : put s [] o.dst (.lb false) (K .normal)) : XOp P why o s K := by
  intro cx ρ a w hs Q hQ
  have hd := ev_ok hs.ts (ids := []) (fun e he => by cases he) _ _ hx
  simp only [den, Option.some.injEq] at hd
  have hrun : (execOp a.eval o).run P w = .ok (.value (.bool false)) w := by
    have h1 : (Op.equal t .nilIface .nilIface).run P w = .ok true w := by unfold Op.equal Op.equalIn Op.maxDepth; simp [run_underlying hu]
    have h2 : (eqGuard .neq t x (.const .nilIface) .nilIface .nilIface).run P w = .ok () w := by unfold eqGuard; simp
    have e : execOp a.eval o = (do let z ← (do eqGuard .neq t x (.const .nilIface) .nilIface .nilIface; binOp .neq t .nilIface .nilIface : Sem Value); pure (Next.value z) : Sem Next) := by
      unfold execOp
      rw [ho]
      simp only [← hd]
      rfl
    have h3 : (binOp .neq t .nilIface .nilIface).run P w = .ok (.bool false) w := by
      show (do pure (.bool (!(← Op.equal t .nilIface .nilIface))) : Sem Value).run P w = _
      simp only [Sem.run_bind, h1, Result.andThen_ok]
      rfl
    rw [e]
    simp only [Sem.run_bind, h2, h3, Result.andThen_ok]
    rfl
  unfold Oper.wp
  rw [hrun]
  obtain ⟨s', k, hs'⟩ := put_ok h hs.hs hs.ts hs.df (x := .bool false) (fun _ => rfl) (fun n => absurd (fun e he => by cases he) n)
  exact hQ _ _ _ _ _ k hs'

/-- The first region of what is deferred. -/
theorem wpS_recover {P : Program} {Q : Exit → Act → List Frame → World → Prop} {a : Act} {cs cs' : List Frame} {w : World} {v : Value} {id d d' t t' : Nat} {ps ps' : String} {af af' : Array Edge}
    (hrec : (match recoverD cs with | some x => x | none => (.nilIface, cs)) = (v, cs')) (hsz : d < a.tmps.size) (h : Q .normal ((a.put (some d) v).put (some d') v) cs' w) :
    (Code.region id #[{ dst := some d, op := .call { callee := .builtin .recover, args := #[], argTypes := #[] }, type := t, pos := ps, after := af, guard := none }, { dst := some d', op := .assign (.tmp d), type := t', pos := ps', after := af', guard := none }] false).wpS P Q a cs w := by
  refine wpS_region ?_
  have hev : ∀ v, (a.put (some d) v).eval (.tmp d) = v := fun v => by simp [Act.eval, Act.put, hsz]
  have hev' : (a.put (some d) v).eval (.tmp d) = v := hev v
  have h : Q .normal ((a.put (some d) v).put (some d') ((a.put (some d) v).eval (.tmp d))) cs' w := by rw [hev']; exact h
  have hr0 : (execOp a.eval { dst := some d, op := .call { callee := .builtin .recover, args := #[], argTypes := #[] }, type := t, pos := ps, after := af, guard := none }).run P w = .ok .recover w := rfl
  show wpOpsS P _ Q [0, 1] a cs w
  simp only [wpOpsS, List.getElem?_toArray, List.getElem?_cons_zero, List.getElem?_cons_succ, Region.wanted, if_true, hr0]
  cases hr : recoverD cs with
  | some x =>
    rw [hr] at hrec
    cases hrec
    exact h
  | none =>
    rw [hr] at hrec
    cases hrec
    exact h

noncomputable def inlK : List (Nat × Func) := [(31, Tryd.f31)]
theorem inlK_ok : inlAll Tryd.prog inlK := ⟨Tryd.func31, trivial⟩
noncomputable def tabK : Tab := mkTab tiRows eqL fnsL [] inlK 20 []
theorem tabK_ok : TabOk Tryd.prog tabK := mkTab_ok (by kernel_rfl) tiRows_ok eqL_ok fnsL_ok inlK_ok trivial

/-- Sat at a deferred call's beginning. -/
theorem sat_enter {cx : Cx} {ρ : Vl} {H : List (Nat × SO)} {nx : Nat} {w : World} (hs : HS cx ρ H nx w) {vs : List SV} {xs : List Value} (hd : denL ρ vs = some xs) {n : Nat} (hn : vs.length ≤ n) :
    Sat ⟨w, fun k => cx.F k ∨ cx.w0.heap.size ≤ k, ρ, []⟩ ρ ⟨argsT 0 vs, [], H, nx, n⟩ { tmps := xs.toArray ++ Array.replicate (n - xs.toArray.size) undef, defers := [] } w := by
  refine ⟨hs.enter, ⟨?_, ?_, fun _ _ _ hm => by cases hm⟩, rfl⟩
  · have := denL_length hd
    simp; omega
  · intro t v _ hl
    obtain ⟨j, y, rfl, e1, e2⟩ := lk_argsT hd hl
    have hj : j < xs.length := by
      rcases Nat.lt_or_ge j xs.length with h | h
      · exact h
      · rw [List.getElem?_eq_none h] at e1; cases e1
    refine ⟨y, ?_, e2⟩
    rw [Nat.zero_add, Array.getElem?_append_left (by simpa using hj)]
    simpa using e1

theorem caught_idle {cx : Cx} {ρ : Vl} {H : List (Nat × SO)} {nx : Nat} {w : World} (hs : HS cx ρ H nx w) {u v : SV} {x y : Value} (hx : den ρ u = some x) (hy : den ρ v = some y) :
    CallsD Tryd.prog 30 #[x, y] .returning w fun e u' w' => (∃ z, e = .returned z) ∧ u' = .returning ∧ ∃ ρ', ρ.le ρ' ∧ HS cx ρ' H nx w' := by
  refine callsD_of_wpS Tryd.func30 rfl fun c₀ cs hu => ?_
  have hsat := sat_enter hs (vs := [u, v]) (xs := [x, y]) (denL_mk hx (denL_mk hy rfl)) (n := 23) (by simp)
  refine wpS_seq (wpS_recover (v := .nilIface) (cs' := c₀ :: cs) (by simp [recoverD, hu]) (by have := hsat.ts.sz; exact Nat.lt_of_lt_of_eq (show 7 < 23 by decide) this.symm) ?_)
  refine wpS_of_wp ?_
  obtain ⟨s1, h1, hs1⟩ := put_ok (s := ⟨argsT 0 [u, v], [], H, nx, 23⟩) (ids := []) (d := some 7) (v := .nili) (K := fun s => s = ⟨(7, .nili) :: argsT 0 [u, v], [], H, nx, 23⟩) rfl hsat.hs hsat.ts hsat.df (x := .nilIface) (fun _ => rfl) (fun n => absurd (fun e he => by cases he) n)
  subst h1
  obtain ⟨s2, h2, hs2⟩ := put_ok (s := ⟨(7, .nili) :: argsT 0 [u, v], [], H, nx, 23⟩) (ids := []) (d := some 4) (v := .nili) (K := fun s => s = ⟨(4, .nili) :: (7, .nili) :: argsT 0 [u, v], [], H, nx, 23⟩) rfl hs1.hs hs1.ts hs1.df (x := .nilIface) (fun _ => rfl) (fun n => absurd (fun e he => by cases he) n)
  subst h2
  refine wpx_ok tabK_ok (CI_ok tabK_ok 5) _ (K := fun e s' => (e = .normal ∧ s'.H = H) ∧ s'.nx = nx) ?_ _ _ _ _ hs2 _ ?_
  · conv => whnf
    refine xop_nils (why := "an operator") (s := ⟨(8, .nili) :: (4, .nili) :: (7, .nili) :: argsT 0 [u, v], [], H, nx, 23⟩) (x := .tmp 8) rfl rfl Tryd.underlying20 ?_
    conv => whnf
    exact ⟨⟨rfl, rfl⟩, rfl⟩
  · intro e ρ' s' a' w' ⟨⟨he, hH⟩, hnx⟩ hs'
    subst he
    obtain ⟨h3, h4⟩ := hs.leave hs'.hs
    refine ⟨hs'.df, .returning, ?_, .tuple #[], ?_, ⟨_, rfl⟩, rfl, ρ', h3, ?_⟩
    · cases c₀; simp_all
    · exact results_none rfl _ _ _
    · rw [hH, hnx] at h4
      exact h4

/-- What is known of memory, less. -/
theorem HS.less {cx : Cx} {ρ : Vl} {H H' : List (Nat × SO)} {nx : Nat} {w : World} (h : HS cx ρ H nx w) (hl : ∀ k o, lk k H' = some o → lk k H = some o) : HS cx ρ H' nx w := ⟨h.r.less hl, h.nx⟩

def noEv : List SV := [.n .i64 0, .n .i64 0, .n .i64 0, .n .i64 0, .n .u32 0, .n .i64 0, .n .i64 0, .n .i64 0, .n .i64 0]
theorem caught_p (code : Int) {cx : Cx} {ρ : Vl} {nx : Nat} {w : World} {c0 c1 c2 c3 c4 c5 c6 c7 c8 m e0 : SV} (hs : HS cx ρ [(1, .cells [c0, c1, c2, c3, c4, c5, c6, c7, c8] 28), (2, .cells [m] 3), (3, .cells [e0] 31)] nx w) {x y : Value} (hx : den ρ (.p 3 0) = some x) (hy : den ρ (.f (.func 31) [] [.p 1 0, .p 2 0]) = some y) :
    CallsD Tryd.prog 30 #[x, y] (.panicking [{ v := .iface 31 (.int .i64 code), recovered := false }]) w fun e u' w' => (∃ z, e = .returned z) ∧ u' = .panicking [{ v := .iface 31 (.int .i64 code), recovered := true }] ∧
      ∃ ρ', ρ.le ρ' ∧ HS cx ρ' [(1, .cells noEv 28), (2, .cells [.n .i64 0] 3), (3, .cells [.i .i64 code] 31)] nx w' := by
  refine callsD_of_wpS Tryd.func30 rfl fun c₀ cs hu => ?_
  have hsat := sat_enter hs (vs := [.p 3 0, .f (.func 31) [] [.p 1 0, .p 2 0]]) (xs := [x, y]) (denL_mk hx (denL_mk hy rfl)) (n := 23) (by simp)
  refine wpS_seq (wpS_recover (v := .iface 31 (.int .i64 code)) (cs' := { c₀ with mode := .panicking [{ v := .iface 31 (.int .i64 code), recovered := true }] } :: cs) (by simp [recoverD, hu]) (by have := hsat.ts.sz; exact Nat.lt_of_lt_of_eq (show 7 < 23 by decide) this.symm) ?_)
  refine wpS_of_wp ?_
  obtain ⟨s1, h1, hs1⟩ := put_ok (s := ⟨argsT 0 [.p 3 0, .f (.func 31) [] [.p 1 0, .p 2 0]], [], _, nx, 23⟩) (ids := []) (d := some 7) (v := .ifc 31 (.i .i64 code)) (K := fun s => s = ⟨(7, .ifc 31 (.i .i64 code)) :: argsT 0 [.p 3 0, .f (.func 31) [] [.p 1 0, .p 2 0]], [], [(1, .cells [c0, c1, c2, c3, c4, c5, c6, c7, c8] 28), (2, .cells [m] 3), (3, .cells [e0] 31)], nx, 23⟩) rfl hsat.hs hsat.ts hsat.df (x := .iface 31 (.int .i64 code)) (fun _ => rfl) (fun n => absurd (fun e he => by cases he) n)
  subst h1
  obtain ⟨s2, h2, hs2⟩ := put_ok (s := ⟨(7, .ifc 31 (.i .i64 code)) :: argsT 0 [.p 3 0, .f (.func 31) [] [.p 1 0, .p 2 0]], [], _, nx, 23⟩) (ids := []) (d := some 4) (v := .ifc 31 (.i .i64 code)) (K := fun s => s = ⟨(4, .ifc 31 (.i .i64 code)) :: (7, .ifc 31 (.i .i64 code)) :: argsT 0 [.p 3 0, .f (.func 31) [] [.p 1 0, .p 2 0]], [], [(1, .cells [c0, c1, c2, c3, c4, c5, c6, c7, c8] 28), (2, .cells [m] 3), (3, .cells [e0] 31)], nx, 23⟩) rfl hs1.hs hs1.ts hs1.df (x := .iface 31 (.int .i64 code)) (fun _ => rfl) (fun n => absurd (fun e he => by cases he) n)
  subst h2
  refine wpx_ok tabK_ok (CI_ok tabK_ok 5) _ (K := fun e s' => (e = .normal ∧ s'.H = [(1, .cells noEv 28), (2, .cells [.n .i64 0] 3), (3, .cells [.i .i64 code] 31)]) ∧ s'.nx = nx) ?_ _ _ _ _ hs2 _ ?_
  · conv => whnf
    refine xop_assert (why := "an operation") (s := ⟨(11, .ifc 31 (.i .i64 code)) :: (9, .lb true) :: (8, .ifc 31 (.i .i64 code)) :: (4, .ifc 31 (.i .i64 code)) :: (7, .ifc 31 (.i .i64 code)) :: argsT 0 [.p 3 0, .f (.func 31) [] [.p 1 0, .p 2 0]], [], [(1, .cells [c0, c1, c2, c3, c4, c5, c6, c7, c8] 28), (2, .cells [m] 3), (3, .cells [e0] 31)], nx, 23⟩) (x := .tmp 11) (t1 := 20) (t := 31) (v := .i .i64 code) rfl rfl Tryd.underlying31 ?_
    cases nx with
    | zero =>
      conv => whnf
      exact ⟨⟨rfl, rfl⟩, rfl⟩
    | succ nx =>
      conv => whnf
      exact ⟨⟨rfl, rfl⟩, rfl⟩
  · intro e ρ' s' a' w' ⟨⟨he, hH⟩, hnx⟩ hs'
    subst he
    obtain ⟨h3, h4⟩ := hs.leave hs'.hs
    refine ⟨hs'.df, _, rfl, .tuple #[], results_none rfl _ _ _, ⟨_, rfl⟩, rfl, ρ', h3, ?_⟩
    rw [hH, hnx] at h4
    exact h4
end Go.Proofs.YtiibmnoikgfcbaaDoor
