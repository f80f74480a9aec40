/- Events as arguments; summaries of what is asked of one event or two. The event's parts lie in their types where it says so. Check, Releases, Conflict, the document's Leads: what they answer. Check: the event's parts lie in their types (EvT). -/
import Derived.Test.YtiibmnoikgfcbaaDoorC1
namespace Go.Proofs.YtiibmnoikgfcbaaDoor
open Go Go.Sx Go.RowKit
set_option maxRecDepth 100000
set_option linter.unusedVariables false
set_option linter.unusedSimpArgs false

/-- An event, told by its cells. -/
def evOf : SV → Option Ev
  | .ag [g, k, f, p, ad, ch, ob, n, tr] => match intK .i64 g, intK .i64 k, intK .i64 f, intK .i64 p, intK .u32 ad with
    | some g, some k, some f, some p, some ad => match intK .i64 ch, intK .i64 ob, intK .i64 n, intK .i64 tr with
      | some ch, some ob, some n, some tr => some ⟨g, k, f, p, ad, ch, ob, n, tr⟩
      | _, _, _, _ => none
    | _, _, _, _, _ => none
  | _ => none
theorem evOf_ok {ρ : Vl} {v : SV} {e : Ev} {x : Value} (h : evOf v = some e) (hx : den ρ v = some x) : x = evV e := by
  unfold evOf at h
  split at h
  case h_2 => cases h
  rename_i g k f p ad ch ob n tr
  split at h
  case h_2 => cases h
  rename_i h1 h2 h3 h4 h5
  split at h
  case h_2 => cases h
  rename_i h6 h7 h8 h9
  cases h
  simp only [den] at hx
  cases hl : denL ρ [g, k, f, p, ad, ch, ob, n, tr] with
  | none => rw [hl] at hx; cases hx
  | some l =>
    rw [hl] at hx
    cases hx
    obtain ⟨_, _, rfl, e1, hl⟩ := denL_cons hl
    obtain ⟨_, _, rfl, e2, hl⟩ := denL_cons hl
    obtain ⟨_, _, rfl, e3, hl⟩ := denL_cons hl
    obtain ⟨_, _, rfl, e4, hl⟩ := denL_cons hl
    obtain ⟨_, _, rfl, e5, hl⟩ := denL_cons hl
    obtain ⟨_, _, rfl, e6, hl⟩ := denL_cons hl
    obtain ⟨_, _, rfl, e7, hl⟩ := denL_cons hl
    obtain ⟨_, _, rfl, e8, hl⟩ := denL_cons hl
    obtain ⟨_, _, rfl, e9, hl⟩ := denL_cons hl
    cases hl
    rw [intK_ok h1 e1, intK_ok h2 e2, intK_ok h3 e3, intK_ok h4 e4, intK_ok h5 e5, intK_ok h6 e6, intK_ok h7 e7, intK_ok h8 e8, intK_ok h9 e9]
    rfl

/-- A truth that is asked of an event. -/
def sumEv (p : Ev → Prop) (b : Ev → SV) : Sum := fun args _ _ => match args with
  | [v] => match evOf v with
    | some e => some (.ob (p e) (.val (b e)))
    | none => none
  | _ => none
theorem sumEv_ok {f : FuncId} {p : Ev → Prop} {b : Ev → SV} {y : Ev → Value} (hb : ∀ e ρ, den ρ (b e) = some (y e)) (h : ∀ e, p e → ∀ w, Calls Tryd.prog f #[evV e] w fun x w' => x = .returned (y e) ∧ Below w.heap.size w w') : SumOk1 Tryd.prog f (sumEv p b) := by
  intro args H nx out ho ρ w xs hH hd hn
  unfold sumEv at ho
  split at ho
  case h_2 => cases ho
  rename_i v
  split at ho
  case h_2 => cases ho
  rename_i e he
  cases ho
  obtain ⟨x, r, rfl, h1, h2⟩ := denL_cons hd
  cases h2
  have := evOf_ok he h1
  subst this
  exact fun hp => (h e hp w).mono fun x w' ⟨q1, q2⟩ => ⟨_, q1, hb e ρ, q2⟩
def sumEv2 (b : Ev → Ev → SV) : Sum := fun args _ _ => match args with
  | [u, v] => match evOf u, evOf v with
    | some e, some e' => some (.val (b e e'))
    | _, _ => none
  | _ => none
theorem sumEv2_ok {f : FuncId} {b : Ev → Ev → SV} {y : Ev → Ev → Value} (hb : ∀ e e' ρ, den ρ (b e e') = some (y e e')) (h : ∀ e e' w, Calls Tryd.prog f #[evV e, evV e'] w fun x w' => x = .returned (y e e') ∧ Below w.heap.size w w') : SumOk1 Tryd.prog f (sumEv2 b) := by
  intro args H nx out ho ρ w xs hH hd hn
  unfold sumEv2 at ho
  split at ho
  case h_2 => cases ho
  rename_i u v
  split at ho
  case h_2 => cases ho
  rename_i e e' he he'
  cases ho
  obtain ⟨x, r, rfl, h1, h2⟩ := denL_cons hd
  obtain ⟨x', r, rfl, h3, h4⟩ := denL_cons h2
  cases h4
  have := evOf_ok he h1
  have := evOf_ok he' h3
  subst x x'
  exact (h e e' w).mono fun x w' ⟨q1, q2⟩ => ⟨_, q1, hb e e' ρ, q2⟩

def sumRight : Sum := sumEv EvT fun e => .b (evOk e)
theorem sumRight_ok : SumOk1 Tryd.prog 34 sumRight := sumEv_ok (y := fun e => .bool (evOk e)) (fun _ _ => rfl) fun e h w => right_c e h w
theorem sumRefRight_ok : SumOk1 Tryd.prog 13 sumRight := sumEv_ok (y := fun e => .bool (evOk e)) (fun _ _ => rfl) fun e h w => refRight_c e h w
end Go.Proofs.YtiibmnoikgfcbaaDoor

namespace Go.Proofs.YtiibmnoikgfcbaaDoor
open Go Go.Sx Go.RowKit
set_option maxRecDepth 100000
set_option maxHeartbeats 400000
set_option linter.unusedVariables false
set_option linter.unusedSimpArgs false

noncomputable def inlD : List (Nat × Func) := [(41, Tryd.f41), (42, Tryd.f42)]
theorem inlD_ok : inlAll Tryd.prog inlD := ⟨Tryd.func41, Tryd.func42, trivial⟩
noncomputable def tabD : Tab := mkTab tiRows eqL fnsL [] inlD 20 [(34, sumRight)]
theorem tabD_ok : TabOk Tryd.prog tabD := mkTab_ok (by kernel_rfl) tiRows_ok eqL_ok fnsL_ok inlD_ok ⟨sumRight_ok, trivial⟩

theorem check_c (e : Ev) (ht : EvT e) (w : World) : Calls Tryd.prog 22 #[evV e] w fun x w' => x = .returned (.int .i64 (bif evOk e then 0 else 2)) ∧ Below w.heap.size w w' := by
  refine calls_pure tabD_ok Tryd.func22 rfl [.ag (evS e)] rfl Tryd.ntmps22 rfl _ (wpx_ok tabD_ok (CI_ok tabD_ok 5) _ ?_) w
  conv => whnf
  refine And.intro ht ?_
  conv => whnf
  refine And.intro (fun h => ?_) (fun h => ?_) <;> conv => whnf
  · refine ret_n ?_
    cases hb : evOk e <;> simp_all
  · refine ret_n ?_
    cases hb : evOk e <;> simp_all

def relB (e : Ev) : Bool := e.k == 4 || (e.k == 6 || (e.k == 8 || (e.k == 10 || (e.k == 11 && decide (e.n < 0)))))
theorem releases_c (e : Ev) (w : World) : Calls Tryd.prog 19 #[evV e] w fun x w' => x = .returned (.bool (relB e)) ∧ Below w.heap.size w w' := by
  refine calls_pure tabD_ok Tryd.func19 rfl [.ag (evS e)] rfl Tryd.ntmps19 rfl _ (wpx_ok tabD_ok (CI_ok tabD_ok 5) _ ?_) w
  conv => whnf
  repeat' ((first | refine And.intro (fun h => ?_) (fun h => ?_) | refine And.intro ?_ ?_) <;> conv => whnf)
  all_goals first | refine ret_lb ?_ | refine ret_b ?_
  all_goals
    rw [Bool.eq_iff_iff]
    simp [relB] at *
    try omega
theorem refReleases_c (e : Ev) (w : World) : Calls Tryd.prog 23 #[evV e] w fun x w' => x = .returned (.bool (relB e)) ∧ Below w.heap.size w w' := by
  refine calls_pure tabD_ok Tryd.func23 rfl [.ag (evS e)] rfl Tryd.ntmps23 rfl _ (wpx_ok tabD_ok (CI_ok tabD_ok 5) _ ?_) w
  conv => whnf
  repeat' ((first | refine And.intro (fun h => ?_) (fun h => ?_) | refine And.intro ?_ ?_) <;> conv => whnf)
  all_goals first | refine ret_lb ?_ | refine ret_b ?_
  all_goals
    rw [Bool.eq_iff_iff]
    simp [relB, Bool.cond_eq_ite] at *
    try omega
end Go.Proofs.YtiibmnoikgfcbaaDoor
