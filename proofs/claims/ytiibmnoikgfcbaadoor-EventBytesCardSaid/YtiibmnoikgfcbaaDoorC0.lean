/- What a kind names, by the document: kind by kind, and as a summary; a site's bounds by the document. No condition but those in the summaries. -/
import Derived.Test.YtiibmnoikgfcbaaDoorT6
namespace Go.Proofs.YtiibmnoikgfcbaaDoor
open Go Go.Sx Go.RowKit
set_option maxRecDepth 100000
set_option linter.unusedVariables false
set_option linter.unusedSimpArgs false
noncomputable def inlI : List (Nat × Func) := [(67, Tryd.f67)]
theorem inlI_ok : inlAll Tryd.prog inlI := ⟨Tryd.func67, trivial⟩
noncomputable def tabI : Tab := mkTab tiRows eqL fnsL [] inlI 20 []
theorem tabI_ok : TabOk Tryd.prog tabI := mkTab_ok (by kernel_rfl) tiRows_ok eqL_ok fnsL_ok inlI_ok trivial
/-- Does a kind of 1 to 14 name this? -/
def inB (k c : Int) : Bool :=
  match k with
  | 2 | 3 => eqI c 97
  | 4 => eqI c 99
  | 5 | 6 | 7 | 8 | 9 | 10 | 12 => eqI c 111
  | 11 => eqI c 111 || eqI c 110
  | 14 => eqI c 116
  | _ => false

theorem in1 (c : Int) (w : World) : Calls Tryd.prog 37 #[.int .i64 1, .int .u8 c] w fun x w' => x = .returned (.bool (inB 1 c)) ∧ Below w.heap.size w w' := by
  refine calls_pure tabI_ok Tryd.func37 rfl [.n .i64 1, .i .u8 c] rfl Tryd.ntmps37 rfl _ (wpx_ok tabI_ok (CI_ok tabI_ok 5) _ ?_) w
  repeat' first | refine And.intro ?_ ?_ | intro _
  all_goals first | refine ret_lb ?_ | refine ret_b ?_ | skip
  all_goals
    simp [inB, eqI_ok] at *
    try omega

theorem in2 (c : Int) (w : World) : Calls Tryd.prog 37 #[.int .i64 2, .int .u8 c] w fun x w' => x = .returned (.bool (inB 2 c)) ∧ Below w.heap.size w w' := by
  refine calls_pure tabI_ok Tryd.func37 rfl [.n .i64 2, .i .u8 c] rfl Tryd.ntmps37 rfl _ (wpx_ok tabI_ok (CI_ok tabI_ok 5) _ ?_) w
  repeat' first | refine And.intro ?_ ?_ | intro _
  all_goals first | refine ret_lb ?_ | refine ret_b ?_ | skip
  all_goals
    simp [inB, eqI_ok] at *
    try omega

theorem in3 (c : Int) (w : World) : Calls Tryd.prog 37 #[.int .i64 3, .int .u8 c] w fun x w' => x = .returned (.bool (inB 3 c)) ∧ Below w.heap.size w w' := by
  refine calls_pure tabI_ok Tryd.func37 rfl [.n .i64 3, .i .u8 c] rfl Tryd.ntmps37 rfl _ (wpx_ok tabI_ok (CI_ok tabI_ok 5) _ ?_) w
  repeat' first | refine And.intro ?_ ?_ | intro _
  all_goals first | refine ret_lb ?_ | refine ret_b ?_ | skip
  all_goals
    simp [inB, eqI_ok] at *
    try omega

theorem in4 (c : Int) (w : World) : Calls Tryd.prog 37 #[.int .i64 4, .int .u8 c] w fun x w' => x = .returned (.bool (inB 4 c)) ∧ Below w.heap.size w w' := by
  refine calls_pure tabI_ok Tryd.func37 rfl [.n .i64 4, .i .u8 c] rfl Tryd.ntmps37 rfl _ (wpx_ok tabI_ok (CI_ok tabI_ok 5) _ ?_) w
  repeat' first | refine And.intro ?_ ?_ | intro _
  all_goals first | refine ret_lb ?_ | refine ret_b ?_ | skip
  all_goals
    simp [inB, eqI_ok] at *
    try omega

theorem in5 (c : Int) (w : World) : Calls Tryd.prog 37 #[.int .i64 5, .int .u8 c] w fun x w' => x = .returned (.bool (inB 5 c)) ∧ Below w.heap.size w w' := by
  refine calls_pure tabI_ok Tryd.func37 rfl [.n .i64 5, .i .u8 c] rfl Tryd.ntmps37 rfl _ (wpx_ok tabI_ok (CI_ok tabI_ok 5) _ ?_) w
  repeat' first | refine And.intro ?_ ?_ | intro _
  all_goals first | refine ret_lb ?_ | refine ret_b ?_ | skip
  all_goals
    simp [inB, eqI_ok] at *
    try omega

theorem in6 (c : Int) (w : World) : Calls Tryd.prog 37 #[.int .i64 6, .int .u8 c] w fun x w' => x = .returned (.bool (inB 6 c)) ∧ Below w.heap.size w w' := by
  refine calls_pure tabI_ok Tryd.func37 rfl [.n .i64 6, .i .u8 c] rfl Tryd.ntmps37 rfl _ (wpx_ok tabI_ok (CI_ok tabI_ok 5) _ ?_) w
  repeat' first | refine And.intro ?_ ?_ | intro _
  all_goals first | refine ret_lb ?_ | refine ret_b ?_ | skip
  all_goals
    simp [inB, eqI_ok] at *
    try omega

theorem in7 (c : Int) (w : World) : Calls Tryd.prog 37 #[.int .i64 7, .int .u8 c] w fun x w' => x = .returned (.bool (inB 7 c)) ∧ Below w.heap.size w w' := by
  refine calls_pure tabI_ok Tryd.func37 rfl [.n .i64 7, .i .u8 c] rfl Tryd.ntmps37 rfl _ (wpx_ok tabI_ok (CI_ok tabI_ok 5) _ ?_) w
  repeat' first | refine And.intro ?_ ?_ | intro _
  all_goals first | refine ret_lb ?_ | refine ret_b ?_ | skip
  all_goals
    simp [inB, eqI_ok] at *
    try omega

theorem in8 (c : Int) (w : World) : Calls Tryd.prog 37 #[.int .i64 8, .int .u8 c] w fun x w' => x = .returned (.bool (inB 8 c)) ∧ Below w.heap.size w w' := by
  refine calls_pure tabI_ok Tryd.func37 rfl [.n .i64 8, .i .u8 c] rfl Tryd.ntmps37 rfl _ (wpx_ok tabI_ok (CI_ok tabI_ok 5) _ ?_) w
  repeat' first | refine And.intro ?_ ?_ | intro _
  all_goals first | refine ret_lb ?_ | refine ret_b ?_ | skip
  all_goals
    simp [inB, eqI_ok] at *
    try omega

theorem in9 (c : Int) (w : World) : Calls Tryd.prog 37 #[.int .i64 9, .int .u8 c] w fun x w' => x = .returned (.bool (inB 9 c)) ∧ Below w.heap.size w w' := by
  refine calls_pure tabI_ok Tryd.func37 rfl [.n .i64 9, .i .u8 c] rfl Tryd.ntmps37 rfl _ (wpx_ok tabI_ok (CI_ok tabI_ok 5) _ ?_) w
  repeat' first | refine And.intro ?_ ?_ | intro _
  all_goals first | refine ret_lb ?_ | refine ret_b ?_ | skip
  all_goals
    simp [inB, eqI_ok] at *
    try omega

theorem in10 (c : Int) (w : World) : Calls Tryd.prog 37 #[.int .i64 10, .int .u8 c] w fun x w' => x = .returned (.bool (inB 10 c)) ∧ Below w.heap.size w w' := by
  refine calls_pure tabI_ok Tryd.func37 rfl [.n .i64 10, .i .u8 c] rfl Tryd.ntmps37 rfl _ (wpx_ok tabI_ok (CI_ok tabI_ok 5) _ ?_) w
  repeat' first | refine And.intro ?_ ?_ | intro _
  all_goals first | refine ret_lb ?_ | refine ret_b ?_ | skip
  all_goals
    simp [inB, eqI_ok] at *
    try omega

theorem in11 (c : Int) (w : World) : Calls Tryd.prog 37 #[.int .i64 11, .int .u8 c] w fun x w' => x = .returned (.bool (inB 11 c)) ∧ Below w.heap.size w w' := by
  refine calls_pure tabI_ok Tryd.func37 rfl [.n .i64 11, .i .u8 c] rfl Tryd.ntmps37 rfl _ (wpx_ok tabI_ok (CI_ok tabI_ok 5) _ ?_) w
  repeat' first | refine And.intro ?_ ?_ | intro _
  all_goals first | refine ret_lb ?_ | refine ret_b ?_ | skip
  all_goals
    simp [inB, eqI_ok] at *
    try omega

theorem in12 (c : Int) (w : World) : Calls Tryd.prog 37 #[.int .i64 12, .int .u8 c] w fun x w' => x = .returned (.bool (inB 12 c)) ∧ Below w.heap.size w w' := by
  refine calls_pure tabI_ok Tryd.func37 rfl [.n .i64 12, .i .u8 c] rfl Tryd.ntmps37 rfl _ (wpx_ok tabI_ok (CI_ok tabI_ok 5) _ ?_) w
  repeat' first | refine And.intro ?_ ?_ | intro _
  all_goals first | refine ret_lb ?_ | refine ret_b ?_ | skip
  all_goals
    simp [inB, eqI_ok] at *
    try omega

theorem in13 (c : Int) (w : World) : Calls Tryd.prog 37 #[.int .i64 13, .int .u8 c] w fun x w' => x = .returned (.bool (inB 13 c)) ∧ Below w.heap.size w w' := by
  refine calls_pure tabI_ok Tryd.func37 rfl [.n .i64 13, .i .u8 c] rfl Tryd.ntmps37 rfl _ (wpx_ok tabI_ok (CI_ok tabI_ok 5) _ ?_) w
  repeat' first | refine And.intro ?_ ?_ | intro _
  all_goals first | refine ret_lb ?_ | refine ret_b ?_ | skip
  all_goals
    simp [inB, eqI_ok] at *
    try omega

theorem in14 (c : Int) (w : World) : Calls Tryd.prog 37 #[.int .i64 14, .int .u8 c] w fun x w' => x = .returned (.bool (inB 14 c)) ∧ Below w.heap.size w w' := by
  refine calls_pure tabI_ok Tryd.func37 rfl [.n .i64 14, .i .u8 c] rfl Tryd.ntmps37 rfl _ (wpx_ok tabI_ok (CI_ok tabI_ok 5) _ ?_) w
  repeat' first | refine And.intro ?_ ?_ | intro _
  all_goals first | refine ret_lb ?_ | refine ret_b ?_ | skip
  all_goals
    simp [inB, eqI_ok] at *
    try omega

theorem in_c (k c : Int) (h1 : 1 ≤ k) (h2 : k ≤ 14) (w : World) : Calls Tryd.prog 37 #[.int .i64 k, .int .u8 c] w fun x w' => x = .returned (.bool (inB k c)) ∧ Below w.heap.size w w' := by
  have : k = 1 ∨ k = 2 ∨ k = 3 ∨ k = 4 ∨ k = 5 ∨ k = 6 ∨ k = 7 ∨ k = 8 ∨ k = 9 ∨ k = 10 ∨ k = 11 ∨ k = 12 ∨ k = 13 ∨ k = 14 := by omega
  rcases this with rfl | rfl | rfl | rfl | rfl | rfl | rfl | rfl | rfl | rfl | rfl | rfl | rfl | rfl
  · exact in1 c w
  · exact in2 c w
  · exact in3 c w
  · exact in4 c w
  · exact in5 c w
  · exact in6 c w
  · exact in7 c w
  · exact in8 c w
  · exact in9 c w
  · exact in10 c w
  · exact in11 c w
  · exact in12 c w
  · exact in13 c w
  · exact in14 c w
def sumIn : Sum := fun args _ _ => match args with
  | [.n .i64 k, .n .u8 c] => match ltI 0 k && ltI k 15 with
    | true => some (.val (.lb (inB k c)))
    | false => none
  | _ => none
theorem sumIn_ok : SumOk1 Tryd.prog 37 sumIn := by
  intro args H nx out h ρ w xs hH hd hn
  unfold sumIn at h
  split at h
  case h_2 => cases h
  rename_i k c
  split at h
  case h_2 => cases h
  rename_i hk
  cases h
  simp only [ltI_ok, Bool.and_eq_true, decide_eq_true_eq] at hk
  simp only [denL, den] at hd
  cases hd
  exact (in_c k c (by omega) (by omega) w).mono fun e w' ⟨q1, q2⟩ => ⟨_, q1, rfl, q2⟩

theorem siteR_c (f p : Int) (w : World) : Calls Tryd.prog 38 #[.agg #[.int .i64 f, .int .i64 p]] w fun x w' => x = .returned (.bool (siteOk f p)) ∧ Below w.heap.size w w' := by
  refine calls_pure tabI_ok Tryd.func38 rfl [.ag [.i .i64 f, .i .i64 p]] rfl Tryd.ntmps38 rfl _ (wpx_ok tabI_ok (CI_ok tabI_ok 5) _ ?_) w
  repeat' first | refine And.intro ?_ ?_ | intro _
  all_goals first | refine ret_lb ?_ | refine ret_b ?_ | skip
  all_goals
    rw [Bool.eq_iff_iff]
    simp [siteOk, Bool.cond_eq_ite] at *
    try omega
def sumSiteR : Sum := fun args _ _ => match args with
  | [.ag [x, y]] => match intK .i64 x, intK .i64 y with
    | some f, some p => some (.val (.b (siteOk f p)))
    | _, _ => none
  | _ => none
theorem sumSiteR_ok : SumOk1 Tryd.prog 38 sumSiteR := by
  intro args H nx out h ρ w xs hH hd hn
  unfold sumSiteR at h
  split at h
  case h_2 => cases h
  rename_i x y
  split at h
  case h_2 => cases h
  rename_i f p hf hp
  cases h
  obtain ⟨v, r, rfl, h1, h2⟩ := denL_cons hd
  cases h2
  simp only [den] at h1
  cases hxy : denL ρ [x, y] with
  | none => rw [hxy] at h1; cases h1
  | some l =>
    rw [hxy] at h1
    cases h1
    obtain ⟨a, r, rfl, e1, e2⟩ := denL_cons hxy
    obtain ⟨b, r, rfl, e3, e4⟩ := denL_cons e2
    cases e4
    have := intK_ok hf e1
    have := intK_ok hp e3
    subst a b
    exact (siteR_c f p w).mono fun e w' ⟨q1, q2⟩ => ⟨_, q1, rfl, q2⟩
end Go.Proofs.YtiibmnoikgfcbaaDoor
