/- Which events may be: the program's function and the document's agree. The event's parts lie in their types (EvT). -/
import Derived.Test.YtiibmnoikgfcbaaDoorC0
namespace Go.Proofs.YtiibmnoikgfcbaaDoor
open Go Go.Sx Go.RowKit
set_option maxRecDepth 100000
set_option maxHeartbeats 1000000
set_option linter.unusedVariables false
set_option linter.unusedSimpArgs false
noncomputable def tabC : Tab := mkTab tiRows eqL fnsL [] [] 20 [(37, sumIn), (38, sumSiteR)]
theorem tabC_ok : TabOk Tryd.prog tabC := mkTab_ok (by kernel_rfl) tiRows_ok eqL_ok fnsL_ok trivial ⟨sumIn_ok, sumSiteR_ok, trivial⟩
theorem cond_ne0 (b : Bool) : ((bif b then (0 : Int) else 2) != 0) = !b := by cases b <;> rfl

theorem right1 (e : Ev) (hk : e.k = 1) (ht : EvT e) (w : World) : Calls Tryd.prog 34 #[evV e] w fun x w' => x = .returned (.bool (evOk e)) ∧ Below w.heap.size w w' := by
  refine calls_pure tabB_ok Tryd.func34 rfl [.ag (evK' e 1)] (by simp only [evK', ← hk]; rfl) Tryd.ntmps34 rfl _ (wpx_ok tabB_ok (CI_ok tabB_ok 5) _ ?_) w
  obtain ⟨hg, hkk, hf, hp, had, hch, hob, hn, htr⟩ := ht
  conv => whnf
  repeat' ((first | refine And.intro (fun h => ?_) (fun h => ?_) | refine And.intro ?_ ?_) <;> conv => whnf)
  all_goals first | refine ret_lb ?_ | refine ret_b ?_ | trivial | intro h
  all_goals try (exfalso; omega)
  all_goals
    rw [Bool.eq_iff_iff]
    simp [evOk, siteOk, hk, cond_ne0, Int.negSucc_eq, IntKind.wrap_i64, IntKind.wrap_u32, IntKind.wrap_i32, Bool.cond_eq_ite] at *
    try omega

theorem right2 (e : Ev) (hk : e.k = 2) (ht : EvT e) (w : World) : Calls Tryd.prog 34 #[evV e] w fun x w' => x = .returned (.bool (evOk e)) ∧ Below w.heap.size w w' := by
  refine calls_pure tabB_ok Tryd.func34 rfl [.ag (evK' e 2)] (by simp only [evK', ← hk]; rfl) Tryd.ntmps34 rfl _ (wpx_ok tabB_ok (CI_ok tabB_ok 5) _ ?_) w
  obtain ⟨hg, hkk, hf, hp, had, hch, hob, hn, htr⟩ := ht
  conv => whnf
  repeat' ((first | refine And.intro (fun h => ?_) (fun h => ?_) | refine And.intro ?_ ?_) <;> conv => whnf)
  all_goals first | refine ret_lb ?_ | refine ret_b ?_ | trivial | intro h
  all_goals try (exfalso; omega)
  all_goals
    rw [Bool.eq_iff_iff]
    simp [evOk, siteOk, hk, cond_ne0, Int.negSucc_eq, IntKind.wrap_i64, IntKind.wrap_u32, IntKind.wrap_i32, Bool.cond_eq_ite] at *
    try omega

theorem right3 (e : Ev) (hk : e.k = 3) (ht : EvT e) (w : World) : Calls Tryd.prog 34 #[evV e] w fun x w' => x = .returned (.bool (evOk e)) ∧ Below w.heap.size w w' := by
  refine calls_pure tabB_ok Tryd.func34 rfl [.ag (evK' e 3)] (by simp only [evK', ← hk]; rfl) Tryd.ntmps34 rfl _ (wpx_ok tabB_ok (CI_ok tabB_ok 5) _ ?_) w
  obtain ⟨hg, hkk, hf, hp, had, hch, hob, hn, htr⟩ := ht
  conv => whnf
  repeat' ((first | refine And.intro (fun h => ?_) (fun h => ?_) | refine And.intro ?_ ?_) <;> conv => whnf)
  all_goals first | refine ret_lb ?_ | refine ret_b ?_ | trivial | intro h
  all_goals try (exfalso; omega)
  all_goals
    rw [Bool.eq_iff_iff]
    simp [evOk, siteOk, hk, cond_ne0, Int.negSucc_eq, IntKind.wrap_i64, IntKind.wrap_u32, IntKind.wrap_i32, Bool.cond_eq_ite] at *
    try omega

theorem right4 (e : Ev) (hk : e.k = 4) (ht : EvT e) (w : World) : Calls Tryd.prog 34 #[evV e] w fun x w' => x = .returned (.bool (evOk e)) ∧ Below w.heap.size w w' := by
  refine calls_pure tabB_ok Tryd.func34 rfl [.ag (evK' e 4)] (by simp only [evK', ← hk]; rfl) Tryd.ntmps34 rfl _ (wpx_ok tabB_ok (CI_ok tabB_ok 5) _ ?_) w
  obtain ⟨hg, hkk, hf, hp, had, hch, hob, hn, htr⟩ := ht
  conv => whnf
  repeat' ((first | refine And.intro (fun h => ?_) (fun h => ?_) | refine And.intro ?_ ?_) <;> conv => whnf)
  all_goals first | refine ret_lb ?_ | refine ret_b ?_ | trivial | intro h
  all_goals try (exfalso; omega)
  all_goals
    rw [Bool.eq_iff_iff]
    simp [evOk, siteOk, hk, cond_ne0, Int.negSucc_eq, IntKind.wrap_i64, IntKind.wrap_u32, IntKind.wrap_i32, Bool.cond_eq_ite] at *
    try omega

theorem right5 (e : Ev) (hk : e.k = 5) (ht : EvT e) (w : World) : Calls Tryd.prog 34 #[evV e] w fun x w' => x = .returned (.bool (evOk e)) ∧ Below w.heap.size w w' := by
  refine calls_pure tabB_ok Tryd.func34 rfl [.ag (evK' e 5)] (by simp only [evK', ← hk]; rfl) Tryd.ntmps34 rfl _ (wpx_ok tabB_ok (CI_ok tabB_ok 5) _ ?_) w
  obtain ⟨hg, hkk, hf, hp, had, hch, hob, hn, htr⟩ := ht
  conv => whnf
  repeat' ((first | refine And.intro (fun h => ?_) (fun h => ?_) | refine And.intro ?_ ?_) <;> conv => whnf)
  all_goals first | refine ret_lb ?_ | refine ret_b ?_ | trivial | intro h
  all_goals try (exfalso; omega)
  all_goals
    rw [Bool.eq_iff_iff]
    simp [evOk, siteOk, hk, cond_ne0, Int.negSucc_eq, IntKind.wrap_i64, IntKind.wrap_u32, IntKind.wrap_i32, Bool.cond_eq_ite] at *
    try omega

theorem right6 (e : Ev) (hk : e.k = 6) (ht : EvT e) (w : World) : Calls Tryd.prog 34 #[evV e] w fun x w' => x = .returned (.bool (evOk e)) ∧ Below w.heap.size w w' := by
  refine calls_pure tabB_ok Tryd.func34 rfl [.ag (evK' e 6)] (by simp only [evK', ← hk]; rfl) Tryd.ntmps34 rfl _ (wpx_ok tabB_ok (CI_ok tabB_ok 5) _ ?_) w
  obtain ⟨hg, hkk, hf, hp, had, hch, hob, hn, htr⟩ := ht
  conv => whnf
  repeat' ((first | refine And.intro (fun h => ?_) (fun h => ?_) | refine And.intro ?_ ?_) <;> conv => whnf)
  all_goals first | refine ret_lb ?_ | refine ret_b ?_ | trivial | intro h
  all_goals try (exfalso; omega)
  all_goals
    rw [Bool.eq_iff_iff]
    simp [evOk, siteOk, hk, cond_ne0, Int.negSucc_eq, IntKind.wrap_i64, IntKind.wrap_u32, IntKind.wrap_i32, Bool.cond_eq_ite] at *
    try omega

theorem right7 (e : Ev) (hk : e.k = 7) (ht : EvT e) (w : World) : Calls Tryd.prog 34 #[evV e] w fun x w' => x = .returned (.bool (evOk e)) ∧ Below w.heap.size w w' := by
  refine calls_pure tabB_ok Tryd.func34 rfl [.ag (evK' e 7)] (by simp only [evK', ← hk]; rfl) Tryd.ntmps34 rfl _ (wpx_ok tabB_ok (CI_ok tabB_ok 5) _ ?_) w
  obtain ⟨hg, hkk, hf, hp, had, hch, hob, hn, htr⟩ := ht
  conv => whnf
  repeat' ((first | refine And.intro (fun h => ?_) (fun h => ?_) | refine And.intro ?_ ?_) <;> conv => whnf)
  all_goals first | refine ret_lb ?_ | refine ret_b ?_ | trivial | intro h
  all_goals try (exfalso; omega)
  all_goals
    rw [Bool.eq_iff_iff]
    simp [evOk, siteOk, hk, cond_ne0, Int.negSucc_eq, IntKind.wrap_i64, IntKind.wrap_u32, IntKind.wrap_i32, Bool.cond_eq_ite] at *
    try omega

theorem right8 (e : Ev) (hk : e.k = 8) (ht : EvT e) (w : World) : Calls Tryd.prog 34 #[evV e] w fun x w' => x = .returned (.bool (evOk e)) ∧ Below w.heap.size w w' := by
  refine calls_pure tabB_ok Tryd.func34 rfl [.ag (evK' e 8)] (by simp only [evK', ← hk]; rfl) Tryd.ntmps34 rfl _ (wpx_ok tabB_ok (CI_ok tabB_ok 5) _ ?_) w
  obtain ⟨hg, hkk, hf, hp, had, hch, hob, hn, htr⟩ := ht
  conv => whnf
  repeat' ((first | refine And.intro (fun h => ?_) (fun h => ?_) | refine And.intro ?_ ?_) <;> conv => whnf)
  all_goals first | refine ret_lb ?_ | refine ret_b ?_ | trivial | intro h
  all_goals try (exfalso; omega)
  all_goals
    rw [Bool.eq_iff_iff]
    simp [evOk, siteOk, hk, cond_ne0, Int.negSucc_eq, IntKind.wrap_i64, IntKind.wrap_u32, IntKind.wrap_i32, Bool.cond_eq_ite] at *
    try omega

theorem right9 (e : Ev) (hk : e.k = 9) (ht : EvT e) (w : World) : Calls Tryd.prog 34 #[evV e] w fun x w' => x = .returned (.bool (evOk e)) ∧ Below w.heap.size w w' := by
  refine calls_pure tabB_ok Tryd.func34 rfl [.ag (evK' e 9)] (by simp only [evK', ← hk]; rfl) Tryd.ntmps34 rfl _ (wpx_ok tabB_ok (CI_ok tabB_ok 5) _ ?_) w
  obtain ⟨hg, hkk, hf, hp, had, hch, hob, hn, htr⟩ := ht
  conv => whnf
  repeat' ((first | refine And.intro (fun h => ?_) (fun h => ?_) | refine And.intro ?_ ?_) <;> conv => whnf)
  all_goals first | refine ret_lb ?_ | refine ret_b ?_ | trivial | intro h
  all_goals try (exfalso; omega)
  all_goals
    rw [Bool.eq_iff_iff]
    simp [evOk, siteOk, hk, cond_ne0, Int.negSucc_eq, IntKind.wrap_i64, IntKind.wrap_u32, IntKind.wrap_i32, Bool.cond_eq_ite] at *
    try omega

theorem right10 (e : Ev) (hk : e.k = 10) (ht : EvT e) (w : World) : Calls Tryd.prog 34 #[evV e] w fun x w' => x = .returned (.bool (evOk e)) ∧ Below w.heap.size w w' := by
  refine calls_pure tabB_ok Tryd.func34 rfl [.ag (evK' e 10)] (by simp only [evK', ← hk]; rfl) Tryd.ntmps34 rfl _ (wpx_ok tabB_ok (CI_ok tabB_ok 5) _ ?_) w
  obtain ⟨hg, hkk, hf, hp, had, hch, hob, hn, htr⟩ := ht
  conv => whnf
  repeat' ((first | refine And.intro (fun h => ?_) (fun h => ?_) | refine And.intro ?_ ?_) <;> conv => whnf)
  all_goals first | refine ret_lb ?_ | refine ret_b ?_ | trivial | intro h
  all_goals try (exfalso; omega)
  all_goals
    rw [Bool.eq_iff_iff]
    simp [evOk, siteOk, hk, cond_ne0, Int.negSucc_eq, IntKind.wrap_i64, IntKind.wrap_u32, IntKind.wrap_i32, Bool.cond_eq_ite] at *
    try omega

theorem right11 (e : Ev) (hk : e.k = 11) (ht : EvT e) (w : World) : Calls Tryd.prog 34 #[evV e] w fun x w' => x = .returned (.bool (evOk e)) ∧ Below w.heap.size w w' := by
  refine calls_pure tabB_ok Tryd.func34 rfl [.ag (evK' e 11)] (by simp only [evK', ← hk]; rfl) Tryd.ntmps34 rfl _ (wpx_ok tabB_ok (CI_ok tabB_ok 5) _ ?_) w
  obtain ⟨hg, hkk, hf, hp, had, hch, hob, hn, htr⟩ := ht
  conv => whnf
  repeat' ((first | refine And.intro (fun h => ?_) (fun h => ?_) | refine And.intro ?_ ?_) <;> conv => whnf)
  all_goals first | refine ret_lb ?_ | refine ret_b ?_ | trivial | intro h
  all_goals try (exfalso; omega)
  all_goals
    rw [Bool.eq_iff_iff]
    simp [evOk, siteOk, hk, cond_ne0, Int.negSucc_eq, IntKind.wrap_i64, IntKind.wrap_u32, IntKind.wrap_i32, Bool.cond_eq_ite] at *
    try omega

theorem right12 (e : Ev) (hk : e.k = 12) (ht : EvT e) (w : World) : Calls Tryd.prog 34 #[evV e] w fun x w' => x = .returned (.bool (evOk e)) ∧ Below w.heap.size w w' := by
  refine calls_pure tabB_ok Tryd.func34 rfl [.ag (evK' e 12)] (by simp only [evK', ← hk]; rfl) Tryd.ntmps34 rfl _ (wpx_ok tabB_ok (CI_ok tabB_ok 5) _ ?_) w
  obtain ⟨hg, hkk, hf, hp, had, hch, hob, hn, htr⟩ := ht
  conv => whnf
  repeat' ((first | refine And.intro (fun h => ?_) (fun h => ?_) | refine And.intro ?_ ?_) <;> conv => whnf)
  all_goals first | refine ret_lb ?_ | refine ret_b ?_ | trivial | intro h
  all_goals try (exfalso; omega)
  all_goals
    rw [Bool.eq_iff_iff]
    simp [evOk, siteOk, hk, cond_ne0, Int.negSucc_eq, IntKind.wrap_i64, IntKind.wrap_u32, IntKind.wrap_i32, Bool.cond_eq_ite] at *
    try omega

theorem right13 (e : Ev) (hk : e.k = 13) (ht : EvT e) (w : World) : Calls Tryd.prog 34 #[evV e] w fun x w' => x = .returned (.bool (evOk e)) ∧ Below w.heap.size w w' := by
  refine calls_pure tabB_ok Tryd.func34 rfl [.ag (evK' e 13)] (by simp only [evK', ← hk]; rfl) Tryd.ntmps34 rfl _ (wpx_ok tabB_ok (CI_ok tabB_ok 5) _ ?_) w
  obtain ⟨hg, hkk, hf, hp, had, hch, hob, hn, htr⟩ := ht
  conv => whnf
  repeat' ((first | refine And.intro (fun h => ?_) (fun h => ?_) | refine And.intro ?_ ?_) <;> conv => whnf)
  all_goals first | refine ret_lb ?_ | refine ret_b ?_ | trivial | intro h
  all_goals try (exfalso; omega)
  all_goals
    rw [Bool.eq_iff_iff]
    simp [evOk, siteOk, hk, cond_ne0, Int.negSucc_eq, IntKind.wrap_i64, IntKind.wrap_u32, IntKind.wrap_i32, Bool.cond_eq_ite] at *
    try omega

theorem right14 (e : Ev) (hk : e.k = 14) (ht : EvT e) (w : World) : Calls Tryd.prog 34 #[evV e] w fun x w' => x = .returned (.bool (evOk e)) ∧ Below w.heap.size w w' := by
  refine calls_pure tabB_ok Tryd.func34 rfl [.ag (evK' e 14)] (by simp only [evK', ← hk]; rfl) Tryd.ntmps34 rfl _ (wpx_ok tabB_ok (CI_ok tabB_ok 5) _ ?_) w
  obtain ⟨hg, hkk, hf, hp, had, hch, hob, hn, htr⟩ := ht
  conv => whnf
  repeat' ((first | refine And.intro (fun h => ?_) (fun h => ?_) | refine And.intro ?_ ?_) <;> conv => whnf)
  all_goals first | refine ret_lb ?_ | refine ret_b ?_ | trivial | intro h
  all_goals try (exfalso; omega)
  all_goals
    rw [Bool.eq_iff_iff]
    simp [evOk, siteOk, hk, cond_ne0, Int.negSucc_eq, IntKind.wrap_i64, IntKind.wrap_u32, IntKind.wrap_i32, Bool.cond_eq_ite] at *
    try omega

theorem right0 (e : Ev) (h0 : e.k < 1 ∨ 14 < e.k) (ht : EvT e) (w : World) : Calls Tryd.prog 34 #[evV e] w fun x w' => x = .returned (.bool (evOk e)) ∧ Below w.heap.size w w' := by
  refine calls_pure tabB_ok Tryd.func34 rfl [.ag (evS e)] rfl Tryd.ntmps34 rfl _ (wpx_ok tabB_ok (CI_ok tabB_ok 5) _ ?_) w
  obtain ⟨hg, hkk, hf, hp, had, hch, hob, hn, htr⟩ := ht
  conv => whnf
  repeat' ((first | refine And.intro (fun h => ?_) (fun h => ?_) | refine And.intro ?_ ?_) <;> conv => whnf)
  all_goals first | refine ret_lb ?_ | refine ret_b ?_ | trivial | intro h
  all_goals try (exfalso; omega)
  all_goals
    rw [Bool.eq_iff_iff]
    simp [evOk, siteOk, cond_ne0, Int.negSucc_eq, IntKind.wrap_i64, IntKind.wrap_u32, IntKind.wrap_i32, Bool.cond_eq_ite] at *
    try omega

theorem right_c (e : Ev) (ht : EvT e) (w : World) : Calls Tryd.prog 34 #[evV e] w fun x w' => x = .returned (.bool (evOk e)) ∧ Below w.heap.size w w' := by
  by_cases h1 : e.k = 1
  · exact right1 e h1 ht w
  by_cases h2 : e.k = 2
  · exact right2 e h2 ht w
  by_cases h3 : e.k = 3
  · exact right3 e h3 ht w
  by_cases h4 : e.k = 4
  · exact right4 e h4 ht w
  by_cases h5 : e.k = 5
  · exact right5 e h5 ht w
  by_cases h6 : e.k = 6
  · exact right6 e h6 ht w
  by_cases h7 : e.k = 7
  · exact right7 e h7 ht w
  by_cases h8 : e.k = 8
  · exact right8 e h8 ht w
  by_cases h9 : e.k = 9
  · exact right9 e h9 ht w
  by_cases h10 : e.k = 10
  · exact right10 e h10 ht w
  by_cases h11 : e.k = 11
  · exact right11 e h11 ht w
  by_cases h12 : e.k = 12
  · exact right12 e h12 ht w
  by_cases h13 : e.k = 13
  · exact right13 e h13 ht w
  by_cases h14 : e.k = 14
  · exact right14 e h14 ht w
  exact right0 e (by omega) ht w

theorem refRight1 (e : Ev) (hk : e.k = 1) (ht : EvT e) (w : World) : Calls Tryd.prog 13 #[evV e] w fun x w' => x = .returned (.bool (evOk e)) ∧ Below w.heap.size w w' := by
  refine calls_pure tabC_ok Tryd.func13 rfl [.ag (evK' e 1)] (by simp only [evK', ← hk]; rfl) Tryd.ntmps13 rfl _ (wpx_ok tabC_ok (CI_ok tabC_ok 5) _ ?_) w
  obtain ⟨hg, hkk, hf, hp, had, hch, hob, hn, htr⟩ := ht
  conv => whnf
  repeat' ((first | refine And.intro (fun h => ?_) (fun h => ?_) | refine And.intro ?_ ?_) <;> conv => whnf)
  all_goals first | refine ret_lb ?_ | refine ret_b ?_ | trivial | intro h
  all_goals try (exfalso; omega)
  all_goals
    rw [Bool.eq_iff_iff]
    simp [evOk, siteOk, hk, cond_ne0, Int.negSucc_eq, IntKind.wrap_i64, IntKind.wrap_u32, IntKind.wrap_i32, Bool.cond_eq_ite] at *
    try omega

theorem refRight2 (e : Ev) (hk : e.k = 2) (ht : EvT e) (w : World) : Calls Tryd.prog 13 #[evV e] w fun x w' => x = .returned (.bool (evOk e)) ∧ Below w.heap.size w w' := by
  refine calls_pure tabC_ok Tryd.func13 rfl [.ag (evK' e 2)] (by simp only [evK', ← hk]; rfl) Tryd.ntmps13 rfl _ (wpx_ok tabC_ok (CI_ok tabC_ok 5) _ ?_) w
  obtain ⟨hg, hkk, hf, hp, had, hch, hob, hn, htr⟩ := ht
  conv => whnf
  repeat' ((first | refine And.intro (fun h => ?_) (fun h => ?_) | refine And.intro ?_ ?_) <;> conv => whnf)
  all_goals first | refine ret_lb ?_ | refine ret_b ?_ | trivial | intro h
  all_goals try (exfalso; omega)
  all_goals
    rw [Bool.eq_iff_iff]
    simp [evOk, siteOk, hk, cond_ne0, Int.negSucc_eq, IntKind.wrap_i64, IntKind.wrap_u32, IntKind.wrap_i32, Bool.cond_eq_ite] at *
    try omega

theorem refRight3 (e : Ev) (hk : e.k = 3) (ht : EvT e) (w : World) : Calls Tryd.prog 13 #[evV e] w fun x w' => x = .returned (.bool (evOk e)) ∧ Below w.heap.size w w' := by
  refine calls_pure tabC_ok Tryd.func13 rfl [.ag (evK' e 3)] (by simp only [evK', ← hk]; rfl) Tryd.ntmps13 rfl _ (wpx_ok tabC_ok (CI_ok tabC_ok 5) _ ?_) w
  obtain ⟨hg, hkk, hf, hp, had, hch, hob, hn, htr⟩ := ht
  conv => whnf
  repeat' ((first | refine And.intro (fun h => ?_) (fun h => ?_) | refine And.intro ?_ ?_) <;> conv => whnf)
  all_goals first | refine ret_lb ?_ | refine ret_b ?_ | trivial | intro h
  all_goals try (exfalso; omega)
  all_goals
    rw [Bool.eq_iff_iff]
    simp [evOk, siteOk, hk, cond_ne0, Int.negSucc_eq, IntKind.wrap_i64, IntKind.wrap_u32, IntKind.wrap_i32, Bool.cond_eq_ite] at *
    try omega

theorem refRight4 (e : Ev) (hk : e.k = 4) (ht : EvT e) (w : World) : Calls Tryd.prog 13 #[evV e] w fun x w' => x = .returned (.bool (evOk e)) ∧ Below w.heap.size w w' := by
  refine calls_pure tabC_ok Tryd.func13 rfl [.ag (evK' e 4)] (by simp only [evK', ← hk]; rfl) Tryd.ntmps13 rfl _ (wpx_ok tabC_ok (CI_ok tabC_ok 5) _ ?_) w
  obtain ⟨hg, hkk, hf, hp, had, hch, hob, hn, htr⟩ := ht
  conv => whnf
  repeat' ((first | refine And.intro (fun h => ?_) (fun h => ?_) | refine And.intro ?_ ?_) <;> conv => whnf)
  all_goals first | refine ret_lb ?_ | refine ret_b ?_ | trivial | intro h
  all_goals try (exfalso; omega)
  all_goals
    rw [Bool.eq_iff_iff]
    simp [evOk, siteOk, hk, cond_ne0, Int.negSucc_eq, IntKind.wrap_i64, IntKind.wrap_u32, IntKind.wrap_i32, Bool.cond_eq_ite] at *
    try omega

theorem refRight5 (e : Ev) (hk : e.k = 5) (ht : EvT e) (w : World) : Calls Tryd.prog 13 #[evV e] w fun x w' => x = .returned (.bool (evOk e)) ∧ Below w.heap.size w w' := by
  refine calls_pure tabC_ok Tryd.func13 rfl [.ag (evK' e 5)] (by simp only [evK', ← hk]; rfl) Tryd.ntmps13 rfl _ (wpx_ok tabC_ok (CI_ok tabC_ok 5) _ ?_) w
  obtain ⟨hg, hkk, hf, hp, had, hch, hob, hn, htr⟩ := ht
  conv => whnf
  repeat' ((first | refine And.intro (fun h => ?_) (fun h => ?_) | refine And.intro ?_ ?_) <;> conv => whnf)
  all_goals first | refine ret_lb ?_ | refine ret_b ?_ | trivial | intro h
  all_goals try (exfalso; omega)
  all_goals
    rw [Bool.eq_iff_iff]
    simp [evOk, siteOk, hk, cond_ne0, Int.negSucc_eq, IntKind.wrap_i64, IntKind.wrap_u32, IntKind.wrap_i32, Bool.cond_eq_ite] at *
    try omega

theorem refRight6 (e : Ev) (hk : e.k = 6) (ht : EvT e) (w : World) : Calls Tryd.prog 13 #[evV e] w fun x w' => x = .returned (.bool (evOk e)) ∧ Below w.heap.size w w' := by
  refine calls_pure tabC_ok Tryd.func13 rfl [.ag (evK' e 6)] (by simp only [evK', ← hk]; rfl) Tryd.ntmps13 rfl _ (wpx_ok tabC_ok (CI_ok tabC_ok 5) _ ?_) w
  obtain ⟨hg, hkk, hf, hp, had, hch, hob, hn, htr⟩ := ht
  conv => whnf
  repeat' ((first | refine And.intro (fun h => ?_) (fun h => ?_) | refine And.intro ?_ ?_) <;> conv => whnf)
  all_goals first | refine ret_lb ?_ | refine ret_b ?_ | trivial | intro h
  all_goals try (exfalso; omega)
  all_goals
    rw [Bool.eq_iff_iff]
    simp [evOk, siteOk, hk, cond_ne0, Int.negSucc_eq, IntKind.wrap_i64, IntKind.wrap_u32, IntKind.wrap_i32, Bool.cond_eq_ite] at *
    try omega

theorem refRight7 (e : Ev) (hk : e.k = 7) (ht : EvT e) (w : World) : Calls Tryd.prog 13 #[evV e] w fun x w' => x = .returned (.bool (evOk e)) ∧ Below w.heap.size w w' := by
  refine calls_pure tabC_ok Tryd.func13 rfl [.ag (evK' e 7)] (by simp only [evK', ← hk]; rfl) Tryd.ntmps13 rfl _ (wpx_ok tabC_ok (CI_ok tabC_ok 5) _ ?_) w
  obtain ⟨hg, hkk, hf, hp, had, hch, hob, hn, htr⟩ := ht
  conv => whnf
  repeat' ((first | refine And.intro (fun h => ?_) (fun h => ?_) | refine And.intro ?_ ?_) <;> conv => whnf)
  all_goals first | refine ret_lb ?_ | refine ret_b ?_ | trivial | intro h
  all_goals try (exfalso; omega)
  all_goals
    rw [Bool.eq_iff_iff]
    simp [evOk, siteOk, hk, cond_ne0, Int.negSucc_eq, IntKind.wrap_i64, IntKind.wrap_u32, IntKind.wrap_i32, Bool.cond_eq_ite] at *
    try omega

theorem refRight8 (e : Ev) (hk : e.k = 8) (ht : EvT e) (w : World) : Calls Tryd.prog 13 #[evV e] w fun x w' => x = .returned (.bool (evOk e)) ∧ Below w.heap.size w w' := by
  refine calls_pure tabC_ok Tryd.func13 rfl [.ag (evK' e 8)] (by simp only [evK', ← hk]; rfl) Tryd.ntmps13 rfl _ (wpx_ok tabC_ok (CI_ok tabC_ok 5) _ ?_) w
  obtain ⟨hg, hkk, hf, hp, had, hch, hob, hn, htr⟩ := ht
  conv => whnf
  repeat' ((first | refine And.intro (fun h => ?_) (fun h => ?_) | refine And.intro ?_ ?_) <;> conv => whnf)
  all_goals first | refine ret_lb ?_ | refine ret_b ?_ | trivial | intro h
  all_goals try (exfalso; omega)
  all_goals
    rw [Bool.eq_iff_iff]
    simp [evOk, siteOk, hk, cond_ne0, Int.negSucc_eq, IntKind.wrap_i64, IntKind.wrap_u32, IntKind.wrap_i32, Bool.cond_eq_ite] at *
    try omega

theorem refRight9 (e : Ev) (hk : e.k = 9) (ht : EvT e) (w : World) : Calls Tryd.prog 13 #[evV e] w fun x w' => x = .returned (.bool (evOk e)) ∧ Below w.heap.size w w' := by
  refine calls_pure tabC_ok Tryd.func13 rfl [.ag (evK' e 9)] (by simp only [evK', ← hk]; rfl) Tryd.ntmps13 rfl _ (wpx_ok tabC_ok (CI_ok tabC_ok 5) _ ?_) w
  obtain ⟨hg, hkk, hf, hp, had, hch, hob, hn, htr⟩ := ht
  conv => whnf
  repeat' ((first | refine And.intro (fun h => ?_) (fun h => ?_) | refine And.intro ?_ ?_) <;> conv => whnf)
  all_goals first | refine ret_lb ?_ | refine ret_b ?_ | trivial | intro h
  all_goals try (exfalso; omega)
  all_goals
    rw [Bool.eq_iff_iff]
    simp [evOk, siteOk, hk, cond_ne0, Int.negSucc_eq, IntKind.wrap_i64, IntKind.wrap_u32, IntKind.wrap_i32, Bool.cond_eq_ite] at *
    try omega

theorem refRight10 (e : Ev) (hk : e.k = 10) (ht : EvT e) (w : World) : Calls Tryd.prog 13 #[evV e] w fun x w' => x = .returned (.bool (evOk e)) ∧ Below w.heap.size w w' := by
  refine calls_pure tabC_ok Tryd.func13 rfl [.ag (evK' e 10)] (by simp only [evK', ← hk]; rfl) Tryd.ntmps13 rfl _ (wpx_ok tabC_ok (CI_ok tabC_ok 5) _ ?_) w
  obtain ⟨hg, hkk, hf, hp, had, hch, hob, hn, htr⟩ := ht
  conv => whnf
  repeat' ((first | refine And.intro (fun h => ?_) (fun h => ?_) | refine And.intro ?_ ?_) <;> conv => whnf)
  all_goals first | refine ret_lb ?_ | refine ret_b ?_ | trivial | intro h
  all_goals try (exfalso; omega)
  all_goals
    rw [Bool.eq_iff_iff]
    simp [evOk, siteOk, hk, cond_ne0, Int.negSucc_eq, IntKind.wrap_i64, IntKind.wrap_u32, IntKind.wrap_i32, Bool.cond_eq_ite] at *
    try omega

theorem refRight11 (e : Ev) (hk : e.k = 11) (ht : EvT e) (w : World) : Calls Tryd.prog 13 #[evV e] w fun x w' => x = .returned (.bool (evOk e)) ∧ Below w.heap.size w w' := by
  refine calls_pure tabC_ok Tryd.func13 rfl [.ag (evK' e 11)] (by simp only [evK', ← hk]; rfl) Tryd.ntmps13 rfl _ (wpx_ok tabC_ok (CI_ok tabC_ok 5) _ ?_) w
  obtain ⟨hg, hkk, hf, hp, had, hch, hob, hn, htr⟩ := ht
  conv => whnf
  repeat' ((first | refine And.intro (fun h => ?_) (fun h => ?_) | refine And.intro ?_ ?_) <;> conv => whnf)
  all_goals first | refine ret_lb ?_ | refine ret_b ?_ | trivial | intro h
  all_goals try (exfalso; omega)
  all_goals
    rw [Bool.eq_iff_iff]
    simp [evOk, siteOk, hk, cond_ne0, Int.negSucc_eq, IntKind.wrap_i64, IntKind.wrap_u32, IntKind.wrap_i32, Bool.cond_eq_ite] at *
    try omega

theorem refRight12 (e : Ev) (hk : e.k = 12) (ht : EvT e) (w : World) : Calls Tryd.prog 13 #[evV e] w fun x w' => x = .returned (.bool (evOk e)) ∧ Below w.heap.size w w' := by
  refine calls_pure tabC_ok Tryd.func13 rfl [.ag (evK' e 12)] (by simp only [evK', ← hk]; rfl) Tryd.ntmps13 rfl _ (wpx_ok tabC_ok (CI_ok tabC_ok 5) _ ?_) w
  obtain ⟨hg, hkk, hf, hp, had, hch, hob, hn, htr⟩ := ht
  conv => whnf
  repeat' ((first | refine And.intro (fun h => ?_) (fun h => ?_) | refine And.intro ?_ ?_) <;> conv => whnf)
  all_goals first | refine ret_lb ?_ | refine ret_b ?_ | trivial | intro h
  all_goals try (exfalso; omega)
  all_goals
    rw [Bool.eq_iff_iff]
    simp [evOk, siteOk, hk, cond_ne0, Int.negSucc_eq, IntKind.wrap_i64, IntKind.wrap_u32, IntKind.wrap_i32, Bool.cond_eq_ite] at *
    try omega

theorem refRight13 (e : Ev) (hk : e.k = 13) (ht : EvT e) (w : World) : Calls Tryd.prog 13 #[evV e] w fun x w' => x = .returned (.bool (evOk e)) ∧ Below w.heap.size w w' := by
  refine calls_pure tabC_ok Tryd.func13 rfl [.ag (evK' e 13)] (by simp only [evK', ← hk]; rfl) Tryd.ntmps13 rfl _ (wpx_ok tabC_ok (CI_ok tabC_ok 5) _ ?_) w
  obtain ⟨hg, hkk, hf, hp, had, hch, hob, hn, htr⟩ := ht
  conv => whnf
  repeat' ((first | refine And.intro (fun h => ?_) (fun h => ?_) | refine And.intro ?_ ?_) <;> conv => whnf)
  all_goals first | refine ret_lb ?_ | refine ret_b ?_ | trivial | intro h
  all_goals try (exfalso; omega)
  all_goals
    rw [Bool.eq_iff_iff]
    simp [evOk, siteOk, hk, cond_ne0, Int.negSucc_eq, IntKind.wrap_i64, IntKind.wrap_u32, IntKind.wrap_i32, Bool.cond_eq_ite] at *
    try omega

theorem refRight14 (e : Ev) (hk : e.k = 14) (ht : EvT e) (w : World) : Calls Tryd.prog 13 #[evV e] w fun x w' => x = .returned (.bool (evOk e)) ∧ Below w.heap.size w w' := by
  refine calls_pure tabC_ok Tryd.func13 rfl [.ag (evK' e 14)] (by simp only [evK', ← hk]; rfl) Tryd.ntmps13 rfl _ (wpx_ok tabC_ok (CI_ok tabC_ok 5) _ ?_) w
  obtain ⟨hg, hkk, hf, hp, had, hch, hob, hn, htr⟩ := ht
  conv => whnf
  repeat' ((first | refine And.intro (fun h => ?_) (fun h => ?_) | refine And.intro ?_ ?_) <;> conv => whnf)
  all_goals first | refine ret_lb ?_ | refine ret_b ?_ | trivial | intro h
  all_goals try (exfalso; omega)
  all_goals
    rw [Bool.eq_iff_iff]
    simp [evOk, siteOk, hk, cond_ne0, Int.negSucc_eq, IntKind.wrap_i64, IntKind.wrap_u32, IntKind.wrap_i32, Bool.cond_eq_ite] at *
    try omega

theorem refRight0 (e : Ev) (h0 : e.k < 1 ∨ 14 < e.k) (ht : EvT e) (w : World) : Calls Tryd.prog 13 #[evV e] w fun x w' => x = .returned (.bool (evOk e)) ∧ Below w.heap.size w w' := by
  refine calls_pure tabC_ok Tryd.func13 rfl [.ag (evS e)] rfl Tryd.ntmps13 rfl _ (wpx_ok tabC_ok (CI_ok tabC_ok 5) _ ?_) w
  obtain ⟨hg, hkk, hf, hp, had, hch, hob, hn, htr⟩ := ht
  conv => whnf
  refine And.intro (fun h => ?_) (fun h => ?_)
  · conv => whnf
    refine ret_lb ?_
    rw [Bool.eq_iff_iff]
    simp [evOk, siteOk, cond_ne0, Bool.cond_eq_ite] at *
    try omega
  · exfalso
    simp [siteOk, Bool.cond_eq_ite] at h
    omega

theorem refRight_c (e : Ev) (ht : EvT e) (w : World) : Calls Tryd.prog 13 #[evV e] w fun x w' => x = .returned (.bool (evOk e)) ∧ Below w.heap.size w w' := by
  by_cases h1 : e.k = 1
  · exact refRight1 e h1 ht w
  by_cases h2 : e.k = 2
  · exact refRight2 e h2 ht w
  by_cases h3 : e.k = 3
  · exact refRight3 e h3 ht w
  by_cases h4 : e.k = 4
  · exact refRight4 e h4 ht w
  by_cases h5 : e.k = 5
  · exact refRight5 e h5 ht w
  by_cases h6 : e.k = 6
  · exact refRight6 e h6 ht w
  by_cases h7 : e.k = 7
  · exact refRight7 e h7 ht w
  by_cases h8 : e.k = 8
  · exact refRight8 e h8 ht w
  by_cases h9 : e.k = 9
  · exact refRight9 e h9 ht w
  by_cases h10 : e.k = 10
  · exact refRight10 e h10 ht w
  by_cases h11 : e.k = 11
  · exact refRight11 e h11 ht w
  by_cases h12 : e.k = 12
  · exact refRight12 e h12 ht w
  by_cases h13 : e.k = 13
  · exact refRight13 e h13 ht w
  by_cases h14 : e.k = 14
  · exact refRight14 e h14 ht w
  exact refRight0 e (by omega) ht w

end Go.Proofs.YtiibmnoikgfcbaaDoor
