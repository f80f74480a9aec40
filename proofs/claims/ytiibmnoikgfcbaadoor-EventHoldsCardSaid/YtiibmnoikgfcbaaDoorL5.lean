/- The law EventHolds (function 5) answers true. The table of powers stands; the events' parts lie in their types. -/
import Derived.Test.YtiibmnoikgfcbaaDoorL4
import Derived.Test.YtiibmnoikgfcbaaDoorM2
namespace Go.Proofs.YtiibmnoikgfcbaaDoor
open Go Go.Sx Go.RowKit
set_option maxRecDepth 100000
set_option maxHeartbeats 1000000
set_option linter.unusedVariables false
set_option linter.unusedSimpArgs false

theorem conB_comm (a b : Ev) : conB a b = conB b a := by
  rw [Bool.eq_iff_iff]
  simp only [conB, Bool.and_eq_true, Bool.or_eq_true, beq_iff_eq]
  constructor
  · rintro ⟨h1, h2, h3, h4⟩
    exact ⟨h2, h1, h3.symm, h4.symm⟩
  · rintro ⟨h1, h2, h3, h4⟩
    exact ⟨h2, h1, h3.symm, h4.symm⟩
theorem leadB_refl (a : Ev) : leadB a a = true := by simp [leadB]
theorem lead_rel {a b : Ev} (h : leadB a b = true) (hg : a.g ≠ b.g) : relB a = true := by
  simp [leadB, relB] at *
  omega
noncomputable def tabL5 : Tab := mkTab tiRows eqL fnsL [] [] 20 [(8, sumWorks), (15, sumConf), (17, sumLeads), (19, sumRel), (9, sumBytes), (20, sumText), (12, sumNum)]
theorem tabL5_ok : TabOk Tryd.prog tabL5 := mkTab_ok (by kernel_rfl) tiRows_ok eqL_ok fnsL_ok trivial ⟨sumWorks_ok, sumConf_ok, sumLeads_ok, sumRel_ok, sumBytes_ok, sumText_ok, sumNum_ok, trivial⟩
theorem law5_c (a b : Ev) (ha : EvT a) (hb : EvT b) (w : World) (hA : powA.rep w (.blk 0)) : Calls Tryd.prog 5 #[evV a, evV b] w fun x w' => x = .returned (.bool true) ∧ Below w.heap.size w w' := by
  refine calls_tab tabL5_ok Tryd.func5 rfl powA [.ag (evS a), .ag (evS b)] rfl Tryd.ntmps5 rfl _ (wpx_ok tabL5_ok (CI_ok tabL5_ok 5) _ ?_) w hA
  conv => whnf
  refine And.intro (by (conv => whnf); exact fun _ => trivial) ?_
  conv => whnf
  refine And.intro (fun h => ?_) (fun _ => ?_)
  · exfalso
    revert h
    change ¬ (bif bif !(conB a b == conB b a) then true else !leadB a a then true else bif bif leadB a b then a.g != b.g else false then !relB a else false) = true
    rw [conB_comm a b, leadB_refl]
    have := lead_rel (a := a) (b := b)
    cases h1 : leadB a b <;> cases h2 : relB a <;> simp_all
  conv => whnf
  refine And.intro ha ?_
  conv => whnf
  refine And.intro hb ?_
  conv => whnf
  refine And.intro (by (conv => whnf); exact ⟨rfl, ha⟩) ?_
  conv => whnf
  refine And.intro (by (conv => whnf); exact ⟨rfl, hb⟩) ?_
  conv => whnf
  refine And.intro (fun h => ?_) (fun h => ?_)
  · conv => whnf
    refine And.intro (by (conv => whnf); exact fun _ => rfl) ?_
    conv => whnf
    refine ret_b ?_
    simp
  have h0 : evOk a = true ∧ evOk b = true := by
    have h : (IntKind.i64.wrap (arithI .add (IntKind.i64.wrap (arithI .add (IntKind.i64.wrap (arithI .add (bif evOk a then 0 else 2) (bif evOk b then 0 else 2))) (bif evOk a then 0 else 2))) (bif evOk b then 0 else 2)) != 0) = false := h
    revert h
    cases evOk a <;> cases evOk b <;> decide
  conv => whnf
  refine And.intro (by (conv => whnf); exact ⟨trivial, bytesG_A _⟩) ?_
  conv => whnf
  refine And.intro (by (conv => whnf); exact ⟨trivial, bytesG_A _⟩) ?_
  conv => whnf
  refine And.intro (by (conv => whnf); exact fun _ => rfl) ?_
  conv => whnf
  refine ret_b ?_
  have e1 := bytes_same ha hb h0.1 h0.2
  have e2 := text_same h0.1 h0.2
  show (bif bif ((bytesOf (bytesA a).length (rowS (bytesA a))).toList == (bytesOf (bytesA b).length (rowS (bytesA b))).toList) == sameB a b then ((mkT (textA a)).toList == (mkT (textA b)).toList) == sameB a b else false then true else false) = true
  rw [e1, e2]
  cases sameB a b <;> rfl
end Go.Proofs.YtiibmnoikgfcbaaDoor
