/- The law EventTells (function 6) answers true. The table of powers stands; the event's parts lie in their types. -/
import Derived.Test.YtiibmnoikgfcbaaDoorL4
import Derived.Test.YtiibmnoikgfcbaaDoorS9
namespace Go.Proofs.YtiibmnoikgfcbaaDoor
open Go Go.Sx Go.RowKit
set_option maxRecDepth 100000
set_option maxHeartbeats 1000000
set_option linter.unusedVariables false
set_option linter.unusedSimpArgs false

theorem sumRefRel_ok : SumOk1 Tryd.prog 23 sumRel := sumEv_ok (y := fun e => .bool (relB e)) (fun _ _ => rfl) fun e h w => refReleases_c e w
noncomputable def tabL6 : Tab := mkTab tiRows eqL fnsL [] [] 20 [(8, sumWorks), (13, sumRight), (20, sumText), (21, sumRefText), (22, sumCheck), (12, sumNum), (19, sumRel), (23, sumRel)]
theorem tabL6_ok : TabOk Tryd.prog tabL6 := mkTab_ok (by kernel_rfl) tiRows_ok eqL_ok fnsL_ok trivial ⟨sumWorks_ok, sumRefRight_ok, sumText_ok, sumRefText_ok, sumCheck_ok, sumNum_ok, sumRel_ok, sumRefRel_ok, trivial⟩
theorem law6_c (a : Ev) (ha : EvT a) (w : World) (hA : powA.rep w (.blk 0)) : Calls Tryd.prog 6 #[evV a] w fun x w' => x = .returned (.bool true) ∧ Below w.heap.size w w' := by
  refine calls_tab tabL6_ok Tryd.func6 rfl powA [.ag (evS a)] rfl Tryd.ntmps6 rfl _ (wpx_ok tabL6_ok (CI_ok tabL6_ok 5) _ ?_) w hA
  conv => whnf
  refine And.intro ha ?_
  conv => whnf
  refine And.intro (by (conv => whnf); exact ⟨rfl, ha⟩) ?_
  conv => whnf
  refine And.intro (fun h => ?_) (fun h => ?_)
  · have h : evOk a = true := h
    conv => whnf
    refine And.intro (by (conv => whnf); exact ⟨rfl, ha, h⟩) ?_
    conv => whnf
    refine And.intro ha ?_
    conv => whnf
    refine And.intro (by (conv => whnf); exact fun _ => trivial) ?_
    conv => whnf
    refine And.intro (by (conv => whnf); exact fun _ => trivial) ?_
    conv => whnf
    refine And.intro (by (conv => whnf); exact fun _ => rfl) ?_
    conv => whnf
    refine ret_b ?_
    have he : textA a = textL a := by simp [textA, h]
    show (bif bif bif bif (bif evOk a then (0 : Int) else 2) == 0 then (mkT (textA a)).toList == (mkT (textL a)).toList else false then (bif evOk a then (0 : Int) else 2) == 0 else false then relB a == relB a else false then true else false) = true
    rw [he, h]
    simp
  · have h : evOk a = false := h
    conv => whnf
    refine And.intro ha ?_
    conv => whnf
    refine And.intro (by (conv => whnf); exact fun _ => trivial) ?_
    conv => whnf
    refine And.intro (by (conv => whnf); exact fun _ => trivial) ?_
    conv => whnf
    refine And.intro (by (conv => whnf); exact fun _ => rfl) ?_
    conv => whnf
    refine ret_b ?_
    have he : textA a = [] := by simp [textA, h]
    show (bif bif bif bif (bif evOk a then (0 : Int) else 2) == 2 then (mkT (textA a)).toList == (mkT []).toList else false then (bif evOk a then (0 : Int) else 2) == 2 else false then relB a == relB a else false then true else false) = true
    rw [he, h]
    simp
end Go.Proofs.YtiibmnoikgfcbaaDoor
