/- The law EventLeads (function 4) answers true. The table of powers stands. -/
import Derived.Test.YtiibmnoikgfcbaaDoorW1
namespace Go.Proofs.YtiibmnoikgfcbaaDoor
open Go Go.Sx Go.RowKit
set_option maxRecDepth 100000
set_option maxHeartbeats 1000000
set_option linter.unusedVariables false
set_option linter.unusedSimpArgs false

def sumWorks : Sum := fun args H _ => match args with
  | [] => match lk 0 H with
    | some (.rd A) => some (.ob (A = powA) (.val (.lb true)))
    | _ => none
  | _ => none
theorem sumWorks_ok : SumOk1 Tryd.prog 8 sumWorks := by
  intro args H nx out h ρ w xs hH hd hn
  unfold sumWorks at h
  split at h
  case h_2 => cases h
  split at h
  case h_2 => cases h
  rename_i A hA
  cases h
  cases hd
  rintro rfl
  obtain ⟨hv, _, htab⟩ := hH 0 _ hA
  exact (works_c w htab).mono fun e w' ⟨q1, q2⟩ => ⟨_, q1, rfl, q2⟩
def sumConf : Sum := sumEv2 fun a b => .b (conB a b)
theorem sumConf_ok : SumOk1 Tryd.prog 15 sumConf := sumEv2_ok (y := fun a b => .bool (conB a b)) (fun _ _ _ => rfl) fun a b w => conflict_c a b w
theorem sumRefConf_ok : SumOk1 Tryd.prog 16 sumConf := sumEv2_ok (y := fun a b => .bool (conB a b)) (fun _ _ _ => rfl) fun a b w => refConflict_c a b w
theorem sumRefLeads_ok : SumOk1 Tryd.prog 18 sumLeads := sumEv2_ok (y := fun a b => .bool (leadB a b)) (fun _ _ _ => rfl) fun a b w => refLeads_c a b w
noncomputable def tabL4 : Tab := mkTab tiRows eqL fnsL [] [] 20 [(8, sumWorks), (15, sumConf), (16, sumConf), (17, sumLeads), (18, sumLeads)]
theorem tabL4_ok : TabOk Tryd.prog tabL4 := mkTab_ok (by kernel_rfl) tiRows_ok eqL_ok fnsL_ok trivial ⟨sumWorks_ok, sumConf_ok, sumRefConf_ok, sumLeads_ok, sumRefLeads_ok, trivial⟩
theorem law4_c (a b : Ev) (w : World) (hA : powA.rep w (.blk 0)) : Calls Tryd.prog 4 #[evV a, evV b] w fun x w' => x = .returned (.bool true) ∧ Below w.heap.size w w' := by
  refine calls_tab tabL4_ok Tryd.func4 rfl powA [.ag (evS a), .ag (evS b)] rfl Tryd.ntmps4 rfl _ (wpx_ok tabL4_ok (CI_ok tabL4_ok 5) _ ?_) w hA
  conv => whnf
  refine And.intro (by (conv => whnf); exact fun _ => rfl) ?_
  conv => whnf
  refine ret_b ?_
  simp
end Go.Proofs.YtiibmnoikgfcbaaDoor
