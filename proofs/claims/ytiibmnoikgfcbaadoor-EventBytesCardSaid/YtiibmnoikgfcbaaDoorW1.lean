/- The chapter's rows (function 8) answer true. The table of powers stands. -/
import Derived.Test.YtiibmnoikgfcbaaDoorR2
import Derived.Test.YtiibmnoikgfcbaaDoorS7
namespace Go.Proofs.YtiibmnoikgfcbaaDoor
open Go Go.Sx Go.RowKit
set_option maxRecDepth 100000
set_option maxHeartbeats 1000000
set_option linter.unusedVariables false
set_option linter.unusedSimpArgs false

theorem num_c (z : Int) (w : World) : Calls Tryd.prog 12 #[.int .i64 z] w fun x w' => x = .returned (.int .i64 z) ∧ Below w.heap.size w w' := by
  refine calls_pure tabD_ok Tryd.func12 rfl [.i .i64 z] rfl Tryd.ntmps12 rfl _ (wpx_ok tabD_ok (CI_ok tabD_ok 5) _ ?_) w
  conv => whnf
  exact ret_i rfl
def sumNum : Sum := fun args _ _ => match args with
  | [v] => match intK .i64 v with
    | some z => some (.val (.i .i64 z))
    | none => none
  | _ => none
theorem sumNum_ok : SumOk1 Tryd.prog 12 sumNum := by
  intro args H nx out h ρ w xs hH hd hn
  unfold sumNum at h
  split at h
  case h_2 => cases h
  rename_i v
  obtain ⟨x, r, rfl, h1, h2⟩ := denL_cons hd
  cases h2
  split at h
  case h_2 => cases h
  rename_i z hz
  cases h
  have := intK_ok hz h1
  subst this
  exact (num_c z w).mono fun e w' ⟨q1, q2⟩ => ⟨_, q1, rfl, q2⟩
def sumLeads : Sum := sumEv2 fun a b => .b (leadB a b)
theorem sumLeads_ok : SumOk1 Tryd.prog 17 sumLeads := sumEv2_ok (y := fun a b => .bool (leadB a b)) (fun _ _ _ => rfl) fun a b w => leads_c a b w
noncomputable def tabX : Tab := mkTab tiRows eqL fnsL [] [] 20 [(20, sumText), (9, sumBytes), (10, sumReadN), (17, sumLeads), (12, sumNum)]
theorem tabX_ok : TabOk Tryd.prog tabX := mkTab_ok (by kernel_rfl) tiRows_ok eqL_ok fnsL_ok trivial ⟨sumText_ok, sumBytes_ok, sumReadN_ok, sumLeads_ok, sumNum_ok, trivial⟩

theorem bytesG3 : BytesG 3 fun i => List.take ty5.size (List.drop (0 + i * 1) [cv (.int .u8 15), cv (.int .u8 0), cv (.int .u8 0)]) := fun i hi => by
  match i, hi with
  | 0, _ => exact ⟨15, by decide, .inr rfl⟩
  | 1, _ => exact ⟨0, by decide, .inr rfl⟩
  | 2, _ => exact ⟨0, by decide, .inr rfl⟩
  | n + 3, hi => omega
theorem b8_lt (x : Int) (i : Nat) : 0 ≤ b8 x i ∧ b8 x i < 256 := by simp only [b8]; omega
theorem bytesL_lt (e : Ev) : ∀ z ∈ bytesL e, 0 ≤ z ∧ z < 256 := by
  intro z hz
  simp only [bytesL, headI, partI, List.mem_append] at hz
  rcases hz with hz | hz
  · simp only [List.mem_cons, List.not_mem_nil, or_false] at hz
    rcases hz with rfl | rfl | rfl | rfl | rfl | rfl <;> exact b8_lt _ _
  · split at hz
    · simp only [List.mem_cons, List.not_mem_nil, or_false] at hz
      rcases hz with rfl | rfl | rfl | rfl <;> exact b8_lt _ _
    split at hz
    · simp only [List.mem_cons, List.not_mem_nil, or_false] at hz
      rcases hz with rfl | rfl <;> exact b8_lt _ _
    split at hz
    · simp only [List.mem_cons, List.not_mem_nil, or_false] at hz
      rcases hz with rfl | rfl | rfl | rfl | rfl <;> exact b8_lt _ _
    split at hz
    · simp only [List.mem_cons, List.not_mem_nil, or_false] at hz
      rcases hz with rfl; exact b8_lt _ _
    split at hz
    · simp only [List.mem_cons, List.not_mem_nil, or_false] at hz
      rcases hz with rfl; exact b8_lt _ _
    · cases hz
theorem bytesG_rowS {l : List Int} (h : ∀ z ∈ l, 0 ≤ z ∧ z < 256) : BytesG l.length (rowS l) := fun i hi => by
  have hm : l.getD i 0 ∈ l := by
    rw [List.getD_eq_getElem?_getD, List.getElem?_eq_getElem hi]
    exact List.getElem_mem hi
  obtain ⟨h1, h2⟩ := h _ hm
  refine ⟨(l.getD i 0).toNat, by omega, .inl ?_⟩
  show [SV.i .u8 (l.getD i 0)] = _
  congr 2
  omega
theorem bytesG_A (e : Ev) : BytesG (bytesA e).length (rowS (bytesA e)) := by
  cases hb : evOk e with
  | true => rw [show bytesA e = bytesL e by simp [bytesA, hb]]; exact bytesG_rowS (bytesL_lt e)
  | false => rw [show bytesA e = [] by simp [bytesA, hb]]; exact fun i hi => absurd hi (Nat.not_lt_zero _)
theorem mk_arr2 (a : List UInt8) : (⟨(⟨a.toArray⟩ : ByteArray).data.toList.toArray⟩ : ByteArray) = mkT a := by simp [mkT]
theorem teq {a b : ByteArray} (h : a = b) : (a.toList == b.toList) = true := by rw [h]; exact beq_self_eq_true _
theorem wo1 : evOk ⟨3, 3, 0, 4, 4096, 0, 0, 0, 0⟩ = true := by decide
theorem wo2 : evOk ⟨0, 11, 1, 2, 0, 0, 5, -3, 0⟩ = true := by decide
theorem wo3 : evOk ⟨0, 14, 0, 0, 0, 0, 0, 0, 2⟩ = true := by decide
theorem wt1 : mkT (textA ⟨3, 3, 0, 4, 4096, 0, 0, 0, 0⟩) = mkT [51, 32, 102, 48, 58, 52, 32, 115, 116, 111, 114, 101, 32, 52, 48, 57, 54] := by
  simp [textA, wo1, textL, siteT, wordsL, tailL, Lib.itoa, Lib.decDigits]
theorem wt2 : mkT (textA ⟨0, 11, 1, 2, 0, 0, 5, -3, 0⟩) = mkT [48, 32, 102, 49, 58, 50, 32, 99, 111, 117, 110, 116, 32, 53, 32, 45, 51] := by
  simp [textA, wo2, textL, siteT, wordsL, tailL, Lib.itoa, Lib.decDigits]
theorem wt3 : mkT (textA ⟨0, 14, 0, 0, 0, 0, 0, 0, 2⟩) = mkT [48, 32, 102, 48, 58, 48, 32, 116, 114, 97, 112, 32, 99, 111, 117, 110, 116] := by
  simp [textA, wo3, textL, siteT, wordsL, trapsL, tailL, Lib.itoa, Lib.decDigits]
theorem wb1 : bytesA ⟨3, 3, 0, 4, 4096, 0, 0, 0, 0⟩ = [3, 3, 0, 0, 4, 0, 0, 16, 0, 0] := by decide
theorem works_c (w : World) (hA : powA.rep w (.blk 0)) : Calls Tryd.prog 8 #[] w fun x w' => x = .returned (.bool true) ∧ Below w.heap.size w w' := by
  refine calls_tab tabX_ok Tryd.func8 rfl powA [] rfl Tryd.ntmps8 rfl _ (wpx_ok tabX_ok (CI_ok tabX_ok 5) _ ?_) w hA
  conv => whnf
  refine And.intro (by (conv => whnf); exact ⟨rfl, by constructor <;> simp [in64]⟩) ?_
  conv => whnf
  refine And.intro (by (conv => whnf); exact ⟨rfl, by constructor <;> simp [in64]⟩) ?_
  conv => whnf
  refine And.intro (by (conv => whnf); exact ⟨rfl, by constructor <;> simp [in64]⟩) ?_
  conv => whnf
  refine And.intro (by (conv => whnf); constructor <;> simp [in64]) ?_
  conv => whnf
  refine And.intro (by (conv => whnf); exact ⟨trivial, bytesG3, by decide, by decide, by decide⟩) ?_
  conv => whnf
  refine And.intro (by (conv => whnf); exact fun _ => ⟨trivial, bytesG_A _⟩) ?_
  conv => whnf
  refine congrArg (fun b => some (Value.bool b)) (?_ : _ = true)
  rw [wo1, wo2, wo3, wt1, wt2, wt3, wb1, show bytesOf [(3 : Int), 3, 0, 0, 4, 0, 0, 16, 0, 0].length (rowS [3, 3, 0, 0, 4, 0, 0, 16, 0, 0]) = mkT [3, 3, 0, 0, 4, 0, 0, 16, 0, 0] from rfl]
  simp only [mk_arr2]
  simp only [mkT, beq_self_eq_true, cond_true]
  decide
end Go.Proofs.YtiibmnoikgfcbaaDoor
