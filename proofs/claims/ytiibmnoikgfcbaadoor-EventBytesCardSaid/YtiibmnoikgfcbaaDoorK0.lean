/- From the rows' premises to the laws' contracts: events as arguments, the table that stands. No condition. -/
import Derived.Test.YtiibmnoikgfcbaaDoorCards
import Derived.Test.YtiibmnoikgfcbaaDoorTie
import Derived.Test.YtiibmnoikgfcbaaDoorW1
import Derived.WalkKit
import Derived.ProofKit
import Derived.OpenShut
import Derived.Deep.DeepHandedRow
import Derived.Lib.LaidTab
import Derived.Carry
namespace Go.Proofs.YtiibmnoikgfcbaaDoor
open Go Go.Sx Go.ChangeShapes Go.WideShapes Go.ChangeAt Go.RowKit
set_option maxRecDepth 100000
set_option linter.unusedVariables false

theorem own : ownKnob Tryd.prog.godebug = Option.none := by kernel_rfl
theorem laidOutP : laidOutB Tryd.prog = true := by kernel_rfl
theorem gPow : Tryd.prog.globalNamed "internal/strconv.uint64pow10" = some 0 := by kernel_rfl
theorem gPowType : (Tryd.prog.globals[0]?).map (·.type) = some 146 := by kernel_rfl
theorem powCells : Tryd.prog.cellsOf 146 = 20 := by kernel_rfl
theorem u64Cells : Tryd.prog.cellsOf 82 = 1 := by kernel_rfl
theorem powUnder : Tryd.prog.underlying 146 = some (.array 20 82) := by kernel_rfl
theorem evTypes : Tryd.prog.cellTypes Tryd.prog.depth 28 = some [3, 22, 3, 3, 25, 3, 3, 2, 26] := by kernel_rfl
theorem evCells : Tryd.prog.cellsOf 28 = 9 := by kernel_rfl
theorem evRead : Tryd.prog.readableRec 28 = true := by kernel_rfl
theorem evSize : 28 < Tryd.prog.types.size := of_decide_eq_true (by kernel_rfl)

theorem cell_int {t : TypeId} {k : IntKind} (ht : Tryd.prog.underlying t = some (.int k)) {w : World} {base : Nat} {v : Value} (h : Cell.okWide Tryd.prog w .any base t v) : ∃ n, v = .int k n ∧ k.has n := by
  unfold Cell.okWide at h
  rw [ht] at h
  simp only [] at h
  unfold Cell.ok at h
  rw [ht] at h
  cases v <;> simp only [] at h <;> first | exact h.elim | exact ⟨_, by rw [h.1], h.2⟩

/-- AN EVENT THAT CAME IN: nine numbers, each in its kind. -/
theorem ev_open {w : World} {base : Nat} {v : Value} (h : Value.okWide Tryd.prog w .any base 28 v) : ∃ e, v = evV e ∧ EvT e := by
  unfold Value.okWide at h
  rw [Tryd.underlying28] at h
  obtain ⟨cs, rfl, hsz, ts, hts, _, hc⟩ := h
  rw [evTypes] at hts
  cases hts
  rw [evCells] at hsz
  have at_ : ∀ i (hi : i < 9), ∃ v u, cs[i]? = some v ∧ [3, 22, 3, 3, 25, 3, 3, 2, 26][i]? = some u ∧ Cell.okWide Tryd.prog w .any base u v := fun i hi => by
    obtain ⟨u, hu, hok⟩ := hc i _ (Array.getElem?_eq_getElem (by omega))
    refine ⟨_, u, Array.getElem?_eq_getElem (by omega), ?_, hok⟩
    rw [← hu]
    congr 1
    exact (Nat.mod_eq_of_lt hi).symm
  obtain ⟨v0, u, e0, hu, h0⟩ := at_ 0 (by decide); cases hu
  obtain ⟨v1, u, e1, hu, h1⟩ := at_ 1 (by decide); cases hu
  obtain ⟨v2, u, e2, hu, h2⟩ := at_ 2 (by decide); cases hu
  obtain ⟨v3, u, e3, hu, h3⟩ := at_ 3 (by decide); cases hu
  obtain ⟨v4, u, e4, hu, h4⟩ := at_ 4 (by decide); cases hu
  obtain ⟨v5, u, e5, hu, h5⟩ := at_ 5 (by decide); cases hu
  obtain ⟨v6, u, e6, hu, h6⟩ := at_ 6 (by decide); cases hu
  obtain ⟨v7, u, e7, hu, h7⟩ := at_ 7 (by decide); cases hu
  obtain ⟨v8, u, e8, hu, h8⟩ := at_ 8 (by decide); cases hu
  obtain ⟨n0, rfl, b0⟩ := cell_int Tryd.underlying3 h0
  obtain ⟨n1, rfl, b1⟩ := cell_int Tryd.underlying22 h1
  obtain ⟨n2, rfl, b2⟩ := cell_int Tryd.underlying3 h2
  obtain ⟨n3, rfl, b3⟩ := cell_int Tryd.underlying3 h3
  obtain ⟨n4, rfl, b4⟩ := cell_int Tryd.underlying25 h4
  obtain ⟨n5, rfl, b5⟩ := cell_int Tryd.underlying3 h5
  obtain ⟨n6, rfl, b6⟩ := cell_int Tryd.underlying3 h6
  obtain ⟨n7, rfl, b7⟩ := cell_int Tryd.underlying2 h7
  obtain ⟨n8, rfl, b8⟩ := cell_int Tryd.underlying26 h8
  refine ⟨⟨n0, n1, n2, n3, n4, n5, n6, n7, n8⟩, ?_, ⟨b0, b1, b2, b3, b4, b5, b6, b7, b8⟩⟩
  unfold evV
  congr 1
  apply Array.ext_getElem?
  intro i
  by_cases hi : i < 9
  · rcases i with _ | _ | _ | _ | _ | _ | _ | _ | _ | i
    all_goals first | assumption | omega
  · rw [Array.getElem?_eq_none (by omega), Array.getElem?_eq_none (by simp; omega)]

/-- What the rows' list gives: the table of powers. -/
theorem table {W : World} (h : laidMetH Tryd.prog Rows.eventLeadsRow.laid W) : powA.rep W (.blk 0) := by
  have h : laidMet Tryd.prog Rows.eventLeadsRow.laid W := h
  obtain ⟨ps, hv, _⟩ := h
  obtain ⟨g1, t1, c1, f1, p1, q1, _, _, _, _, hv, _⟩ := hv
  obtain ⟨g2, t2, c2, f2, p2, q2, _, _, _, _, hv, _⟩ := hv
  obtain ⟨g, t, cs, fuel, p, q, hg, ht, hvar, hd, _, _⟩ := hv
  obtain rfl := Option.some.inj (gPow.symm.trans hg)
  obtain rfl := Option.some.inj (gPowType.symm.trans ht)
  have hd : DataW.trod (fun _ => ()) Tryd.prog W 0 (fun _ => true) false fuel _ cs.toList = some (Lib.tabData .u64 Lib.pow10Tab, p) := hd
  show Lib.TabIs Tryd.prog W "internal/strconv.uint64pow10" .u64 Lib.pow10Tab
  unfold Lib.TabIs
  rw [hvar, ← Lib.cells_of_tab powUnder Tryd.underlying82 u64Cells powCells hd]

/-- A world for the witness: the settled one, the tables holding what their initialisers lay. -/
def layCells (cs : Array Value) : Obj → Obj
  | .cells _ t frozen => .cells cs t frozen
  | o => o
noncomputable def laidWorld (os : Os) : World :=
  { World.holding Tryd.prog os ⟨#[], #[], []⟩ with heap := (((World.holding Tryd.prog os ⟨#[], #[], []⟩).heap.modify 0 (layCells #[.int .u64 1, .int .u64 10, .int .u64 100, .int .u64 1000, .int .u64 10000, .int .u64 100000, .int .u64 1000000, .int .u64 10000000, .int .u64 100000000, .int .u64 1000000000, .int .u64 10000000000, .int .u64 100000000000, .int .u64 1000000000000, .int .u64 10000000000000, .int .u64 100000000000000, .int .u64 1000000000000000, .int .u64 10000000000000000, .int .u64 100000000000000000, .int .u64 1000000000000000000, .int .u64 10000000000000000000])).modify 2 (layCells #[.int .u8 0, .int .u8 1, .int .u8 28, .int .u8 2, .int .u8 29, .int .u8 14, .int .u8 24, .int .u8 3, .int .u8 30, .int .u8 22, .int .u8 20, .int .u8 15, .int .u8 25, .int .u8 17, .int .u8 4, .int .u8 8, .int .u8 31, .int .u8 27, .int .u8 13, .int .u8 23, .int .u8 21, .int .u8 19, .int .u8 16, .int .u8 7, .int .u8 26, .int .u8 12, .int .u8 18, .int .u8 6, .int .u8 11, .int .u8 5, .int .u8 10, .int .u8 9])).modify 3 (layCells #[.int .u8 0, .int .u8 1, .int .u8 56, .int .u8 2, .int .u8 57, .int .u8 49, .int .u8 28, .int .u8 3, .int .u8 61, .int .u8 58, .int .u8 42, .int .u8 50, .int .u8 38, .int .u8 29, .int .u8 17, .int .u8 4, .int .u8 62, .int .u8 47, .int .u8 59, .int .u8 36, .int .u8 45, .int .u8 43, .int .u8 51, .int .u8 22, .int .u8 53, .int .u8 39, .int .u8 33, .int .u8 30, .int .u8 24, .int .u8 18, .int .u8 12, .int .u8 5, .int .u8 63, .int .u8 55, .int .u8 48, .int .u8 27, .int .u8 60, .int .u8 41, .int .u8 37, .int .u8 16, .int .u8 46, .int .u8 35, .int .u8 44, .int .u8 21, .int .u8 52, .int .u8 32, .int .u8 23, .int .u8 11, .int .u8 54, .int .u8 26, .int .u8 40, .int .u8 15, .int .u8 34, .int .u8 20, .int .u8 31, .int .u8 10, .int .u8 25, .int .u8 14, .int .u8 19, .int .u8 9, .int .u8 13, .int .u8 8, .int .u8 7, .int .u8 6]) }
def ev0 : Value := .agg #[.int .i64 0, .int .i64 0, .int .i64 0, .int .i64 0, .int .u32 0, .int .i64 0, .int .i64 0, .int .i64 0, .int .i64 0]
def ev0D {H : Type} : DataW H := .agg [.lit (.int .i64 0), .lit (.int .i64 0), .agg [.lit (.int .i64 0), .lit (.int .i64 0)], .lit (.int .u32 0), .lit (.int .i64 0), .lit (.int .i64 0), .lit (.int .i64 0), .lit (.int .i64 0)]
end Go.Proofs.YtiibmnoikgfcbaaDoor
