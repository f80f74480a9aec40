/- The document's text of an event (function 21), kind by kind. The table of powers stands; the event may be; its parts lie in their types. -/
import Derived.Test.YtiibmnoikgfcbaaDoorS8
import Derived.Test.YtiibmnoikgfcbaaDoorS7
namespace Go.Proofs.YtiibmnoikgfcbaaDoor
open Go Go.Sx Go.RowKit
set_option maxRecDepth 100000
set_option maxHeartbeats 1000000
set_option linter.unusedVariables false
set_option linter.unusedSimpArgs false

/-- A function that hands back a new row of known cells. -/
def cellsK (n : Nat) (l : List SV) (t : Nat) (v : SV) (H : List (Nat × SO)) (_ : Nat) : Prop :=
  match v with
  | .sl h 0 n' c' => match lk h H with
    | some (.cells l' t') => (n' = n ∧ c' = n) ∧ (l' = l ∧ t' = t)
    | _ => False
  | _ => False
def sumCells (n : Nat) (l : List SV) (t : Nat) : Sum := fun args _ nx => match args with
  | [] => some (.new (.sl nx 0 n n) (.cells l t))
  | _ => none
theorem sumCells_ok {tb : Tab} (hP : TabOk Tryd.prog tb) {C : CH} (hC : COk Tryd.prog C) {f : FuncId} {fn : Func} {c : Code} (hf : Tryd.prog.funcs[f]? = some fn) (hb : fn.body = some c) {m n t : Nat} {l : List SV} {ys : List Value} (hl : denL Vl.none l = some ys) (hnt : fn.ntmps = m)
    (h : wpx Tryd.prog tb C c ⟨[], [], [], 0, m⟩ (RetK tb fn.results.toList (cellsK n l t) (fun _ _ _ => False))) : SumOk1 Tryd.prog f (sumCells n l t) := by
  intro args H nx out ho ρ w xs hH hd hn
  unfold sumCells at ho
  split at ho
  case h_2 => cases ho
  cases ho
  cases hd
  refine enter_ok hP hf hb (HS.start w) (vs := []) (xs := []) rfl hnt (by simp) (wpx_ok hP hC c h) (fun ρ' v H' nx' y w' hk hs hdv => ?_) (fun _ _ _ _ _ hk _ => hk.elim)
  unfold cellsK at hk
  split at hk
  case h_2 => exact hk.elim
  rename_i h' n' c'
  split at hk
  case h_2 => exact hk.elim
  rename_i l' t' hlk
  obtain ⟨⟨rfl, rfl⟩, rfl, rfl⟩ := hk
  obtain ⟨hv, q1, q2⟩ := hs.hp h' _ hlk
  cases hv with
  | rw a n c => exact q2.elim
  | blk b =>
    obtain ⟨cs, q3, q4⟩ := q2
    simp only [den, q1, Option.some.injEq] at hdv
    refine ⟨y, rfl, .blk b, ?_, hs.fr.below, ⟨ys, denL_mono (Vl.none_le _) _ _ hl, ?_⟩, fun k hk => ?_⟩
    · simp only [den, Vl.upd_same, hdv]
    · have := denL_mono (Vl.none_le ρ') _ _ hl
      rw [q3] at this
      cases this
      exact q4
    · simp only [SO.fp] at hk
      subst hk
      rcases hs.r.ow h' _ _ k hlk rfl q1 rfl with h5 | h5
      · exact ⟨h5, (Array.getElem?_eq_some_iff.1 q4).1⟩
      · exact h5.elim
def refWordsS : List SV := wordsS.drop 1
def refTrapsS : List SV := trapsS.drop 1
theorem sumRefWords_ok : SumOk1 Tryd.prog 49 (sumCells 14 refWordsS 9) :=
  sumCells_ok tabG_ok (CI_ok tabG_ok 5) Tryd.func49 rfl (ys := (wordsL.drop 1).map fun l => .string (mkT l)) rfl Tryd.ntmps49 (by (conv => whnf); exact ⟨⟨rfl, rfl⟩, rfl, rfl⟩)
theorem sumRefTraps_ok : SumOk1 Tryd.prog 26 (sumCells 6 refTrapsS 9) :=
  sumCells_ok tabG_ok (CI_ok tabG_ok 5) Tryd.func26 rfl (ys := (trapsL.drop 1).map fun l => .string (mkT l)) rfl Tryd.ntmps26 (by (conv => whnf); exact ⟨⟨rfl, rfl⟩, rfl, rfl⟩)
def sumsRT : List (Nat × Sum) := (37, sumIn) :: (48, sumRefSiteText) :: (49, sumCells 14 refWordsS 9) :: (26, sumCells 6 refTrapsS 9) :: (50, sumFormatU) :: tabs []
theorem sumsRT_ok : sumsAll Tryd.prog sumsRT := ⟨sumIn_ok, sumRefSiteText_ok, sumRefWords_ok, sumRefTraps_ok, sumFormatU_ok, tabs_ok trivial⟩
noncomputable def tabRT : Tab := mkTab tiRows eqL fnsL [49, 26] [] 20 sumsRT
theorem tabRT_ok : TabOk Tryd.prog tabRT := mkTab_ok (by kernel_rfl) tiRows_ok eqL_ok fnsL_ok trivial sumsRT_ok

theorem refText1_c (e : Ev) (ht : EvT ⟨e.g, 1, e.f, e.p, e.ad, e.ch, e.ob, e.n, e.tr⟩) (hok : evOk ⟨e.g, 1, e.f, e.p, e.ad, e.ch, e.ob, e.n, e.tr⟩ = true) (w : World) (hA : powA.rep w (.blk 0)) : Calls Tryd.prog 21 #[evV ⟨e.g, 1, e.f, e.p, e.ad, e.ch, e.ob, e.n, e.tr⟩] w fun x w' => x = .returned (.string (mkT (textL ⟨e.g, 1, e.f, e.p, e.ad, e.ch, e.ob, e.n, e.tr⟩))) ∧ Below w.heap.size w w' := by
  refine calls_tab tabRT_ok Tryd.func21 rfl powA [.ag [.i .i64 e.g, .n .i64 1, .i .i64 e.f, .i .i64 e.p, .i .u32 e.ad, .i .i64 e.ch, .i .i64 e.ob, .i .i64 e.n, .i .i64 e.tr]] rfl Tryd.ntmps21 rfl _ (wpx_ok tabRT_ok (CI_ok tabRT_ok 6) _ ?_) w hA
  have ha : 0 ≤ e.ad ∧ e.ad ≤ 4294967295 := ht.ad
  have wa : IntKind.u64.wrap e.ad = e.ad := wrapU ha.1 (by omega)
  have had : in64 e.ad := in64_u ht.ad
  have lg : (Lib.itoa e.g).length ≤ 21 := itoa_len ht.g
  have lf : (Lib.itoa e.f).length ≤ 21 := itoa_len ht.f
  have lp : (Lib.itoa e.p).length ≤ 21 := itoa_len ht.p
  have la : (Lib.itoa e.ad).length ≤ 21 := itoa_len had
  have lc : (Lib.itoa e.ch).length ≤ 21 := itoa_len ht.ch
  have lo : (Lib.itoa e.ob).length ≤ 21 := itoa_len ht.ob
  have ln : (Lib.itoa e.n).length ≤ 21 := itoa_len ht.n
  conv => whnf
  refine And.intro (by (conv => whnf); exact ⟨rfl, ht.g⟩) ?_
  conv => whnf
  refine And.intro (by (conv => whnf); (refine sz_ob ?_; simp [ByteArray.size_append, ByteArray.size, itoaB, mkT, siteT]; omega)) ?_
  conv => whnf
  refine And.intro (by (conv => whnf); exact ⟨rfl, ht.f, ht.p, trivial⟩) ?_
  conv => whnf
  refine And.intro (by (conv => whnf); (refine sz_ob ?_; simp [ByteArray.size_append, ByteArray.size, itoaB, mkT, siteT]; omega)) ?_
  conv => whnf
  refine And.intro (by (conv => whnf); (refine sz_ob ?_; simp [ByteArray.size_append, ByteArray.size, itoaB, mkT, siteT]; omega)) ?_
  conv => whnf
  refine And.intro (by (conv => whnf); (refine sz_ob ?_; simp [ByteArray.size_append, ByteArray.size, itoaB, mkT, siteT]; omega)) ?_
  conv => whnf
  refine ret_s (congrArg Value.string ?_)
  skip
  simp [mk_arr, itoaB_mk, mkT_append, textL, tailL, wordsL, trapsL]

theorem refText2_c (e : Ev) (ht : EvT ⟨e.g, 2, e.f, e.p, e.ad, e.ch, e.ob, e.n, e.tr⟩) (hok : evOk ⟨e.g, 2, e.f, e.p, e.ad, e.ch, e.ob, e.n, e.tr⟩ = true) (w : World) (hA : powA.rep w (.blk 0)) : Calls Tryd.prog 21 #[evV ⟨e.g, 2, e.f, e.p, e.ad, e.ch, e.ob, e.n, e.tr⟩] w fun x w' => x = .returned (.string (mkT (textL ⟨e.g, 2, e.f, e.p, e.ad, e.ch, e.ob, e.n, e.tr⟩))) ∧ Below w.heap.size w w' := by
  refine calls_tab tabRT_ok Tryd.func21 rfl powA [.ag [.i .i64 e.g, .n .i64 2, .i .i64 e.f, .i .i64 e.p, .i .u32 e.ad, .i .i64 e.ch, .i .i64 e.ob, .i .i64 e.n, .i .i64 e.tr]] rfl Tryd.ntmps21 rfl _ (wpx_ok tabRT_ok (CI_ok tabRT_ok 6) _ ?_) w hA
  have ha : 0 ≤ e.ad ∧ e.ad ≤ 4294967295 := ht.ad
  have wa : IntKind.u64.wrap e.ad = e.ad := wrapU ha.1 (by omega)
  have had : in64 e.ad := in64_u ht.ad
  have lg : (Lib.itoa e.g).length ≤ 21 := itoa_len ht.g
  have lf : (Lib.itoa e.f).length ≤ 21 := itoa_len ht.f
  have lp : (Lib.itoa e.p).length ≤ 21 := itoa_len ht.p
  have la : (Lib.itoa e.ad).length ≤ 21 := itoa_len had
  have lc : (Lib.itoa e.ch).length ≤ 21 := itoa_len ht.ch
  have lo : (Lib.itoa e.ob).length ≤ 21 := itoa_len ht.ob
  have ln : (Lib.itoa e.n).length ≤ 21 := itoa_len ht.n
  conv => whnf
  refine And.intro (by (conv => whnf); exact ⟨rfl, ht.g⟩) ?_
  conv => whnf
  refine And.intro (by (conv => whnf); (refine sz_ob ?_; simp [ByteArray.size_append, ByteArray.size, itoaB, mkT, siteT]; omega)) ?_
  conv => whnf
  refine And.intro (by (conv => whnf); exact ⟨rfl, ht.f, ht.p, trivial⟩) ?_
  conv => whnf
  refine And.intro (by (conv => whnf); (refine sz_ob ?_; simp [ByteArray.size_append, ByteArray.size, itoaB, mkT, siteT]; omega)) ?_
  conv => whnf
  refine And.intro (by (conv => whnf); (refine sz_ob ?_; simp [ByteArray.size_append, ByteArray.size, itoaB, mkT, siteT]; omega)) ?_
  conv => whnf
  refine And.intro (by (conv => whnf); (refine sz_ob ?_; simp [ByteArray.size_append, ByteArray.size, itoaB, mkT, siteT]; omega)) ?_
  conv => whnf
  refine And.intro (by (conv => whnf); (refine sz_ob ?_; simp [ByteArray.size_append, ByteArray.size, itoaB, mkT, siteT]; omega)) ?_
  conv => whnf
  refine And.intro (by (conv => whnf); rw [wa]; exact ⟨rfl, ha.1, by omega⟩) ?_
  conv => whnf
  refine And.intro (by (conv => whnf); (refine sz_ob ?_; rw [wa]; simp [ByteArray.size_append, ByteArray.size, itoaB, mkT, siteT]; omega)) ?_
  conv => whnf
  refine ret_s (congrArg Value.string ?_)
  rw [wa]
  simp [mk_arr, itoaB_mk, mkT_append, textL, tailL, wordsL, trapsL]

theorem refText3_c (e : Ev) (ht : EvT ⟨e.g, 3, e.f, e.p, e.ad, e.ch, e.ob, e.n, e.tr⟩) (hok : evOk ⟨e.g, 3, e.f, e.p, e.ad, e.ch, e.ob, e.n, e.tr⟩ = true) (w : World) (hA : powA.rep w (.blk 0)) : Calls Tryd.prog 21 #[evV ⟨e.g, 3, e.f, e.p, e.ad, e.ch, e.ob, e.n, e.tr⟩] w fun x w' => x = .returned (.string (mkT (textL ⟨e.g, 3, e.f, e.p, e.ad, e.ch, e.ob, e.n, e.tr⟩))) ∧ Below w.heap.size w w' := by
  refine calls_tab tabRT_ok Tryd.func21 rfl powA [.ag [.i .i64 e.g, .n .i64 3, .i .i64 e.f, .i .i64 e.p, .i .u32 e.ad, .i .i64 e.ch, .i .i64 e.ob, .i .i64 e.n, .i .i64 e.tr]] rfl Tryd.ntmps21 rfl _ (wpx_ok tabRT_ok (CI_ok tabRT_ok 6) _ ?_) w hA
  have ha : 0 ≤ e.ad ∧ e.ad ≤ 4294967295 := ht.ad
  have wa : IntKind.u64.wrap e.ad = e.ad := wrapU ha.1 (by omega)
  have had : in64 e.ad := in64_u ht.ad
  have lg : (Lib.itoa e.g).length ≤ 21 := itoa_len ht.g
  have lf : (Lib.itoa e.f).length ≤ 21 := itoa_len ht.f
  have lp : (Lib.itoa e.p).length ≤ 21 := itoa_len ht.p
  have la : (Lib.itoa e.ad).length ≤ 21 := itoa_len had
  have lc : (Lib.itoa e.ch).length ≤ 21 := itoa_len ht.ch
  have lo : (Lib.itoa e.ob).length ≤ 21 := itoa_len ht.ob
  have ln : (Lib.itoa e.n).length ≤ 21 := itoa_len ht.n
  conv => whnf
  refine And.intro (by (conv => whnf); exact ⟨rfl, ht.g⟩) ?_
  conv => whnf
  refine And.intro (by (conv => whnf); (refine sz_ob ?_; simp [ByteArray.size_append, ByteArray.size, itoaB, mkT, siteT]; omega)) ?_
  conv => whnf
  refine And.intro (by (conv => whnf); exact ⟨rfl, ht.f, ht.p, trivial⟩) ?_
  conv => whnf
  refine And.intro (by (conv => whnf); (refine sz_ob ?_; simp [ByteArray.size_append, ByteArray.size, itoaB, mkT, siteT]; omega)) ?_
  conv => whnf
  refine And.intro (by (conv => whnf); (refine sz_ob ?_; simp [ByteArray.size_append, ByteArray.size, itoaB, mkT, siteT]; omega)) ?_
  conv => whnf
  refine And.intro (by (conv => whnf); (refine sz_ob ?_; simp [ByteArray.size_append, ByteArray.size, itoaB, mkT, siteT]; omega)) ?_
  conv => whnf
  refine And.intro (by (conv => whnf); (refine sz_ob ?_; simp [ByteArray.size_append, ByteArray.size, itoaB, mkT, siteT]; omega)) ?_
  conv => whnf
  refine And.intro (by (conv => whnf); rw [wa]; exact ⟨rfl, ha.1, by omega⟩) ?_
  conv => whnf
  refine And.intro (by (conv => whnf); (refine sz_ob ?_; rw [wa]; simp [ByteArray.size_append, ByteArray.size, itoaB, mkT, siteT]; omega)) ?_
  conv => whnf
  refine ret_s (congrArg Value.string ?_)
  rw [wa]
  simp [mk_arr, itoaB_mk, mkT_append, textL, tailL, wordsL, trapsL]

theorem refText4_c (e : Ev) (ht : EvT ⟨e.g, 4, e.f, e.p, e.ad, e.ch, e.ob, e.n, e.tr⟩) (hok : evOk ⟨e.g, 4, e.f, e.p, e.ad, e.ch, e.ob, e.n, e.tr⟩ = true) (w : World) (hA : powA.rep w (.blk 0)) : Calls Tryd.prog 21 #[evV ⟨e.g, 4, e.f, e.p, e.ad, e.ch, e.ob, e.n, e.tr⟩] w fun x w' => x = .returned (.string (mkT (textL ⟨e.g, 4, e.f, e.p, e.ad, e.ch, e.ob, e.n, e.tr⟩))) ∧ Below w.heap.size w w' := by
  refine calls_tab tabRT_ok Tryd.func21 rfl powA [.ag [.i .i64 e.g, .n .i64 4, .i .i64 e.f, .i .i64 e.p, .i .u32 e.ad, .i .i64 e.ch, .i .i64 e.ob, .i .i64 e.n, .i .i64 e.tr]] rfl Tryd.ntmps21 rfl _ (wpx_ok tabRT_ok (CI_ok tabRT_ok 6) _ ?_) w hA
  have ha : 0 ≤ e.ad ∧ e.ad ≤ 4294967295 := ht.ad
  have wa : IntKind.u64.wrap e.ad = e.ad := wrapU ha.1 (by omega)
  have had : in64 e.ad := in64_u ht.ad
  have lg : (Lib.itoa e.g).length ≤ 21 := itoa_len ht.g
  have lf : (Lib.itoa e.f).length ≤ 21 := itoa_len ht.f
  have lp : (Lib.itoa e.p).length ≤ 21 := itoa_len ht.p
  have la : (Lib.itoa e.ad).length ≤ 21 := itoa_len had
  have lc : (Lib.itoa e.ch).length ≤ 21 := itoa_len ht.ch
  have lo : (Lib.itoa e.ob).length ≤ 21 := itoa_len ht.ob
  have ln : (Lib.itoa e.n).length ≤ 21 := itoa_len ht.n
  conv => whnf
  refine And.intro (by (conv => whnf); exact ⟨rfl, ht.g⟩) ?_
  conv => whnf
  refine And.intro (by (conv => whnf); (refine sz_ob ?_; simp [ByteArray.size_append, ByteArray.size, itoaB, mkT, siteT]; omega)) ?_
  conv => whnf
  refine And.intro (by (conv => whnf); exact ⟨rfl, ht.f, ht.p, trivial⟩) ?_
  conv => whnf
  refine And.intro (by (conv => whnf); (refine sz_ob ?_; simp [ByteArray.size_append, ByteArray.size, itoaB, mkT, siteT]; omega)) ?_
  conv => whnf
  refine And.intro (by (conv => whnf); (refine sz_ob ?_; simp [ByteArray.size_append, ByteArray.size, itoaB, mkT, siteT]; omega)) ?_
  conv => whnf
  refine And.intro (by (conv => whnf); (refine sz_ob ?_; simp [ByteArray.size_append, ByteArray.size, itoaB, mkT, siteT]; omega)) ?_
  conv => whnf
  refine And.intro (by (conv => whnf); (refine sz_ob ?_; simp [ByteArray.size_append, ByteArray.size, itoaB, mkT, siteT]; omega)) ?_
  conv => whnf
  refine And.intro (by (conv => whnf); exact ⟨rfl, ht.ch⟩) ?_
  conv => whnf
  refine And.intro (by (conv => whnf); (refine sz_ob ?_; simp [ByteArray.size_append, ByteArray.size, itoaB, mkT, siteT]; omega)) ?_
  conv => whnf
  refine ret_s (congrArg Value.string ?_)
  skip
  simp [mk_arr, itoaB_mk, mkT_append, textL, tailL, wordsL, trapsL]

theorem refText5_c (e : Ev) (ht : EvT ⟨e.g, 5, e.f, e.p, e.ad, e.ch, e.ob, e.n, e.tr⟩) (hok : evOk ⟨e.g, 5, e.f, e.p, e.ad, e.ch, e.ob, e.n, e.tr⟩ = true) (w : World) (hA : powA.rep w (.blk 0)) : Calls Tryd.prog 21 #[evV ⟨e.g, 5, e.f, e.p, e.ad, e.ch, e.ob, e.n, e.tr⟩] w fun x w' => x = .returned (.string (mkT (textL ⟨e.g, 5, e.f, e.p, e.ad, e.ch, e.ob, e.n, e.tr⟩))) ∧ Below w.heap.size w w' := by
  refine calls_tab tabRT_ok Tryd.func21 rfl powA [.ag [.i .i64 e.g, .n .i64 5, .i .i64 e.f, .i .i64 e.p, .i .u32 e.ad, .i .i64 e.ch, .i .i64 e.ob, .i .i64 e.n, .i .i64 e.tr]] rfl Tryd.ntmps21 rfl _ (wpx_ok tabRT_ok (CI_ok tabRT_ok 6) _ ?_) w hA
  have ha : 0 ≤ e.ad ∧ e.ad ≤ 4294967295 := ht.ad
  have wa : IntKind.u64.wrap e.ad = e.ad := wrapU ha.1 (by omega)
  have had : in64 e.ad := in64_u ht.ad
  have lg : (Lib.itoa e.g).length ≤ 21 := itoa_len ht.g
  have lf : (Lib.itoa e.f).length ≤ 21 := itoa_len ht.f
  have lp : (Lib.itoa e.p).length ≤ 21 := itoa_len ht.p
  have la : (Lib.itoa e.ad).length ≤ 21 := itoa_len had
  have lc : (Lib.itoa e.ch).length ≤ 21 := itoa_len ht.ch
  have lo : (Lib.itoa e.ob).length ≤ 21 := itoa_len ht.ob
  have ln : (Lib.itoa e.n).length ≤ 21 := itoa_len ht.n
  conv => whnf
  refine And.intro (by (conv => whnf); exact ⟨rfl, ht.g⟩) ?_
  conv => whnf
  refine And.intro (by (conv => whnf); (refine sz_ob ?_; simp [ByteArray.size_append, ByteArray.size, itoaB, mkT, siteT]; omega)) ?_
  conv => whnf
  refine And.intro (by (conv => whnf); exact ⟨rfl, ht.f, ht.p, trivial⟩) ?_
  conv => whnf
  refine And.intro (by (conv => whnf); (refine sz_ob ?_; simp [ByteArray.size_append, ByteArray.size, itoaB, mkT, siteT]; omega)) ?_
  conv => whnf
  refine And.intro (by (conv => whnf); (refine sz_ob ?_; simp [ByteArray.size_append, ByteArray.size, itoaB, mkT, siteT]; omega)) ?_
  conv => whnf
  refine And.intro (by (conv => whnf); (refine sz_ob ?_; simp [ByteArray.size_append, ByteArray.size, itoaB, mkT, siteT]; omega)) ?_
  conv => whnf
  refine And.intro (by (conv => whnf); (refine sz_ob ?_; simp [ByteArray.size_append, ByteArray.size, itoaB, mkT, siteT]; omega)) ?_
  conv => whnf
  refine And.intro (by (conv => whnf); exact ⟨rfl, ht.ob⟩) ?_
  conv => whnf
  refine And.intro (by (conv => whnf); (refine sz_ob ?_; simp [ByteArray.size_append, ByteArray.size, itoaB, mkT, siteT]; omega)) ?_
  conv => whnf
  refine ret_s (congrArg Value.string ?_)
  skip
  simp [mk_arr, itoaB_mk, mkT_append, textL, tailL, wordsL, trapsL]

theorem refText6_c (e : Ev) (ht : EvT ⟨e.g, 6, e.f, e.p, e.ad, e.ch, e.ob, e.n, e.tr⟩) (hok : evOk ⟨e.g, 6, e.f, e.p, e.ad, e.ch, e.ob, e.n, e.tr⟩ = true) (w : World) (hA : powA.rep w (.blk 0)) : Calls Tryd.prog 21 #[evV ⟨e.g, 6, e.f, e.p, e.ad, e.ch, e.ob, e.n, e.tr⟩] w fun x w' => x = .returned (.string (mkT (textL ⟨e.g, 6, e.f, e.p, e.ad, e.ch, e.ob, e.n, e.tr⟩))) ∧ Below w.heap.size w w' := by
  refine calls_tab tabRT_ok Tryd.func21 rfl powA [.ag [.i .i64 e.g, .n .i64 6, .i .i64 e.f, .i .i64 e.p, .i .u32 e.ad, .i .i64 e.ch, .i .i64 e.ob, .i .i64 e.n, .i .i64 e.tr]] rfl Tryd.ntmps21 rfl _ (wpx_ok tabRT_ok (CI_ok tabRT_ok 6) _ ?_) w hA
  have ha : 0 ≤ e.ad ∧ e.ad ≤ 4294967295 := ht.ad
  have wa : IntKind.u64.wrap e.ad = e.ad := wrapU ha.1 (by omega)
  have had : in64 e.ad := in64_u ht.ad
  have lg : (Lib.itoa e.g).length ≤ 21 := itoa_len ht.g
  have lf : (Lib.itoa e.f).length ≤ 21 := itoa_len ht.f
  have lp : (Lib.itoa e.p).length ≤ 21 := itoa_len ht.p
  have la : (Lib.itoa e.ad).length ≤ 21 := itoa_len had
  have lc : (Lib.itoa e.ch).length ≤ 21 := itoa_len ht.ch
  have lo : (Lib.itoa e.ob).length ≤ 21 := itoa_len ht.ob
  have ln : (Lib.itoa e.n).length ≤ 21 := itoa_len ht.n
  conv => whnf
  refine And.intro (by (conv => whnf); exact ⟨rfl, ht.g⟩) ?_
  conv => whnf
  refine And.intro (by (conv => whnf); (refine sz_ob ?_; simp [ByteArray.size_append, ByteArray.size, itoaB, mkT, siteT]; omega)) ?_
  conv => whnf
  refine And.intro (by (conv => whnf); exact ⟨rfl, ht.f, ht.p, trivial⟩) ?_
  conv => whnf
  refine And.intro (by (conv => whnf); (refine sz_ob ?_; simp [ByteArray.size_append, ByteArray.size, itoaB, mkT, siteT]; omega)) ?_
  conv => whnf
  refine And.intro (by (conv => whnf); (refine sz_ob ?_; simp [ByteArray.size_append, ByteArray.size, itoaB, mkT, siteT]; omega)) ?_
  conv => whnf
  refine And.intro (by (conv => whnf); (refine sz_ob ?_; simp [ByteArray.size_append, ByteArray.size, itoaB, mkT, siteT]; omega)) ?_
  conv => whnf
  refine And.intro (by (conv => whnf); (refine sz_ob ?_; simp [ByteArray.size_append, ByteArray.size, itoaB, mkT, siteT]; omega)) ?_
  conv => whnf
  refine And.intro (by (conv => whnf); exact ⟨rfl, ht.ob⟩) ?_
  conv => whnf
  refine And.intro (by (conv => whnf); (refine sz_ob ?_; simp [ByteArray.size_append, ByteArray.size, itoaB, mkT, siteT]; omega)) ?_
  conv => whnf
  refine ret_s (congrArg Value.string ?_)
  skip
  simp [mk_arr, itoaB_mk, mkT_append, textL, tailL, wordsL, trapsL]

theorem refText7_c (e : Ev) (ht : EvT ⟨e.g, 7, e.f, e.p, e.ad, e.ch, e.ob, e.n, e.tr⟩) (hok : evOk ⟨e.g, 7, e.f, e.p, e.ad, e.ch, e.ob, e.n, e.tr⟩ = true) (w : World) (hA : powA.rep w (.blk 0)) : Calls Tryd.prog 21 #[evV ⟨e.g, 7, e.f, e.p, e.ad, e.ch, e.ob, e.n, e.tr⟩] w fun x w' => x = .returned (.string (mkT (textL ⟨e.g, 7, e.f, e.p, e.ad, e.ch, e.ob, e.n, e.tr⟩))) ∧ Below w.heap.size w w' := by
  refine calls_tab tabRT_ok Tryd.func21 rfl powA [.ag [.i .i64 e.g, .n .i64 7, .i .i64 e.f, .i .i64 e.p, .i .u32 e.ad, .i .i64 e.ch, .i .i64 e.ob, .i .i64 e.n, .i .i64 e.tr]] rfl Tryd.ntmps21 rfl _ (wpx_ok tabRT_ok (CI_ok tabRT_ok 6) _ ?_) w hA
  have ha : 0 ≤ e.ad ∧ e.ad ≤ 4294967295 := ht.ad
  have wa : IntKind.u64.wrap e.ad = e.ad := wrapU ha.1 (by omega)
  have had : in64 e.ad := in64_u ht.ad
  have lg : (Lib.itoa e.g).length ≤ 21 := itoa_len ht.g
  have lf : (Lib.itoa e.f).length ≤ 21 := itoa_len ht.f
  have lp : (Lib.itoa e.p).length ≤ 21 := itoa_len ht.p
  have la : (Lib.itoa e.ad).length ≤ 21 := itoa_len had
  have lc : (Lib.itoa e.ch).length ≤ 21 := itoa_len ht.ch
  have lo : (Lib.itoa e.ob).length ≤ 21 := itoa_len ht.ob
  have ln : (Lib.itoa e.n).length ≤ 21 := itoa_len ht.n
  conv => whnf
  refine And.intro (by (conv => whnf); exact ⟨rfl, ht.g⟩) ?_
  conv => whnf
  refine And.intro (by (conv => whnf); (refine sz_ob ?_; simp [ByteArray.size_append, ByteArray.size, itoaB, mkT, siteT]; omega)) ?_
  conv => whnf
  refine And.intro (by (conv => whnf); exact ⟨rfl, ht.f, ht.p, trivial⟩) ?_
  conv => whnf
  refine And.intro (by (conv => whnf); (refine sz_ob ?_; simp [ByteArray.size_append, ByteArray.size, itoaB, mkT, siteT]; omega)) ?_
  conv => whnf
  refine And.intro (by (conv => whnf); (refine sz_ob ?_; simp [ByteArray.size_append, ByteArray.size, itoaB, mkT, siteT]; omega)) ?_
  conv => whnf
  refine And.intro (by (conv => whnf); (refine sz_ob ?_; simp [ByteArray.size_append, ByteArray.size, itoaB, mkT, siteT]; omega)) ?_
  conv => whnf
  refine And.intro (by (conv => whnf); (refine sz_ob ?_; simp [ByteArray.size_append, ByteArray.size, itoaB, mkT, siteT]; omega)) ?_
  conv => whnf
  refine And.intro (by (conv => whnf); exact ⟨rfl, ht.ob⟩) ?_
  conv => whnf
  refine And.intro (by (conv => whnf); (refine sz_ob ?_; simp [ByteArray.size_append, ByteArray.size, itoaB, mkT, siteT]; omega)) ?_
  conv => whnf
  refine ret_s (congrArg Value.string ?_)
  skip
  simp [mk_arr, itoaB_mk, mkT_append, textL, tailL, wordsL, trapsL]

theorem refText8_c (e : Ev) (ht : EvT ⟨e.g, 8, e.f, e.p, e.ad, e.ch, e.ob, e.n, e.tr⟩) (hok : evOk ⟨e.g, 8, e.f, e.p, e.ad, e.ch, e.ob, e.n, e.tr⟩ = true) (w : World) (hA : powA.rep w (.blk 0)) : Calls Tryd.prog 21 #[evV ⟨e.g, 8, e.f, e.p, e.ad, e.ch, e.ob, e.n, e.tr⟩] w fun x w' => x = .returned (.string (mkT (textL ⟨e.g, 8, e.f, e.p, e.ad, e.ch, e.ob, e.n, e.tr⟩))) ∧ Below w.heap.size w w' := by
  refine calls_tab tabRT_ok Tryd.func21 rfl powA [.ag [.i .i64 e.g, .n .i64 8, .i .i64 e.f, .i .i64 e.p, .i .u32 e.ad, .i .i64 e.ch, .i .i64 e.ob, .i .i64 e.n, .i .i64 e.tr]] rfl Tryd.ntmps21 rfl _ (wpx_ok tabRT_ok (CI_ok tabRT_ok 6) _ ?_) w hA
  have ha : 0 ≤ e.ad ∧ e.ad ≤ 4294967295 := ht.ad
  have wa : IntKind.u64.wrap e.ad = e.ad := wrapU ha.1 (by omega)
  have had : in64 e.ad := in64_u ht.ad
  have lg : (Lib.itoa e.g).length ≤ 21 := itoa_len ht.g
  have lf : (Lib.itoa e.f).length ≤ 21 := itoa_len ht.f
  have lp : (Lib.itoa e.p).length ≤ 21 := itoa_len ht.p
  have la : (Lib.itoa e.ad).length ≤ 21 := itoa_len had
  have lc : (Lib.itoa e.ch).length ≤ 21 := itoa_len ht.ch
  have lo : (Lib.itoa e.ob).length ≤ 21 := itoa_len ht.ob
  have ln : (Lib.itoa e.n).length ≤ 21 := itoa_len ht.n
  conv => whnf
  refine And.intro (by (conv => whnf); exact ⟨rfl, ht.g⟩) ?_
  conv => whnf
  refine And.intro (by (conv => whnf); (refine sz_ob ?_; simp [ByteArray.size_append, ByteArray.size, itoaB, mkT, siteT]; omega)) ?_
  conv => whnf
  refine And.intro (by (conv => whnf); exact ⟨rfl, ht.f, ht.p, trivial⟩) ?_
  conv => whnf
  refine And.intro (by (conv => whnf); (refine sz_ob ?_; simp [ByteArray.size_append, ByteArray.size, itoaB, mkT, siteT]; omega)) ?_
  conv => whnf
  refine And.intro (by (conv => whnf); (refine sz_ob ?_; simp [ByteArray.size_append, ByteArray.size, itoaB, mkT, siteT]; omega)) ?_
  conv => whnf
  refine And.intro (by (conv => whnf); (refine sz_ob ?_; simp [ByteArray.size_append, ByteArray.size, itoaB, mkT, siteT]; omega)) ?_
  conv => whnf
  refine And.intro (by (conv => whnf); (refine sz_ob ?_; simp [ByteArray.size_append, ByteArray.size, itoaB, mkT, siteT]; omega)) ?_
  conv => whnf
  refine And.intro (by (conv => whnf); exact ⟨rfl, ht.ob⟩) ?_
  conv => whnf
  refine And.intro (by (conv => whnf); (refine sz_ob ?_; simp [ByteArray.size_append, ByteArray.size, itoaB, mkT, siteT]; omega)) ?_
  conv => whnf
  refine ret_s (congrArg Value.string ?_)
  skip
  simp [mk_arr, itoaB_mk, mkT_append, textL, tailL, wordsL, trapsL]

theorem refText9_c (e : Ev) (ht : EvT ⟨e.g, 9, e.f, e.p, e.ad, e.ch, e.ob, e.n, e.tr⟩) (hok : evOk ⟨e.g, 9, e.f, e.p, e.ad, e.ch, e.ob, e.n, e.tr⟩ = true) (w : World) (hA : powA.rep w (.blk 0)) : Calls Tryd.prog 21 #[evV ⟨e.g, 9, e.f, e.p, e.ad, e.ch, e.ob, e.n, e.tr⟩] w fun x w' => x = .returned (.string (mkT (textL ⟨e.g, 9, e.f, e.p, e.ad, e.ch, e.ob, e.n, e.tr⟩))) ∧ Below w.heap.size w w' := by
  refine calls_tab tabRT_ok Tryd.func21 rfl powA [.ag [.i .i64 e.g, .n .i64 9, .i .i64 e.f, .i .i64 e.p, .i .u32 e.ad, .i .i64 e.ch, .i .i64 e.ob, .i .i64 e.n, .i .i64 e.tr]] rfl Tryd.ntmps21 rfl _ (wpx_ok tabRT_ok (CI_ok tabRT_ok 6) _ ?_) w hA
  have ha : 0 ≤ e.ad ∧ e.ad ≤ 4294967295 := ht.ad
  have wa : IntKind.u64.wrap e.ad = e.ad := wrapU ha.1 (by omega)
  have had : in64 e.ad := in64_u ht.ad
  have lg : (Lib.itoa e.g).length ≤ 21 := itoa_len ht.g
  have lf : (Lib.itoa e.f).length ≤ 21 := itoa_len ht.f
  have lp : (Lib.itoa e.p).length ≤ 21 := itoa_len ht.p
  have la : (Lib.itoa e.ad).length ≤ 21 := itoa_len had
  have lc : (Lib.itoa e.ch).length ≤ 21 := itoa_len ht.ch
  have lo : (Lib.itoa e.ob).length ≤ 21 := itoa_len ht.ob
  have ln : (Lib.itoa e.n).length ≤ 21 := itoa_len ht.n
  conv => whnf
  refine And.intro (by (conv => whnf); exact ⟨rfl, ht.g⟩) ?_
  conv => whnf
  refine And.intro (by (conv => whnf); (refine sz_ob ?_; simp [ByteArray.size_append, ByteArray.size, itoaB, mkT, siteT]; omega)) ?_
  conv => whnf
  refine And.intro (by (conv => whnf); exact ⟨rfl, ht.f, ht.p, trivial⟩) ?_
  conv => whnf
  refine And.intro (by (conv => whnf); (refine sz_ob ?_; simp [ByteArray.size_append, ByteArray.size, itoaB, mkT, siteT]; omega)) ?_
  conv => whnf
  refine And.intro (by (conv => whnf); (refine sz_ob ?_; simp [ByteArray.size_append, ByteArray.size, itoaB, mkT, siteT]; omega)) ?_
  conv => whnf
  refine And.intro (by (conv => whnf); (refine sz_ob ?_; simp [ByteArray.size_append, ByteArray.size, itoaB, mkT, siteT]; omega)) ?_
  conv => whnf
  refine And.intro (by (conv => whnf); (refine sz_ob ?_; simp [ByteArray.size_append, ByteArray.size, itoaB, mkT, siteT]; omega)) ?_
  conv => whnf
  refine And.intro (by (conv => whnf); exact ⟨rfl, ht.ob⟩) ?_
  conv => whnf
  refine And.intro (by (conv => whnf); (refine sz_ob ?_; simp [ByteArray.size_append, ByteArray.size, itoaB, mkT, siteT]; omega)) ?_
  conv => whnf
  refine ret_s (congrArg Value.string ?_)
  skip
  simp [mk_arr, itoaB_mk, mkT_append, textL, tailL, wordsL, trapsL]

theorem refText10_c (e : Ev) (ht : EvT ⟨e.g, 10, e.f, e.p, e.ad, e.ch, e.ob, e.n, e.tr⟩) (hok : evOk ⟨e.g, 10, e.f, e.p, e.ad, e.ch, e.ob, e.n, e.tr⟩ = true) (w : World) (hA : powA.rep w (.blk 0)) : Calls Tryd.prog 21 #[evV ⟨e.g, 10, e.f, e.p, e.ad, e.ch, e.ob, e.n, e.tr⟩] w fun x w' => x = .returned (.string (mkT (textL ⟨e.g, 10, e.f, e.p, e.ad, e.ch, e.ob, e.n, e.tr⟩))) ∧ Below w.heap.size w w' := by
  refine calls_tab tabRT_ok Tryd.func21 rfl powA [.ag [.i .i64 e.g, .n .i64 10, .i .i64 e.f, .i .i64 e.p, .i .u32 e.ad, .i .i64 e.ch, .i .i64 e.ob, .i .i64 e.n, .i .i64 e.tr]] rfl Tryd.ntmps21 rfl _ (wpx_ok tabRT_ok (CI_ok tabRT_ok 6) _ ?_) w hA
  have ha : 0 ≤ e.ad ∧ e.ad ≤ 4294967295 := ht.ad
  have wa : IntKind.u64.wrap e.ad = e.ad := wrapU ha.1 (by omega)
  have had : in64 e.ad := in64_u ht.ad
  have lg : (Lib.itoa e.g).length ≤ 21 := itoa_len ht.g
  have lf : (Lib.itoa e.f).length ≤ 21 := itoa_len ht.f
  have lp : (Lib.itoa e.p).length ≤ 21 := itoa_len ht.p
  have la : (Lib.itoa e.ad).length ≤ 21 := itoa_len had
  have lc : (Lib.itoa e.ch).length ≤ 21 := itoa_len ht.ch
  have lo : (Lib.itoa e.ob).length ≤ 21 := itoa_len ht.ob
  have ln : (Lib.itoa e.n).length ≤ 21 := itoa_len ht.n
  conv => whnf
  refine And.intro (by (conv => whnf); exact ⟨rfl, ht.g⟩) ?_
  conv => whnf
  refine And.intro (by (conv => whnf); (refine sz_ob ?_; simp [ByteArray.size_append, ByteArray.size, itoaB, mkT, siteT]; omega)) ?_
  conv => whnf
  refine And.intro (by (conv => whnf); exact ⟨rfl, ht.f, ht.p, trivial⟩) ?_
  conv => whnf
  refine And.intro (by (conv => whnf); (refine sz_ob ?_; simp [ByteArray.size_append, ByteArray.size, itoaB, mkT, siteT]; omega)) ?_
  conv => whnf
  refine And.intro (by (conv => whnf); (refine sz_ob ?_; simp [ByteArray.size_append, ByteArray.size, itoaB, mkT, siteT]; omega)) ?_
  conv => whnf
  refine And.intro (by (conv => whnf); (refine sz_ob ?_; simp [ByteArray.size_append, ByteArray.size, itoaB, mkT, siteT]; omega)) ?_
  conv => whnf
  refine And.intro (by (conv => whnf); (refine sz_ob ?_; simp [ByteArray.size_append, ByteArray.size, itoaB, mkT, siteT]; omega)) ?_
  conv => whnf
  refine And.intro (by (conv => whnf); exact ⟨rfl, ht.ob⟩) ?_
  conv => whnf
  refine And.intro (by (conv => whnf); (refine sz_ob ?_; simp [ByteArray.size_append, ByteArray.size, itoaB, mkT, siteT]; omega)) ?_
  conv => whnf
  refine ret_s (congrArg Value.string ?_)
  skip
  simp [mk_arr, itoaB_mk, mkT_append, textL, tailL, wordsL, trapsL]

theorem refText11_c (e : Ev) (ht : EvT ⟨e.g, 11, e.f, e.p, e.ad, e.ch, e.ob, e.n, e.tr⟩) (hok : evOk ⟨e.g, 11, e.f, e.p, e.ad, e.ch, e.ob, e.n, e.tr⟩ = true) (w : World) (hA : powA.rep w (.blk 0)) : Calls Tryd.prog 21 #[evV ⟨e.g, 11, e.f, e.p, e.ad, e.ch, e.ob, e.n, e.tr⟩] w fun x w' => x = .returned (.string (mkT (textL ⟨e.g, 11, e.f, e.p, e.ad, e.ch, e.ob, e.n, e.tr⟩))) ∧ Below w.heap.size w w' := by
  refine calls_tab tabRT_ok Tryd.func21 rfl powA [.ag [.i .i64 e.g, .n .i64 11, .i .i64 e.f, .i .i64 e.p, .i .u32 e.ad, .i .i64 e.ch, .i .i64 e.ob, .i .i64 e.n, .i .i64 e.tr]] rfl Tryd.ntmps21 rfl _ (wpx_ok tabRT_ok (CI_ok tabRT_ok 6) _ ?_) w hA
  have ha : 0 ≤ e.ad ∧ e.ad ≤ 4294967295 := ht.ad
  have wa : IntKind.u64.wrap e.ad = e.ad := wrapU ha.1 (by omega)
  have had : in64 e.ad := in64_u ht.ad
  have lg : (Lib.itoa e.g).length ≤ 21 := itoa_len ht.g
  have lf : (Lib.itoa e.f).length ≤ 21 := itoa_len ht.f
  have lp : (Lib.itoa e.p).length ≤ 21 := itoa_len ht.p
  have la : (Lib.itoa e.ad).length ≤ 21 := itoa_len had
  have lc : (Lib.itoa e.ch).length ≤ 21 := itoa_len ht.ch
  have lo : (Lib.itoa e.ob).length ≤ 21 := itoa_len ht.ob
  have ln : (Lib.itoa e.n).length ≤ 21 := itoa_len ht.n
  conv => whnf
  refine And.intro (by (conv => whnf); exact ⟨rfl, ht.g⟩) ?_
  conv => whnf
  refine And.intro (by (conv => whnf); (refine sz_ob ?_; simp [ByteArray.size_append, ByteArray.size, itoaB, mkT, siteT]; omega)) ?_
  conv => whnf
  refine And.intro (by (conv => whnf); exact ⟨rfl, ht.f, ht.p, trivial⟩) ?_
  conv => whnf
  refine And.intro (by (conv => whnf); (refine sz_ob ?_; simp [ByteArray.size_append, ByteArray.size, itoaB, mkT, siteT]; omega)) ?_
  conv => whnf
  refine And.intro (by (conv => whnf); (refine sz_ob ?_; simp [ByteArray.size_append, ByteArray.size, itoaB, mkT, siteT]; omega)) ?_
  conv => whnf
  refine And.intro (by (conv => whnf); (refine sz_ob ?_; simp [ByteArray.size_append, ByteArray.size, itoaB, mkT, siteT]; omega)) ?_
  conv => whnf
  refine And.intro (by (conv => whnf); (refine sz_ob ?_; simp [ByteArray.size_append, ByteArray.size, itoaB, mkT, siteT]; omega)) ?_
  conv => whnf
  refine And.intro (by (conv => whnf); exact ⟨rfl, ht.ob⟩) ?_
  conv => whnf
  refine And.intro (by (conv => whnf); (refine sz_ob ?_; simp [ByteArray.size_append, ByteArray.size, itoaB, mkT, siteT]; omega)) ?_
  conv => whnf
  refine And.intro (by (conv => whnf); (refine sz_ob ?_; simp [ByteArray.size_append, ByteArray.size, itoaB, mkT, siteT]; omega)) ?_
  conv => whnf
  refine And.intro (by (conv => whnf); exact ⟨rfl, ht.n⟩) ?_
  conv => whnf
  refine And.intro (by (conv => whnf); (refine sz_ob ?_; simp [ByteArray.size_append, ByteArray.size, itoaB, mkT, siteT]; omega)) ?_
  conv => whnf
  refine ret_s (congrArg Value.string ?_)
  skip
  simp [mk_arr, itoaB_mk, mkT_append, textL, tailL, wordsL, trapsL]

theorem refText12_c (e : Ev) (ht : EvT ⟨e.g, 12, e.f, e.p, e.ad, e.ch, e.ob, e.n, e.tr⟩) (hok : evOk ⟨e.g, 12, e.f, e.p, e.ad, e.ch, e.ob, e.n, e.tr⟩ = true) (w : World) (hA : powA.rep w (.blk 0)) : Calls Tryd.prog 21 #[evV ⟨e.g, 12, e.f, e.p, e.ad, e.ch, e.ob, e.n, e.tr⟩] w fun x w' => x = .returned (.string (mkT (textL ⟨e.g, 12, e.f, e.p, e.ad, e.ch, e.ob, e.n, e.tr⟩))) ∧ Below w.heap.size w w' := by
  refine calls_tab tabRT_ok Tryd.func21 rfl powA [.ag [.i .i64 e.g, .n .i64 12, .i .i64 e.f, .i .i64 e.p, .i .u32 e.ad, .i .i64 e.ch, .i .i64 e.ob, .i .i64 e.n, .i .i64 e.tr]] rfl Tryd.ntmps21 rfl _ (wpx_ok tabRT_ok (CI_ok tabRT_ok 6) _ ?_) w hA
  have ha : 0 ≤ e.ad ∧ e.ad ≤ 4294967295 := ht.ad
  have wa : IntKind.u64.wrap e.ad = e.ad := wrapU ha.1 (by omega)
  have had : in64 e.ad := in64_u ht.ad
  have lg : (Lib.itoa e.g).length ≤ 21 := itoa_len ht.g
  have lf : (Lib.itoa e.f).length ≤ 21 := itoa_len ht.f
  have lp : (Lib.itoa e.p).length ≤ 21 := itoa_len ht.p
  have la : (Lib.itoa e.ad).length ≤ 21 := itoa_len had
  have lc : (Lib.itoa e.ch).length ≤ 21 := itoa_len ht.ch
  have lo : (Lib.itoa e.ob).length ≤ 21 := itoa_len ht.ob
  have ln : (Lib.itoa e.n).length ≤ 21 := itoa_len ht.n
  conv => whnf
  refine And.intro (by (conv => whnf); exact ⟨rfl, ht.g⟩) ?_
  conv => whnf
  refine And.intro (by (conv => whnf); (refine sz_ob ?_; simp [ByteArray.size_append, ByteArray.size, itoaB, mkT, siteT]; omega)) ?_
  conv => whnf
  refine And.intro (by (conv => whnf); exact ⟨rfl, ht.f, ht.p, trivial⟩) ?_
  conv => whnf
  refine And.intro (by (conv => whnf); (refine sz_ob ?_; simp [ByteArray.size_append, ByteArray.size, itoaB, mkT, siteT]; omega)) ?_
  conv => whnf
  refine And.intro (by (conv => whnf); (refine sz_ob ?_; simp [ByteArray.size_append, ByteArray.size, itoaB, mkT, siteT]; omega)) ?_
  conv => whnf
  refine And.intro (by (conv => whnf); (refine sz_ob ?_; simp [ByteArray.size_append, ByteArray.size, itoaB, mkT, siteT]; omega)) ?_
  conv => whnf
  refine And.intro (by (conv => whnf); (refine sz_ob ?_; simp [ByteArray.size_append, ByteArray.size, itoaB, mkT, siteT]; omega)) ?_
  conv => whnf
  refine And.intro (by (conv => whnf); exact ⟨rfl, ht.ob⟩) ?_
  conv => whnf
  refine And.intro (by (conv => whnf); (refine sz_ob ?_; simp [ByteArray.size_append, ByteArray.size, itoaB, mkT, siteT]; omega)) ?_
  conv => whnf
  refine ret_s (congrArg Value.string ?_)
  skip
  simp [mk_arr, itoaB_mk, mkT_append, textL, tailL, wordsL, trapsL]

theorem refText13_c (e : Ev) (ht : EvT ⟨e.g, 13, e.f, e.p, e.ad, e.ch, e.ob, e.n, e.tr⟩) (hok : evOk ⟨e.g, 13, e.f, e.p, e.ad, e.ch, e.ob, e.n, e.tr⟩ = true) (w : World) (hA : powA.rep w (.blk 0)) : Calls Tryd.prog 21 #[evV ⟨e.g, 13, e.f, e.p, e.ad, e.ch, e.ob, e.n, e.tr⟩] w fun x w' => x = .returned (.string (mkT (textL ⟨e.g, 13, e.f, e.p, e.ad, e.ch, e.ob, e.n, e.tr⟩))) ∧ Below w.heap.size w w' := by
  refine calls_tab tabRT_ok Tryd.func21 rfl powA [.ag [.i .i64 e.g, .n .i64 13, .i .i64 e.f, .i .i64 e.p, .i .u32 e.ad, .i .i64 e.ch, .i .i64 e.ob, .i .i64 e.n, .i .i64 e.tr]] rfl Tryd.ntmps21 rfl _ (wpx_ok tabRT_ok (CI_ok tabRT_ok 6) _ ?_) w hA
  have ha : 0 ≤ e.ad ∧ e.ad ≤ 4294967295 := ht.ad
  have wa : IntKind.u64.wrap e.ad = e.ad := wrapU ha.1 (by omega)
  have had : in64 e.ad := in64_u ht.ad
  have lg : (Lib.itoa e.g).length ≤ 21 := itoa_len ht.g
  have lf : (Lib.itoa e.f).length ≤ 21 := itoa_len ht.f
  have lp : (Lib.itoa e.p).length ≤ 21 := itoa_len ht.p
  have la : (Lib.itoa e.ad).length ≤ 21 := itoa_len had
  have lc : (Lib.itoa e.ch).length ≤ 21 := itoa_len ht.ch
  have lo : (Lib.itoa e.ob).length ≤ 21 := itoa_len ht.ob
  have ln : (Lib.itoa e.n).length ≤ 21 := itoa_len ht.n
  conv => whnf
  refine And.intro (by (conv => whnf); exact ⟨rfl, ht.g⟩) ?_
  conv => whnf
  refine And.intro (by (conv => whnf); (refine sz_ob ?_; simp [ByteArray.size_append, ByteArray.size, itoaB, mkT, siteT]; omega)) ?_
  conv => whnf
  refine And.intro (by (conv => whnf); exact ⟨rfl, ht.f, ht.p, trivial⟩) ?_
  conv => whnf
  refine And.intro (by (conv => whnf); (refine sz_ob ?_; simp [ByteArray.size_append, ByteArray.size, itoaB, mkT, siteT]; omega)) ?_
  conv => whnf
  refine And.intro (by (conv => whnf); (refine sz_ob ?_; simp [ByteArray.size_append, ByteArray.size, itoaB, mkT, siteT]; omega)) ?_
  conv => whnf
  refine And.intro (by (conv => whnf); (refine sz_ob ?_; simp [ByteArray.size_append, ByteArray.size, itoaB, mkT, siteT]; omega)) ?_
  conv => whnf
  refine ret_s (congrArg Value.string ?_)
  skip
  simp [mk_arr, itoaB_mk, mkT_append, textL, tailL, wordsL, trapsL]

theorem refText14_1_c (e : Ev) (ht : EvT ⟨e.g, 14, e.f, e.p, e.ad, e.ch, e.ob, e.n, 1⟩) (hok : evOk ⟨e.g, 14, e.f, e.p, e.ad, e.ch, e.ob, e.n, 1⟩ = true) (w : World) (hA : powA.rep w (.blk 0)) : Calls Tryd.prog 21 #[evV ⟨e.g, 14, e.f, e.p, e.ad, e.ch, e.ob, e.n, 1⟩] w fun x w' => x = .returned (.string (mkT (textL ⟨e.g, 14, e.f, e.p, e.ad, e.ch, e.ob, e.n, 1⟩))) ∧ Below w.heap.size w w' := by
  refine calls_tab tabRT_ok Tryd.func21 rfl powA [.ag [.i .i64 e.g, .n .i64 14, .i .i64 e.f, .i .i64 e.p, .i .u32 e.ad, .i .i64 e.ch, .i .i64 e.ob, .i .i64 e.n, .n .i64 1]] rfl Tryd.ntmps21 rfl _ (wpx_ok tabRT_ok (CI_ok tabRT_ok 6) _ ?_) w hA
  have ha : 0 ≤ e.ad ∧ e.ad ≤ 4294967295 := ht.ad
  have wa : IntKind.u64.wrap e.ad = e.ad := wrapU ha.1 (by omega)
  have had : in64 e.ad := in64_u ht.ad
  have lg : (Lib.itoa e.g).length ≤ 21 := itoa_len ht.g
  have lf : (Lib.itoa e.f).length ≤ 21 := itoa_len ht.f
  have lp : (Lib.itoa e.p).length ≤ 21 := itoa_len ht.p
  have la : (Lib.itoa e.ad).length ≤ 21 := itoa_len had
  have lc : (Lib.itoa e.ch).length ≤ 21 := itoa_len ht.ch
  have lo : (Lib.itoa e.ob).length ≤ 21 := itoa_len ht.ob
  have ln : (Lib.itoa e.n).length ≤ 21 := itoa_len ht.n
  conv => whnf
  refine And.intro (by (conv => whnf); exact ⟨rfl, ht.g⟩) ?_
  conv => whnf
  refine And.intro (by (conv => whnf); (refine sz_ob ?_; simp [ByteArray.size_append, ByteArray.size, itoaB, mkT, siteT]; omega)) ?_
  conv => whnf
  refine And.intro (by (conv => whnf); exact ⟨rfl, ht.f, ht.p, trivial⟩) ?_
  conv => whnf
  refine And.intro (by (conv => whnf); (refine sz_ob ?_; simp [ByteArray.size_append, ByteArray.size, itoaB, mkT, siteT]; omega)) ?_
  conv => whnf
  refine And.intro (by (conv => whnf); (refine sz_ob ?_; simp [ByteArray.size_append, ByteArray.size, itoaB, mkT, siteT]; omega)) ?_
  conv => whnf
  refine And.intro (by (conv => whnf); (refine sz_ob ?_; simp [ByteArray.size_append, ByteArray.size, itoaB, mkT, siteT]; omega)) ?_
  conv => whnf
  refine And.intro (by (conv => whnf); (refine sz_ob ?_; simp [ByteArray.size_append, ByteArray.size, itoaB, mkT, siteT]; omega)) ?_
  conv => whnf
  refine And.intro (by (conv => whnf); (refine sz_ob ?_; simp [ByteArray.size_append, ByteArray.size, itoaB, mkT, siteT]; omega)) ?_
  conv => whnf
  refine ret_s (congrArg Value.string ?_)
  skip
  simp [mk_arr, itoaB_mk, mkT_append, textL, tailL, wordsL, trapsL]

theorem refText14_2_c (e : Ev) (ht : EvT ⟨e.g, 14, e.f, e.p, e.ad, e.ch, e.ob, e.n, 2⟩) (hok : evOk ⟨e.g, 14, e.f, e.p, e.ad, e.ch, e.ob, e.n, 2⟩ = true) (w : World) (hA : powA.rep w (.blk 0)) : Calls Tryd.prog 21 #[evV ⟨e.g, 14, e.f, e.p, e.ad, e.ch, e.ob, e.n, 2⟩] w fun x w' => x = .returned (.string (mkT (textL ⟨e.g, 14, e.f, e.p, e.ad, e.ch, e.ob, e.n, 2⟩))) ∧ Below w.heap.size w w' := by
  refine calls_tab tabRT_ok Tryd.func21 rfl powA [.ag [.i .i64 e.g, .n .i64 14, .i .i64 e.f, .i .i64 e.p, .i .u32 e.ad, .i .i64 e.ch, .i .i64 e.ob, .i .i64 e.n, .n .i64 2]] rfl Tryd.ntmps21 rfl _ (wpx_ok tabRT_ok (CI_ok tabRT_ok 6) _ ?_) w hA
  have ha : 0 ≤ e.ad ∧ e.ad ≤ 4294967295 := ht.ad
  have wa : IntKind.u64.wrap e.ad = e.ad := wrapU ha.1 (by omega)
  have had : in64 e.ad := in64_u ht.ad
  have lg : (Lib.itoa e.g).length ≤ 21 := itoa_len ht.g
  have lf : (Lib.itoa e.f).length ≤ 21 := itoa_len ht.f
  have lp : (Lib.itoa e.p).length ≤ 21 := itoa_len ht.p
  have la : (Lib.itoa e.ad).length ≤ 21 := itoa_len had
  have lc : (Lib.itoa e.ch).length ≤ 21 := itoa_len ht.ch
  have lo : (Lib.itoa e.ob).length ≤ 21 := itoa_len ht.ob
  have ln : (Lib.itoa e.n).length ≤ 21 := itoa_len ht.n
  conv => whnf
  refine And.intro (by (conv => whnf); exact ⟨rfl, ht.g⟩) ?_
  conv => whnf
  refine And.intro (by (conv => whnf); (refine sz_ob ?_; simp [ByteArray.size_append, ByteArray.size, itoaB, mkT, siteT]; omega)) ?_
  conv => whnf
  refine And.intro (by (conv => whnf); exact ⟨rfl, ht.f, ht.p, trivial⟩) ?_
  conv => whnf
  refine And.intro (by (conv => whnf); (refine sz_ob ?_; simp [ByteArray.size_append, ByteArray.size, itoaB, mkT, siteT]; omega)) ?_
  conv => whnf
  refine And.intro (by (conv => whnf); (refine sz_ob ?_; simp [ByteArray.size_append, ByteArray.size, itoaB, mkT, siteT]; omega)) ?_
  conv => whnf
  refine And.intro (by (conv => whnf); (refine sz_ob ?_; simp [ByteArray.size_append, ByteArray.size, itoaB, mkT, siteT]; omega)) ?_
  conv => whnf
  refine And.intro (by (conv => whnf); (refine sz_ob ?_; simp [ByteArray.size_append, ByteArray.size, itoaB, mkT, siteT]; omega)) ?_
  conv => whnf
  refine And.intro (by (conv => whnf); (refine sz_ob ?_; simp [ByteArray.size_append, ByteArray.size, itoaB, mkT, siteT]; omega)) ?_
  conv => whnf
  refine ret_s (congrArg Value.string ?_)
  skip
  simp [mk_arr, itoaB_mk, mkT_append, textL, tailL, wordsL, trapsL]

theorem refText14_3_c (e : Ev) (ht : EvT ⟨e.g, 14, e.f, e.p, e.ad, e.ch, e.ob, e.n, 3⟩) (hok : evOk ⟨e.g, 14, e.f, e.p, e.ad, e.ch, e.ob, e.n, 3⟩ = true) (w : World) (hA : powA.rep w (.blk 0)) : Calls Tryd.prog 21 #[evV ⟨e.g, 14, e.f, e.p, e.ad, e.ch, e.ob, e.n, 3⟩] w fun x w' => x = .returned (.string (mkT (textL ⟨e.g, 14, e.f, e.p, e.ad, e.ch, e.ob, e.n, 3⟩))) ∧ Below w.heap.size w w' := by
  refine calls_tab tabRT_ok Tryd.func21 rfl powA [.ag [.i .i64 e.g, .n .i64 14, .i .i64 e.f, .i .i64 e.p, .i .u32 e.ad, .i .i64 e.ch, .i .i64 e.ob, .i .i64 e.n, .n .i64 3]] rfl Tryd.ntmps21 rfl _ (wpx_ok tabRT_ok (CI_ok tabRT_ok 6) _ ?_) w hA
  have ha : 0 ≤ e.ad ∧ e.ad ≤ 4294967295 := ht.ad
  have wa : IntKind.u64.wrap e.ad = e.ad := wrapU ha.1 (by omega)
  have had : in64 e.ad := in64_u ht.ad
  have lg : (Lib.itoa e.g).length ≤ 21 := itoa_len ht.g
  have lf : (Lib.itoa e.f).length ≤ 21 := itoa_len ht.f
  have lp : (Lib.itoa e.p).length ≤ 21 := itoa_len ht.p
  have la : (Lib.itoa e.ad).length ≤ 21 := itoa_len had
  have lc : (Lib.itoa e.ch).length ≤ 21 := itoa_len ht.ch
  have lo : (Lib.itoa e.ob).length ≤ 21 := itoa_len ht.ob
  have ln : (Lib.itoa e.n).length ≤ 21 := itoa_len ht.n
  conv => whnf
  refine And.intro (by (conv => whnf); exact ⟨rfl, ht.g⟩) ?_
  conv => whnf
  refine And.intro (by (conv => whnf); (refine sz_ob ?_; simp [ByteArray.size_append, ByteArray.size, itoaB, mkT, siteT]; omega)) ?_
  conv => whnf
  refine And.intro (by (conv => whnf); exact ⟨rfl, ht.f, ht.p, trivial⟩) ?_
  conv => whnf
  refine And.intro (by (conv => whnf); (refine sz_ob ?_; simp [ByteArray.size_append, ByteArray.size, itoaB, mkT, siteT]; omega)) ?_
  conv => whnf
  refine And.intro (by (conv => whnf); (refine sz_ob ?_; simp [ByteArray.size_append, ByteArray.size, itoaB, mkT, siteT]; omega)) ?_
  conv => whnf
  refine And.intro (by (conv => whnf); (refine sz_ob ?_; simp [ByteArray.size_append, ByteArray.size, itoaB, mkT, siteT]; omega)) ?_
  conv => whnf
  refine And.intro (by (conv => whnf); (refine sz_ob ?_; simp [ByteArray.size_append, ByteArray.size, itoaB, mkT, siteT]; omega)) ?_
  conv => whnf
  refine And.intro (by (conv => whnf); (refine sz_ob ?_; simp [ByteArray.size_append, ByteArray.size, itoaB, mkT, siteT]; omega)) ?_
  conv => whnf
  refine ret_s (congrArg Value.string ?_)
  skip
  simp [mk_arr, itoaB_mk, mkT_append, textL, tailL, wordsL, trapsL]

theorem refText14_4_c (e : Ev) (ht : EvT ⟨e.g, 14, e.f, e.p, e.ad, e.ch, e.ob, e.n, 4⟩) (hok : evOk ⟨e.g, 14, e.f, e.p, e.ad, e.ch, e.ob, e.n, 4⟩ = true) (w : World) (hA : powA.rep w (.blk 0)) : Calls Tryd.prog 21 #[evV ⟨e.g, 14, e.f, e.p, e.ad, e.ch, e.ob, e.n, 4⟩] w fun x w' => x = .returned (.string (mkT (textL ⟨e.g, 14, e.f, e.p, e.ad, e.ch, e.ob, e.n, 4⟩))) ∧ Below w.heap.size w w' := by
  refine calls_tab tabRT_ok Tryd.func21 rfl powA [.ag [.i .i64 e.g, .n .i64 14, .i .i64 e.f, .i .i64 e.p, .i .u32 e.ad, .i .i64 e.ch, .i .i64 e.ob, .i .i64 e.n, .n .i64 4]] rfl Tryd.ntmps21 rfl _ (wpx_ok tabRT_ok (CI_ok tabRT_ok 6) _ ?_) w hA
  have ha : 0 ≤ e.ad ∧ e.ad ≤ 4294967295 := ht.ad
  have wa : IntKind.u64.wrap e.ad = e.ad := wrapU ha.1 (by omega)
  have had : in64 e.ad := in64_u ht.ad
  have lg : (Lib.itoa e.g).length ≤ 21 := itoa_len ht.g
  have lf : (Lib.itoa e.f).length ≤ 21 := itoa_len ht.f
  have lp : (Lib.itoa e.p).length ≤ 21 := itoa_len ht.p
  have la : (Lib.itoa e.ad).length ≤ 21 := itoa_len had
  have lc : (Lib.itoa e.ch).length ≤ 21 := itoa_len ht.ch
  have lo : (Lib.itoa e.ob).length ≤ 21 := itoa_len ht.ob
  have ln : (Lib.itoa e.n).length ≤ 21 := itoa_len ht.n
  conv => whnf
  refine And.intro (by (conv => whnf); exact ⟨rfl, ht.g⟩) ?_
  conv => whnf
  refine And.intro (by (conv => whnf); (refine sz_ob ?_; simp [ByteArray.size_append, ByteArray.size, itoaB, mkT, siteT]; omega)) ?_
  conv => whnf
  refine And.intro (by (conv => whnf); exact ⟨rfl, ht.f, ht.p, trivial⟩) ?_
  conv => whnf
  refine And.intro (by (conv => whnf); (refine sz_ob ?_; simp [ByteArray.size_append, ByteArray.size, itoaB, mkT, siteT]; omega)) ?_
  conv => whnf
  refine And.intro (by (conv => whnf); (refine sz_ob ?_; simp [ByteArray.size_append, ByteArray.size, itoaB, mkT, siteT]; omega)) ?_
  conv => whnf
  refine And.intro (by (conv => whnf); (refine sz_ob ?_; simp [ByteArray.size_append, ByteArray.size, itoaB, mkT, siteT]; omega)) ?_
  conv => whnf
  refine And.intro (by (conv => whnf); (refine sz_ob ?_; simp [ByteArray.size_append, ByteArray.size, itoaB, mkT, siteT]; omega)) ?_
  conv => whnf
  refine And.intro (by (conv => whnf); (refine sz_ob ?_; simp [ByteArray.size_append, ByteArray.size, itoaB, mkT, siteT]; omega)) ?_
  conv => whnf
  refine ret_s (congrArg Value.string ?_)
  skip
  simp [mk_arr, itoaB_mk, mkT_append, textL, tailL, wordsL, trapsL]

theorem refText14_5_c (e : Ev) (ht : EvT ⟨e.g, 14, e.f, e.p, e.ad, e.ch, e.ob, e.n, 5⟩) (hok : evOk ⟨e.g, 14, e.f, e.p, e.ad, e.ch, e.ob, e.n, 5⟩ = true) (w : World) (hA : powA.rep w (.blk 0)) : Calls Tryd.prog 21 #[evV ⟨e.g, 14, e.f, e.p, e.ad, e.ch, e.ob, e.n, 5⟩] w fun x w' => x = .returned (.string (mkT (textL ⟨e.g, 14, e.f, e.p, e.ad, e.ch, e.ob, e.n, 5⟩))) ∧ Below w.heap.size w w' := by
  refine calls_tab tabRT_ok Tryd.func21 rfl powA [.ag [.i .i64 e.g, .n .i64 14, .i .i64 e.f, .i .i64 e.p, .i .u32 e.ad, .i .i64 e.ch, .i .i64 e.ob, .i .i64 e.n, .n .i64 5]] rfl Tryd.ntmps21 rfl _ (wpx_ok tabRT_ok (CI_ok tabRT_ok 6) _ ?_) w hA
  have ha : 0 ≤ e.ad ∧ e.ad ≤ 4294967295 := ht.ad
  have wa : IntKind.u64.wrap e.ad = e.ad := wrapU ha.1 (by omega)
  have had : in64 e.ad := in64_u ht.ad
  have lg : (Lib.itoa e.g).length ≤ 21 := itoa_len ht.g
  have lf : (Lib.itoa e.f).length ≤ 21 := itoa_len ht.f
  have lp : (Lib.itoa e.p).length ≤ 21 := itoa_len ht.p
  have la : (Lib.itoa e.ad).length ≤ 21 := itoa_len had
  have lc : (Lib.itoa e.ch).length ≤ 21 := itoa_len ht.ch
  have lo : (Lib.itoa e.ob).length ≤ 21 := itoa_len ht.ob
  have ln : (Lib.itoa e.n).length ≤ 21 := itoa_len ht.n
  conv => whnf
  refine And.intro (by (conv => whnf); exact ⟨rfl, ht.g⟩) ?_
  conv => whnf
  refine And.intro (by (conv => whnf); (refine sz_ob ?_; simp [ByteArray.size_append, ByteArray.size, itoaB, mkT, siteT]; omega)) ?_
  conv => whnf
  refine And.intro (by (conv => whnf); exact ⟨rfl, ht.f, ht.p, trivial⟩) ?_
  conv => whnf
  refine And.intro (by (conv => whnf); (refine sz_ob ?_; simp [ByteArray.size_append, ByteArray.size, itoaB, mkT, siteT]; omega)) ?_
  conv => whnf
  refine And.intro (by (conv => whnf); (refine sz_ob ?_; simp [ByteArray.size_append, ByteArray.size, itoaB, mkT, siteT]; omega)) ?_
  conv => whnf
  refine And.intro (by (conv => whnf); (refine sz_ob ?_; simp [ByteArray.size_append, ByteArray.size, itoaB, mkT, siteT]; omega)) ?_
  conv => whnf
  refine And.intro (by (conv => whnf); (refine sz_ob ?_; simp [ByteArray.size_append, ByteArray.size, itoaB, mkT, siteT]; omega)) ?_
  conv => whnf
  refine And.intro (by (conv => whnf); (refine sz_ob ?_; simp [ByteArray.size_append, ByteArray.size, itoaB, mkT, siteT]; omega)) ?_
  conv => whnf
  refine ret_s (congrArg Value.string ?_)
  skip
  simp [mk_arr, itoaB_mk, mkT_append, textL, tailL, wordsL, trapsL]

theorem refText14_6_c (e : Ev) (ht : EvT ⟨e.g, 14, e.f, e.p, e.ad, e.ch, e.ob, e.n, 6⟩) (hok : evOk ⟨e.g, 14, e.f, e.p, e.ad, e.ch, e.ob, e.n, 6⟩ = true) (w : World) (hA : powA.rep w (.blk 0)) : Calls Tryd.prog 21 #[evV ⟨e.g, 14, e.f, e.p, e.ad, e.ch, e.ob, e.n, 6⟩] w fun x w' => x = .returned (.string (mkT (textL ⟨e.g, 14, e.f, e.p, e.ad, e.ch, e.ob, e.n, 6⟩))) ∧ Below w.heap.size w w' := by
  refine calls_tab tabRT_ok Tryd.func21 rfl powA [.ag [.i .i64 e.g, .n .i64 14, .i .i64 e.f, .i .i64 e.p, .i .u32 e.ad, .i .i64 e.ch, .i .i64 e.ob, .i .i64 e.n, .n .i64 6]] rfl Tryd.ntmps21 rfl _ (wpx_ok tabRT_ok (CI_ok tabRT_ok 6) _ ?_) w hA
  have ha : 0 ≤ e.ad ∧ e.ad ≤ 4294967295 := ht.ad
  have wa : IntKind.u64.wrap e.ad = e.ad := wrapU ha.1 (by omega)
  have had : in64 e.ad := in64_u ht.ad
  have lg : (Lib.itoa e.g).length ≤ 21 := itoa_len ht.g
  have lf : (Lib.itoa e.f).length ≤ 21 := itoa_len ht.f
  have lp : (Lib.itoa e.p).length ≤ 21 := itoa_len ht.p
  have la : (Lib.itoa e.ad).length ≤ 21 := itoa_len had
  have lc : (Lib.itoa e.ch).length ≤ 21 := itoa_len ht.ch
  have lo : (Lib.itoa e.ob).length ≤ 21 := itoa_len ht.ob
  have ln : (Lib.itoa e.n).length ≤ 21 := itoa_len ht.n
  conv => whnf
  refine And.intro (by (conv => whnf); exact ⟨rfl, ht.g⟩) ?_
  conv => whnf
  refine And.intro (by (conv => whnf); (refine sz_ob ?_; simp [ByteArray.size_append, ByteArray.size, itoaB, mkT, siteT]; omega)) ?_
  conv => whnf
  refine And.intro (by (conv => whnf); exact ⟨rfl, ht.f, ht.p, trivial⟩) ?_
  conv => whnf
  refine And.intro (by (conv => whnf); (refine sz_ob ?_; simp [ByteArray.size_append, ByteArray.size, itoaB, mkT, siteT]; omega)) ?_
  conv => whnf
  refine And.intro (by (conv => whnf); (refine sz_ob ?_; simp [ByteArray.size_append, ByteArray.size, itoaB, mkT, siteT]; omega)) ?_
  conv => whnf
  refine And.intro (by (conv => whnf); (refine sz_ob ?_; simp [ByteArray.size_append, ByteArray.size, itoaB, mkT, siteT]; omega)) ?_
  conv => whnf
  refine And.intro (by (conv => whnf); (refine sz_ob ?_; simp [ByteArray.size_append, ByteArray.size, itoaB, mkT, siteT]; omega)) ?_
  conv => whnf
  refine And.intro (by (conv => whnf); (refine sz_ob ?_; simp [ByteArray.size_append, ByteArray.size, itoaB, mkT, siteT]; omega)) ?_
  conv => whnf
  refine ret_s (congrArg Value.string ?_)
  skip
  simp [mk_arr, itoaB_mk, mkT_append, textL, tailL, wordsL, trapsL]

theorem refText_c (e : Ev) (ht : EvT e) (hb : evOk e = true) (w : World) (hA : powA.rep w (.blk 0)) : Calls Tryd.prog 21 #[evV e] w fun x w' => x = .returned (.string (mkT (textL e))) ∧ Below w.heap.size w w' := by
  have hk := evOk_k hb
  obtain ⟨g, k, f, p, ad, ch, ob, n, tr⟩ := e
  have hcases : k = 1 ∨ k = 2 ∨ k = 3 ∨ k = 4 ∨ k = 5 ∨ k = 6 ∨ k = 7 ∨ k = 8 ∨ k = 9 ∨ k = 10 ∨ k = 11 ∨ k = 12 ∨ k = 13 ∨ k = 14 := by simp only at hk; omega
  rcases hcases with rfl | rfl | rfl | rfl | rfl | rfl | rfl | rfl | rfl | rfl | rfl | rfl | rfl | rfl
  · exact refText1_c ⟨g, 0, f, p, ad, ch, ob, n, tr⟩ ht hb w hA
  · exact refText2_c ⟨g, 0, f, p, ad, ch, ob, n, tr⟩ ht hb w hA
  · exact refText3_c ⟨g, 0, f, p, ad, ch, ob, n, tr⟩ ht hb w hA
  · exact refText4_c ⟨g, 0, f, p, ad, ch, ob, n, tr⟩ ht hb w hA
  · exact refText5_c ⟨g, 0, f, p, ad, ch, ob, n, tr⟩ ht hb w hA
  · exact refText6_c ⟨g, 0, f, p, ad, ch, ob, n, tr⟩ ht hb w hA
  · exact refText7_c ⟨g, 0, f, p, ad, ch, ob, n, tr⟩ ht hb w hA
  · exact refText8_c ⟨g, 0, f, p, ad, ch, ob, n, tr⟩ ht hb w hA
  · exact refText9_c ⟨g, 0, f, p, ad, ch, ob, n, tr⟩ ht hb w hA
  · exact refText10_c ⟨g, 0, f, p, ad, ch, ob, n, tr⟩ ht hb w hA
  · exact refText11_c ⟨g, 0, f, p, ad, ch, ob, n, tr⟩ ht hb w hA
  · exact refText12_c ⟨g, 0, f, p, ad, ch, ob, n, tr⟩ ht hb w hA
  · exact refText13_c ⟨g, 0, f, p, ad, ch, ob, n, tr⟩ ht hb w hA
  · have htr := evOk_tr hb rfl
    have htc : tr = 1 ∨ tr = 2 ∨ tr = 3 ∨ tr = 4 ∨ tr = 5 ∨ tr = 6 := by simp only at htr; omega
    rcases htc with rfl | rfl | rfl | rfl | rfl | rfl
    · exact refText14_1_c ⟨g, 0, f, p, ad, ch, ob, n, 0⟩ ht hb w hA
    · exact refText14_2_c ⟨g, 0, f, p, ad, ch, ob, n, 0⟩ ht hb w hA
    · exact refText14_3_c ⟨g, 0, f, p, ad, ch, ob, n, 0⟩ ht hb w hA
    · exact refText14_4_c ⟨g, 0, f, p, ad, ch, ob, n, 0⟩ ht hb w hA
    · exact refText14_5_c ⟨g, 0, f, p, ad, ch, ob, n, 0⟩ ht hb w hA
    · exact refText14_6_c ⟨g, 0, f, p, ad, ch, ob, n, 0⟩ ht hb w hA

def sumRefText : Sum := sumEvT (fun e => EvT e ∧ evOk e = true) fun e => .s (mkT (textL e))
theorem sumRefText_ok : SumOk1 Tryd.prog 21 sumRefText := sumEvT_ok (y := fun e => .string (mkT (textL e))) (fun _ _ => rfl) fun e h w hA => refText_c e h.1 h.2 w hA
end Go.Proofs.YtiibmnoikgfcbaaDoor
