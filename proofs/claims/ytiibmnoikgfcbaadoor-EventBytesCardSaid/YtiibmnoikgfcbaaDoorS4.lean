/- An event's text (function 20), kind by kind. The table of powers stands; the event's parts lie in their types. -/
import Derived.Test.YtiibmnoikgfcbaaDoorS3
namespace Go.Proofs.YtiibmnoikgfcbaaDoor
open Go Go.Sx Go.RowKit
set_option maxRecDepth 100000
set_option maxHeartbeats 1000000
set_option linter.unusedVariables false
set_option linter.unusedSimpArgs false

/-- What stands behind the word. -/
def tailL (e : Ev) : List UInt8 :=
  if e.k = 2 ∨ e.k = 3 then 32 :: Lib.itoa e.ad
  else if e.k = 4 then 32 :: Lib.itoa e.ch
  else if e.k = 11 then 32 :: (Lib.itoa e.ob ++ 32 :: Lib.itoa e.n)
  else if 5 ≤ e.k ∧ e.k ≤ 12 then 32 :: Lib.itoa e.ob
  else if e.k = 14 then 32 :: trapsL[e.tr.toNat]!
  else []
def textL (e : Ev) : List UInt8 := Lib.itoa e.g ++ 32 :: (siteT e.f e.p ++ 32 :: (wordsL[e.k.toNat]! ++ tailL e))

def sumCheck : Sum := sumEv EvT fun e => .i .i64 (bif evOk e then 0 else 2)
theorem sumCheck_ok : SumOk1 Tryd.prog 22 sumCheck := sumEv_ok (y := fun e => .int .i64 (bif evOk e then 0 else 2)) (fun _ _ => rfl) fun e h w => check_c e h w
def sumTrapT : Sum := fun args _ _ => match args with
  | [v] => match intK .i64 v with
    | some (.ofNat t) => match trapsS[t]? with
      | some u => some (.val u)
      | none => none
    | _ => none
  | _ => none
noncomputable def tabT : Tab := mkTab tiRows eqL fnsL [] [] 20 [(56, sumTraps)]
theorem tabT_ok : TabOk Tryd.prog tabT := mkTab_ok (by kernel_rfl) tiRows_ok eqL_ok fnsL_ok trivial ⟨sumTraps_ok, trivial⟩
theorem sumTrapT_ok : SumOk1 Tryd.prog 90 sumTrapT := by
  intro args H nx out h ρ w xs hH hd hn
  unfold sumTrapT at h
  split at h
  case h_2 => cases h
  rename_i v
  obtain ⟨x, r, rfl, h1, h2⟩ := denL_cons hd
  cases h2
  split at h
  case h_2 => cases h
  rename_i t hz
  have := intK_ok hz h1
  subst this
  split at h
  case h_2 => cases h
  rename_i u hu
  cases h
  have ht : t < 7 := (List.getElem?_eq_some_iff.1 hu).1
  have key : ∀ (s : Nat) (l : List UInt8), trapsS[s]? = some (.ls l) → Calls Tryd.prog 90 #[.int .i64 (.ofNat s)] w fun x w' => x = .returned (.string (mkT l)) ∧ Below w.heap.size w w' := fun s l hs => by
    refine calls_pure tabT_ok Tryd.func90 rfl [.n .i64 (.ofNat s)] rfl Tryd.ntmps90 rfl _ (wpx_ok tabT_ok (CI_ok tabT_ok 5) _ ?_) w
    have ht : s < 7 := (List.getElem?_eq_some_iff.1 hs).1
    rcases s with _ | _ | _ | _ | _ | _ | _ | s
    all_goals try omega
    all_goals
      cases hs
      conv => whnf
      rfl
  have hl : ∃ l, u = .ls l := by
    rcases t with _ | _ | _ | _ | _ | _ | _ | t
    all_goals try omega
    all_goals (cases hu; exact ⟨_, rfl⟩)
  obtain ⟨l, rfl⟩ := hl
  exact (key t l hu).mono fun e w' ⟨q1, q2⟩ => ⟨_, q1, rfl, q2⟩
def sumsT : List (Nat × Sum) := (22, sumCheck) :: (44, sumSiteText) :: (46, sumWords) :: (79, sumG Ev.ob) :: (82, sumG Ev.ad) :: (84, sumG Ev.ch) :: (86, sumG Ev.n) :: (88, sumG Ev.tr) :: (81, sumDigits) :: (90, sumTrapT) :: tabs []
theorem sumsT_ok : sumsAll Tryd.prog sumsT := ⟨sumCheck_ok, sumSiteText_ok, sumWords_ok, sumG79, sumG82, sumG84, sumG86, sumG88, sumDigits_ok, sumTrapT_ok, tabs_ok trivial⟩
noncomputable def tabU : Tab := mkTab tiRows eqL fnsL [] inlA 20 sumsT
theorem tabU_ok : TabOk Tryd.prog tabU := mkTab_ok (by kernel_rfl) tiRows_ok eqL_ok fnsL_ok inlA_ok sumsT_ok

theorem in64_u {x : Int} (h : 0 ≤ x ∧ x ≤ 4294967295) : in64 x := ⟨by have := h.1; omega, by have := h.2; omega⟩
theorem evOk_site {e : Ev} (h : evOk e = true) : siteOk e.f e.p = true := by
  simp only [evOk, Bool.and_eq_true] at h
  exact h.2.1
theorem check_no {e : Ev} (h : evOk e = true) : ¬ (((bif evOk e then (0 : Int) else 2) != 0) = true) := by
  rw [h]; decide

theorem text1_c (e : Ev) (ht : EvT ⟨e.g, 1, e.f, e.p, e.ad, e.ch, e.ob, e.n, e.tr⟩) (hok : evOk ⟨e.g, 1, e.f, e.p, e.ad, e.ch, e.ob, e.n, e.tr⟩ = true) (w : World) (hA : powA.rep w (.blk 0)) : Calls Tryd.prog 20 #[evV ⟨e.g, 1, e.f, e.p, e.ad, e.ch, e.ob, e.n, e.tr⟩] w fun x w' => x = .returned (.tuple #[.string (mkT (textL ⟨e.g, 1, e.f, e.p, e.ad, e.ch, e.ob, e.n, e.tr⟩)), .int .i64 0]) ∧ Below w.heap.size w w' := by
  refine calls_tab tabU_ok Tryd.func20 rfl powA [.ag [.i .i64 e.g, .n .i64 1, .i .i64 e.f, .i .i64 e.p, .i .u32 e.ad, .i .i64 e.ch, .i .i64 e.ob, .i .i64 e.n, .i .i64 e.tr]] rfl Tryd.ntmps20 rfl _ (wpx_ok tabU_ok (CI_ok tabU_ok 6) _ ?_) w hA
  have hs := evOk_site hok
  have had : in64 e.ad := in64_u ht.ad
  have lg : (Lib.itoa e.g).length ≤ 21 := itoa_len ht.g
  have lf : (Lib.itoa e.f).length ≤ 21 := itoa_len ht.f
  have lp : (Lib.itoa e.p).length ≤ 21 := itoa_len ht.p
  have la := itoa_len had
  have lc : (Lib.itoa e.ch).length ≤ 21 := itoa_len ht.ch
  have lo : (Lib.itoa e.ob).length ≤ 21 := itoa_len ht.ob
  have ln : (Lib.itoa e.n).length ≤ 21 := itoa_len ht.n
  conv => whnf
  refine And.intro ht ?_
  conv => whnf
  refine And.intro (fun h => ?_) (fun _ => ?_)
  · exact absurd h (check_no hok)
  conv => whnf
  repeat' (refine And.intro (by (conv => whnf); first | exact ⟨rfl, ht.f, ht.p, hs⟩ | exact ⟨rfl, ht.g⟩ | exact ⟨rfl, had⟩ | exact ⟨rfl, ht.ch⟩ | exact ⟨rfl, ht.ob⟩ | exact ⟨rfl, ht.n⟩ | exact ht.ad | exact ⟨trivial, oneG_of rfl, by decide, by decide⟩ | exact ⟨by simp, by simp [Lib.join, List.intercalate, siteT, itoaB, mkT]; omega⟩) ?_; (conv => whnf))
  refine ret_tu2 (ret_s (congrArg Value.string ?_)) rfl
  simp [joinB, Lib.join, List.intercalate, textL, tailL, wordsL, trapsL, itoaB, mkT, siteT]

theorem text2_c (e : Ev) (ht : EvT ⟨e.g, 2, e.f, e.p, e.ad, e.ch, e.ob, e.n, e.tr⟩) (hok : evOk ⟨e.g, 2, e.f, e.p, e.ad, e.ch, e.ob, e.n, e.tr⟩ = true) (w : World) (hA : powA.rep w (.blk 0)) : Calls Tryd.prog 20 #[evV ⟨e.g, 2, e.f, e.p, e.ad, e.ch, e.ob, e.n, e.tr⟩] w fun x w' => x = .returned (.tuple #[.string (mkT (textL ⟨e.g, 2, e.f, e.p, e.ad, e.ch, e.ob, e.n, e.tr⟩)), .int .i64 0]) ∧ Below w.heap.size w w' := by
  refine calls_tab tabU_ok Tryd.func20 rfl powA [.ag [.i .i64 e.g, .n .i64 2, .i .i64 e.f, .i .i64 e.p, .i .u32 e.ad, .i .i64 e.ch, .i .i64 e.ob, .i .i64 e.n, .i .i64 e.tr]] rfl Tryd.ntmps20 rfl _ (wpx_ok tabU_ok (CI_ok tabU_ok 6) _ ?_) w hA
  have hs := evOk_site hok
  have had : in64 e.ad := in64_u ht.ad
  have lg : (Lib.itoa e.g).length ≤ 21 := itoa_len ht.g
  have lf : (Lib.itoa e.f).length ≤ 21 := itoa_len ht.f
  have lp : (Lib.itoa e.p).length ≤ 21 := itoa_len ht.p
  have la := itoa_len had
  have lc : (Lib.itoa e.ch).length ≤ 21 := itoa_len ht.ch
  have lo : (Lib.itoa e.ob).length ≤ 21 := itoa_len ht.ob
  have ln : (Lib.itoa e.n).length ≤ 21 := itoa_len ht.n
  conv => whnf
  refine And.intro ht ?_
  conv => whnf
  refine And.intro (fun h => ?_) (fun _ => ?_)
  · exact absurd h (check_no hok)
  conv => whnf
  repeat' (refine And.intro (by (conv => whnf); first | exact ⟨rfl, ht.f, ht.p, hs⟩ | exact ⟨rfl, ht.g⟩ | exact ⟨rfl, had⟩ | exact ⟨rfl, ht.ch⟩ | exact ⟨rfl, ht.ob⟩ | exact ⟨rfl, ht.n⟩ | exact ht.ad | exact ⟨trivial, oneG_of rfl, by decide, by decide⟩ | exact ⟨by simp, by simp [Lib.join, List.intercalate, siteT, itoaB, mkT]; omega⟩) ?_; (conv => whnf))
  refine ret_tu2 (ret_s (congrArg Value.string ?_)) rfl
  simp [joinB, Lib.join, List.intercalate, textL, tailL, wordsL, trapsL, itoaB, mkT, siteT]

theorem text3_c (e : Ev) (ht : EvT ⟨e.g, 3, e.f, e.p, e.ad, e.ch, e.ob, e.n, e.tr⟩) (hok : evOk ⟨e.g, 3, e.f, e.p, e.ad, e.ch, e.ob, e.n, e.tr⟩ = true) (w : World) (hA : powA.rep w (.blk 0)) : Calls Tryd.prog 20 #[evV ⟨e.g, 3, e.f, e.p, e.ad, e.ch, e.ob, e.n, e.tr⟩] w fun x w' => x = .returned (.tuple #[.string (mkT (textL ⟨e.g, 3, e.f, e.p, e.ad, e.ch, e.ob, e.n, e.tr⟩)), .int .i64 0]) ∧ Below w.heap.size w w' := by
  refine calls_tab tabU_ok Tryd.func20 rfl powA [.ag [.i .i64 e.g, .n .i64 3, .i .i64 e.f, .i .i64 e.p, .i .u32 e.ad, .i .i64 e.ch, .i .i64 e.ob, .i .i64 e.n, .i .i64 e.tr]] rfl Tryd.ntmps20 rfl _ (wpx_ok tabU_ok (CI_ok tabU_ok 6) _ ?_) w hA
  have hs := evOk_site hok
  have had : in64 e.ad := in64_u ht.ad
  have lg : (Lib.itoa e.g).length ≤ 21 := itoa_len ht.g
  have lf : (Lib.itoa e.f).length ≤ 21 := itoa_len ht.f
  have lp : (Lib.itoa e.p).length ≤ 21 := itoa_len ht.p
  have la := itoa_len had
  have lc : (Lib.itoa e.ch).length ≤ 21 := itoa_len ht.ch
  have lo : (Lib.itoa e.ob).length ≤ 21 := itoa_len ht.ob
  have ln : (Lib.itoa e.n).length ≤ 21 := itoa_len ht.n
  conv => whnf
  refine And.intro ht ?_
  conv => whnf
  refine And.intro (fun h => ?_) (fun _ => ?_)
  · exact absurd h (check_no hok)
  conv => whnf
  repeat' (refine And.intro (by (conv => whnf); first | exact ⟨rfl, ht.f, ht.p, hs⟩ | exact ⟨rfl, ht.g⟩ | exact ⟨rfl, had⟩ | exact ⟨rfl, ht.ch⟩ | exact ⟨rfl, ht.ob⟩ | exact ⟨rfl, ht.n⟩ | exact ht.ad | exact ⟨trivial, oneG_of rfl, by decide, by decide⟩ | exact ⟨by simp, by simp [Lib.join, List.intercalate, siteT, itoaB, mkT]; omega⟩) ?_; (conv => whnf))
  refine ret_tu2 (ret_s (congrArg Value.string ?_)) rfl
  simp [joinB, Lib.join, List.intercalate, textL, tailL, wordsL, trapsL, itoaB, mkT, siteT]

theorem text4_c (e : Ev) (ht : EvT ⟨e.g, 4, e.f, e.p, e.ad, e.ch, e.ob, e.n, e.tr⟩) (hok : evOk ⟨e.g, 4, e.f, e.p, e.ad, e.ch, e.ob, e.n, e.tr⟩ = true) (w : World) (hA : powA.rep w (.blk 0)) : Calls Tryd.prog 20 #[evV ⟨e.g, 4, e.f, e.p, e.ad, e.ch, e.ob, e.n, e.tr⟩] w fun x w' => x = .returned (.tuple #[.string (mkT (textL ⟨e.g, 4, e.f, e.p, e.ad, e.ch, e.ob, e.n, e.tr⟩)), .int .i64 0]) ∧ Below w.heap.size w w' := by
  refine calls_tab tabU_ok Tryd.func20 rfl powA [.ag [.i .i64 e.g, .n .i64 4, .i .i64 e.f, .i .i64 e.p, .i .u32 e.ad, .i .i64 e.ch, .i .i64 e.ob, .i .i64 e.n, .i .i64 e.tr]] rfl Tryd.ntmps20 rfl _ (wpx_ok tabU_ok (CI_ok tabU_ok 6) _ ?_) w hA
  have hs := evOk_site hok
  have had : in64 e.ad := in64_u ht.ad
  have lg : (Lib.itoa e.g).length ≤ 21 := itoa_len ht.g
  have lf : (Lib.itoa e.f).length ≤ 21 := itoa_len ht.f
  have lp : (Lib.itoa e.p).length ≤ 21 := itoa_len ht.p
  have la := itoa_len had
  have lc : (Lib.itoa e.ch).length ≤ 21 := itoa_len ht.ch
  have lo : (Lib.itoa e.ob).length ≤ 21 := itoa_len ht.ob
  have ln : (Lib.itoa e.n).length ≤ 21 := itoa_len ht.n
  conv => whnf
  refine And.intro ht ?_
  conv => whnf
  refine And.intro (fun h => ?_) (fun _ => ?_)
  · exact absurd h (check_no hok)
  conv => whnf
  repeat' (refine And.intro (by (conv => whnf); first | exact ⟨rfl, ht.f, ht.p, hs⟩ | exact ⟨rfl, ht.g⟩ | exact ⟨rfl, had⟩ | exact ⟨rfl, ht.ch⟩ | exact ⟨rfl, ht.ob⟩ | exact ⟨rfl, ht.n⟩ | exact ht.ad | exact ⟨trivial, oneG_of rfl, by decide, by decide⟩ | exact ⟨by simp, by simp [Lib.join, List.intercalate, siteT, itoaB, mkT]; omega⟩) ?_; (conv => whnf))
  refine ret_tu2 (ret_s (congrArg Value.string ?_)) rfl
  simp [joinB, Lib.join, List.intercalate, textL, tailL, wordsL, trapsL, itoaB, mkT, siteT]

theorem text5_c (e : Ev) (ht : EvT ⟨e.g, 5, e.f, e.p, e.ad, e.ch, e.ob, e.n, e.tr⟩) (hok : evOk ⟨e.g, 5, e.f, e.p, e.ad, e.ch, e.ob, e.n, e.tr⟩ = true) (w : World) (hA : powA.rep w (.blk 0)) : Calls Tryd.prog 20 #[evV ⟨e.g, 5, e.f, e.p, e.ad, e.ch, e.ob, e.n, e.tr⟩] w fun x w' => x = .returned (.tuple #[.string (mkT (textL ⟨e.g, 5, e.f, e.p, e.ad, e.ch, e.ob, e.n, e.tr⟩)), .int .i64 0]) ∧ Below w.heap.size w w' := by
  refine calls_tab tabU_ok Tryd.func20 rfl powA [.ag [.i .i64 e.g, .n .i64 5, .i .i64 e.f, .i .i64 e.p, .i .u32 e.ad, .i .i64 e.ch, .i .i64 e.ob, .i .i64 e.n, .i .i64 e.tr]] rfl Tryd.ntmps20 rfl _ (wpx_ok tabU_ok (CI_ok tabU_ok 6) _ ?_) w hA
  have hs := evOk_site hok
  have had : in64 e.ad := in64_u ht.ad
  have lg : (Lib.itoa e.g).length ≤ 21 := itoa_len ht.g
  have lf : (Lib.itoa e.f).length ≤ 21 := itoa_len ht.f
  have lp : (Lib.itoa e.p).length ≤ 21 := itoa_len ht.p
  have la := itoa_len had
  have lc : (Lib.itoa e.ch).length ≤ 21 := itoa_len ht.ch
  have lo : (Lib.itoa e.ob).length ≤ 21 := itoa_len ht.ob
  have ln : (Lib.itoa e.n).length ≤ 21 := itoa_len ht.n
  conv => whnf
  refine And.intro ht ?_
  conv => whnf
  refine And.intro (fun h => ?_) (fun _ => ?_)
  · exact absurd h (check_no hok)
  conv => whnf
  repeat' (refine And.intro (by (conv => whnf); first | exact ⟨rfl, ht.f, ht.p, hs⟩ | exact ⟨rfl, ht.g⟩ | exact ⟨rfl, had⟩ | exact ⟨rfl, ht.ch⟩ | exact ⟨rfl, ht.ob⟩ | exact ⟨rfl, ht.n⟩ | exact ht.ad | exact ⟨trivial, oneG_of rfl, by decide, by decide⟩ | exact ⟨by simp, by simp [Lib.join, List.intercalate, siteT, itoaB, mkT]; omega⟩) ?_; (conv => whnf))
  refine ret_tu2 (ret_s (congrArg Value.string ?_)) rfl
  simp [joinB, Lib.join, List.intercalate, textL, tailL, wordsL, trapsL, itoaB, mkT, siteT]

theorem text6_c (e : Ev) (ht : EvT ⟨e.g, 6, e.f, e.p, e.ad, e.ch, e.ob, e.n, e.tr⟩) (hok : evOk ⟨e.g, 6, e.f, e.p, e.ad, e.ch, e.ob, e.n, e.tr⟩ = true) (w : World) (hA : powA.rep w (.blk 0)) : Calls Tryd.prog 20 #[evV ⟨e.g, 6, e.f, e.p, e.ad, e.ch, e.ob, e.n, e.tr⟩] w fun x w' => x = .returned (.tuple #[.string (mkT (textL ⟨e.g, 6, e.f, e.p, e.ad, e.ch, e.ob, e.n, e.tr⟩)), .int .i64 0]) ∧ Below w.heap.size w w' := by
  refine calls_tab tabU_ok Tryd.func20 rfl powA [.ag [.i .i64 e.g, .n .i64 6, .i .i64 e.f, .i .i64 e.p, .i .u32 e.ad, .i .i64 e.ch, .i .i64 e.ob, .i .i64 e.n, .i .i64 e.tr]] rfl Tryd.ntmps20 rfl _ (wpx_ok tabU_ok (CI_ok tabU_ok 6) _ ?_) w hA
  have hs := evOk_site hok
  have had : in64 e.ad := in64_u ht.ad
  have lg : (Lib.itoa e.g).length ≤ 21 := itoa_len ht.g
  have lf : (Lib.itoa e.f).length ≤ 21 := itoa_len ht.f
  have lp : (Lib.itoa e.p).length ≤ 21 := itoa_len ht.p
  have la := itoa_len had
  have lc : (Lib.itoa e.ch).length ≤ 21 := itoa_len ht.ch
  have lo : (Lib.itoa e.ob).length ≤ 21 := itoa_len ht.ob
  have ln : (Lib.itoa e.n).length ≤ 21 := itoa_len ht.n
  conv => whnf
  refine And.intro ht ?_
  conv => whnf
  refine And.intro (fun h => ?_) (fun _ => ?_)
  · exact absurd h (check_no hok)
  conv => whnf
  repeat' (refine And.intro (by (conv => whnf); first | exact ⟨rfl, ht.f, ht.p, hs⟩ | exact ⟨rfl, ht.g⟩ | exact ⟨rfl, had⟩ | exact ⟨rfl, ht.ch⟩ | exact ⟨rfl, ht.ob⟩ | exact ⟨rfl, ht.n⟩ | exact ht.ad | exact ⟨trivial, oneG_of rfl, by decide, by decide⟩ | exact ⟨by simp, by simp [Lib.join, List.intercalate, siteT, itoaB, mkT]; omega⟩) ?_; (conv => whnf))
  refine ret_tu2 (ret_s (congrArg Value.string ?_)) rfl
  simp [joinB, Lib.join, List.intercalate, textL, tailL, wordsL, trapsL, itoaB, mkT, siteT]

theorem text7_c (e : Ev) (ht : EvT ⟨e.g, 7, e.f, e.p, e.ad, e.ch, e.ob, e.n, e.tr⟩) (hok : evOk ⟨e.g, 7, e.f, e.p, e.ad, e.ch, e.ob, e.n, e.tr⟩ = true) (w : World) (hA : powA.rep w (.blk 0)) : Calls Tryd.prog 20 #[evV ⟨e.g, 7, e.f, e.p, e.ad, e.ch, e.ob, e.n, e.tr⟩] w fun x w' => x = .returned (.tuple #[.string (mkT (textL ⟨e.g, 7, e.f, e.p, e.ad, e.ch, e.ob, e.n, e.tr⟩)), .int .i64 0]) ∧ Below w.heap.size w w' := by
  refine calls_tab tabU_ok Tryd.func20 rfl powA [.ag [.i .i64 e.g, .n .i64 7, .i .i64 e.f, .i .i64 e.p, .i .u32 e.ad, .i .i64 e.ch, .i .i64 e.ob, .i .i64 e.n, .i .i64 e.tr]] rfl Tryd.ntmps20 rfl _ (wpx_ok tabU_ok (CI_ok tabU_ok 6) _ ?_) w hA
  have hs := evOk_site hok
  have had : in64 e.ad := in64_u ht.ad
  have lg : (Lib.itoa e.g).length ≤ 21 := itoa_len ht.g
  have lf : (Lib.itoa e.f).length ≤ 21 := itoa_len ht.f
  have lp : (Lib.itoa e.p).length ≤ 21 := itoa_len ht.p
  have la := itoa_len had
  have lc : (Lib.itoa e.ch).length ≤ 21 := itoa_len ht.ch
  have lo : (Lib.itoa e.ob).length ≤ 21 := itoa_len ht.ob
  have ln : (Lib.itoa e.n).length ≤ 21 := itoa_len ht.n
  conv => whnf
  refine And.intro ht ?_
  conv => whnf
  refine And.intro (fun h => ?_) (fun _ => ?_)
  · exact absurd h (check_no hok)
  conv => whnf
  repeat' (refine And.intro (by (conv => whnf); first | exact ⟨rfl, ht.f, ht.p, hs⟩ | exact ⟨rfl, ht.g⟩ | exact ⟨rfl, had⟩ | exact ⟨rfl, ht.ch⟩ | exact ⟨rfl, ht.ob⟩ | exact ⟨rfl, ht.n⟩ | exact ht.ad | exact ⟨trivial, oneG_of rfl, by decide, by decide⟩ | exact ⟨by simp, by simp [Lib.join, List.intercalate, siteT, itoaB, mkT]; omega⟩) ?_; (conv => whnf))
  refine ret_tu2 (ret_s (congrArg Value.string ?_)) rfl
  simp [joinB, Lib.join, List.intercalate, textL, tailL, wordsL, trapsL, itoaB, mkT, siteT]

theorem text8_c (e : Ev) (ht : EvT ⟨e.g, 8, e.f, e.p, e.ad, e.ch, e.ob, e.n, e.tr⟩) (hok : evOk ⟨e.g, 8, e.f, e.p, e.ad, e.ch, e.ob, e.n, e.tr⟩ = true) (w : World) (hA : powA.rep w (.blk 0)) : Calls Tryd.prog 20 #[evV ⟨e.g, 8, e.f, e.p, e.ad, e.ch, e.ob, e.n, e.tr⟩] w fun x w' => x = .returned (.tuple #[.string (mkT (textL ⟨e.g, 8, e.f, e.p, e.ad, e.ch, e.ob, e.n, e.tr⟩)), .int .i64 0]) ∧ Below w.heap.size w w' := by
  refine calls_tab tabU_ok Tryd.func20 rfl powA [.ag [.i .i64 e.g, .n .i64 8, .i .i64 e.f, .i .i64 e.p, .i .u32 e.ad, .i .i64 e.ch, .i .i64 e.ob, .i .i64 e.n, .i .i64 e.tr]] rfl Tryd.ntmps20 rfl _ (wpx_ok tabU_ok (CI_ok tabU_ok 6) _ ?_) w hA
  have hs := evOk_site hok
  have had : in64 e.ad := in64_u ht.ad
  have lg : (Lib.itoa e.g).length ≤ 21 := itoa_len ht.g
  have lf : (Lib.itoa e.f).length ≤ 21 := itoa_len ht.f
  have lp : (Lib.itoa e.p).length ≤ 21 := itoa_len ht.p
  have la := itoa_len had
  have lc : (Lib.itoa e.ch).length ≤ 21 := itoa_len ht.ch
  have lo : (Lib.itoa e.ob).length ≤ 21 := itoa_len ht.ob
  have ln : (Lib.itoa e.n).length ≤ 21 := itoa_len ht.n
  conv => whnf
  refine And.intro ht ?_
  conv => whnf
  refine And.intro (fun h => ?_) (fun _ => ?_)
  · exact absurd h (check_no hok)
  conv => whnf
  repeat' (refine And.intro (by (conv => whnf); first | exact ⟨rfl, ht.f, ht.p, hs⟩ | exact ⟨rfl, ht.g⟩ | exact ⟨rfl, had⟩ | exact ⟨rfl, ht.ch⟩ | exact ⟨rfl, ht.ob⟩ | exact ⟨rfl, ht.n⟩ | exact ht.ad | exact ⟨trivial, oneG_of rfl, by decide, by decide⟩ | exact ⟨by simp, by simp [Lib.join, List.intercalate, siteT, itoaB, mkT]; omega⟩) ?_; (conv => whnf))
  refine ret_tu2 (ret_s (congrArg Value.string ?_)) rfl
  simp [joinB, Lib.join, List.intercalate, textL, tailL, wordsL, trapsL, itoaB, mkT, siteT]

theorem text9_c (e : Ev) (ht : EvT ⟨e.g, 9, e.f, e.p, e.ad, e.ch, e.ob, e.n, e.tr⟩) (hok : evOk ⟨e.g, 9, e.f, e.p, e.ad, e.ch, e.ob, e.n, e.tr⟩ = true) (w : World) (hA : powA.rep w (.blk 0)) : Calls Tryd.prog 20 #[evV ⟨e.g, 9, e.f, e.p, e.ad, e.ch, e.ob, e.n, e.tr⟩] w fun x w' => x = .returned (.tuple #[.string (mkT (textL ⟨e.g, 9, e.f, e.p, e.ad, e.ch, e.ob, e.n, e.tr⟩)), .int .i64 0]) ∧ Below w.heap.size w w' := by
  refine calls_tab tabU_ok Tryd.func20 rfl powA [.ag [.i .i64 e.g, .n .i64 9, .i .i64 e.f, .i .i64 e.p, .i .u32 e.ad, .i .i64 e.ch, .i .i64 e.ob, .i .i64 e.n, .i .i64 e.tr]] rfl Tryd.ntmps20 rfl _ (wpx_ok tabU_ok (CI_ok tabU_ok 6) _ ?_) w hA
  have hs := evOk_site hok
  have had : in64 e.ad := in64_u ht.ad
  have lg : (Lib.itoa e.g).length ≤ 21 := itoa_len ht.g
  have lf : (Lib.itoa e.f).length ≤ 21 := itoa_len ht.f
  have lp : (Lib.itoa e.p).length ≤ 21 := itoa_len ht.p
  have la := itoa_len had
  have lc : (Lib.itoa e.ch).length ≤ 21 := itoa_len ht.ch
  have lo : (Lib.itoa e.ob).length ≤ 21 := itoa_len ht.ob
  have ln : (Lib.itoa e.n).length ≤ 21 := itoa_len ht.n
  conv => whnf
  refine And.intro ht ?_
  conv => whnf
  refine And.intro (fun h => ?_) (fun _ => ?_)
  · exact absurd h (check_no hok)
  conv => whnf
  repeat' (refine And.intro (by (conv => whnf); first | exact ⟨rfl, ht.f, ht.p, hs⟩ | exact ⟨rfl, ht.g⟩ | exact ⟨rfl, had⟩ | exact ⟨rfl, ht.ch⟩ | exact ⟨rfl, ht.ob⟩ | exact ⟨rfl, ht.n⟩ | exact ht.ad | exact ⟨trivial, oneG_of rfl, by decide, by decide⟩ | exact ⟨by simp, by simp [Lib.join, List.intercalate, siteT, itoaB, mkT]; omega⟩) ?_; (conv => whnf))
  refine ret_tu2 (ret_s (congrArg Value.string ?_)) rfl
  simp [joinB, Lib.join, List.intercalate, textL, tailL, wordsL, trapsL, itoaB, mkT, siteT]

theorem text10_c (e : Ev) (ht : EvT ⟨e.g, 10, e.f, e.p, e.ad, e.ch, e.ob, e.n, e.tr⟩) (hok : evOk ⟨e.g, 10, e.f, e.p, e.ad, e.ch, e.ob, e.n, e.tr⟩ = true) (w : World) (hA : powA.rep w (.blk 0)) : Calls Tryd.prog 20 #[evV ⟨e.g, 10, e.f, e.p, e.ad, e.ch, e.ob, e.n, e.tr⟩] w fun x w' => x = .returned (.tuple #[.string (mkT (textL ⟨e.g, 10, e.f, e.p, e.ad, e.ch, e.ob, e.n, e.tr⟩)), .int .i64 0]) ∧ Below w.heap.size w w' := by
  refine calls_tab tabU_ok Tryd.func20 rfl powA [.ag [.i .i64 e.g, .n .i64 10, .i .i64 e.f, .i .i64 e.p, .i .u32 e.ad, .i .i64 e.ch, .i .i64 e.ob, .i .i64 e.n, .i .i64 e.tr]] rfl Tryd.ntmps20 rfl _ (wpx_ok tabU_ok (CI_ok tabU_ok 6) _ ?_) w hA
  have hs := evOk_site hok
  have had : in64 e.ad := in64_u ht.ad
  have lg : (Lib.itoa e.g).length ≤ 21 := itoa_len ht.g
  have lf : (Lib.itoa e.f).length ≤ 21 := itoa_len ht.f
  have lp : (Lib.itoa e.p).length ≤ 21 := itoa_len ht.p
  have la := itoa_len had
  have lc : (Lib.itoa e.ch).length ≤ 21 := itoa_len ht.ch
  have lo : (Lib.itoa e.ob).length ≤ 21 := itoa_len ht.ob
  have ln : (Lib.itoa e.n).length ≤ 21 := itoa_len ht.n
  conv => whnf
  refine And.intro ht ?_
  conv => whnf
  refine And.intro (fun h => ?_) (fun _ => ?_)
  · exact absurd h (check_no hok)
  conv => whnf
  repeat' (refine And.intro (by (conv => whnf); first | exact ⟨rfl, ht.f, ht.p, hs⟩ | exact ⟨rfl, ht.g⟩ | exact ⟨rfl, had⟩ | exact ⟨rfl, ht.ch⟩ | exact ⟨rfl, ht.ob⟩ | exact ⟨rfl, ht.n⟩ | exact ht.ad | exact ⟨trivial, oneG_of rfl, by decide, by decide⟩ | exact ⟨by simp, by simp [Lib.join, List.intercalate, siteT, itoaB, mkT]; omega⟩) ?_; (conv => whnf))
  refine ret_tu2 (ret_s (congrArg Value.string ?_)) rfl
  simp [joinB, Lib.join, List.intercalate, textL, tailL, wordsL, trapsL, itoaB, mkT, siteT]

theorem text11_c (e : Ev) (ht : EvT ⟨e.g, 11, e.f, e.p, e.ad, e.ch, e.ob, e.n, e.tr⟩) (hok : evOk ⟨e.g, 11, e.f, e.p, e.ad, e.ch, e.ob, e.n, e.tr⟩ = true) (w : World) (hA : powA.rep w (.blk 0)) : Calls Tryd.prog 20 #[evV ⟨e.g, 11, e.f, e.p, e.ad, e.ch, e.ob, e.n, e.tr⟩] w fun x w' => x = .returned (.tuple #[.string (mkT (textL ⟨e.g, 11, e.f, e.p, e.ad, e.ch, e.ob, e.n, e.tr⟩)), .int .i64 0]) ∧ Below w.heap.size w w' := by
  refine calls_tab tabU_ok Tryd.func20 rfl powA [.ag [.i .i64 e.g, .n .i64 11, .i .i64 e.f, .i .i64 e.p, .i .u32 e.ad, .i .i64 e.ch, .i .i64 e.ob, .i .i64 e.n, .i .i64 e.tr]] rfl Tryd.ntmps20 rfl _ (wpx_ok tabU_ok (CI_ok tabU_ok 6) _ ?_) w hA
  have hs := evOk_site hok
  have had : in64 e.ad := in64_u ht.ad
  have lg : (Lib.itoa e.g).length ≤ 21 := itoa_len ht.g
  have lf : (Lib.itoa e.f).length ≤ 21 := itoa_len ht.f
  have lp : (Lib.itoa e.p).length ≤ 21 := itoa_len ht.p
  have la := itoa_len had
  have lc : (Lib.itoa e.ch).length ≤ 21 := itoa_len ht.ch
  have lo : (Lib.itoa e.ob).length ≤ 21 := itoa_len ht.ob
  have ln : (Lib.itoa e.n).length ≤ 21 := itoa_len ht.n
  conv => whnf
  refine And.intro ht ?_
  conv => whnf
  refine And.intro (fun h => ?_) (fun _ => ?_)
  · exact absurd h (check_no hok)
  conv => whnf
  repeat' (refine And.intro (by (conv => whnf); first | exact ⟨rfl, ht.f, ht.p, hs⟩ | exact ⟨rfl, ht.g⟩ | exact ⟨rfl, had⟩ | exact ⟨rfl, ht.ch⟩ | exact ⟨rfl, ht.ob⟩ | exact ⟨rfl, ht.n⟩ | exact ht.ad | exact ⟨trivial, oneG_of rfl, by decide, by decide⟩ | exact ⟨by simp, by simp [Lib.join, List.intercalate, siteT, itoaB, mkT]; omega⟩) ?_; (conv => whnf))
  refine ret_tu2 (ret_s (congrArg Value.string ?_)) rfl
  simp [joinB, Lib.join, List.intercalate, textL, tailL, wordsL, trapsL, itoaB, mkT, siteT]

theorem text12_c (e : Ev) (ht : EvT ⟨e.g, 12, e.f, e.p, e.ad, e.ch, e.ob, e.n, e.tr⟩) (hok : evOk ⟨e.g, 12, e.f, e.p, e.ad, e.ch, e.ob, e.n, e.tr⟩ = true) (w : World) (hA : powA.rep w (.blk 0)) : Calls Tryd.prog 20 #[evV ⟨e.g, 12, e.f, e.p, e.ad, e.ch, e.ob, e.n, e.tr⟩] w fun x w' => x = .returned (.tuple #[.string (mkT (textL ⟨e.g, 12, e.f, e.p, e.ad, e.ch, e.ob, e.n, e.tr⟩)), .int .i64 0]) ∧ Below w.heap.size w w' := by
  refine calls_tab tabU_ok Tryd.func20 rfl powA [.ag [.i .i64 e.g, .n .i64 12, .i .i64 e.f, .i .i64 e.p, .i .u32 e.ad, .i .i64 e.ch, .i .i64 e.ob, .i .i64 e.n, .i .i64 e.tr]] rfl Tryd.ntmps20 rfl _ (wpx_ok tabU_ok (CI_ok tabU_ok 6) _ ?_) w hA
  have hs := evOk_site hok
  have had : in64 e.ad := in64_u ht.ad
  have lg : (Lib.itoa e.g).length ≤ 21 := itoa_len ht.g
  have lf : (Lib.itoa e.f).length ≤ 21 := itoa_len ht.f
  have lp : (Lib.itoa e.p).length ≤ 21 := itoa_len ht.p
  have la := itoa_len had
  have lc : (Lib.itoa e.ch).length ≤ 21 := itoa_len ht.ch
  have lo : (Lib.itoa e.ob).length ≤ 21 := itoa_len ht.ob
  have ln : (Lib.itoa e.n).length ≤ 21 := itoa_len ht.n
  conv => whnf
  refine And.intro ht ?_
  conv => whnf
  refine And.intro (fun h => ?_) (fun _ => ?_)
  · exact absurd h (check_no hok)
  conv => whnf
  repeat' (refine And.intro (by (conv => whnf); first | exact ⟨rfl, ht.f, ht.p, hs⟩ | exact ⟨rfl, ht.g⟩ | exact ⟨rfl, had⟩ | exact ⟨rfl, ht.ch⟩ | exact ⟨rfl, ht.ob⟩ | exact ⟨rfl, ht.n⟩ | exact ht.ad | exact ⟨trivial, oneG_of rfl, by decide, by decide⟩ | exact ⟨by simp, by simp [Lib.join, List.intercalate, siteT, itoaB, mkT]; omega⟩) ?_; (conv => whnf))
  refine ret_tu2 (ret_s (congrArg Value.string ?_)) rfl
  simp [joinB, Lib.join, List.intercalate, textL, tailL, wordsL, trapsL, itoaB, mkT, siteT]

theorem text13_c (e : Ev) (ht : EvT ⟨e.g, 13, e.f, e.p, e.ad, e.ch, e.ob, e.n, e.tr⟩) (hok : evOk ⟨e.g, 13, e.f, e.p, e.ad, e.ch, e.ob, e.n, e.tr⟩ = true) (w : World) (hA : powA.rep w (.blk 0)) : Calls Tryd.prog 20 #[evV ⟨e.g, 13, e.f, e.p, e.ad, e.ch, e.ob, e.n, e.tr⟩] w fun x w' => x = .returned (.tuple #[.string (mkT (textL ⟨e.g, 13, e.f, e.p, e.ad, e.ch, e.ob, e.n, e.tr⟩)), .int .i64 0]) ∧ Below w.heap.size w w' := by
  refine calls_tab tabU_ok Tryd.func20 rfl powA [.ag [.i .i64 e.g, .n .i64 13, .i .i64 e.f, .i .i64 e.p, .i .u32 e.ad, .i .i64 e.ch, .i .i64 e.ob, .i .i64 e.n, .i .i64 e.tr]] rfl Tryd.ntmps20 rfl _ (wpx_ok tabU_ok (CI_ok tabU_ok 6) _ ?_) w hA
  have hs := evOk_site hok
  have had : in64 e.ad := in64_u ht.ad
  have lg : (Lib.itoa e.g).length ≤ 21 := itoa_len ht.g
  have lf : (Lib.itoa e.f).length ≤ 21 := itoa_len ht.f
  have lp : (Lib.itoa e.p).length ≤ 21 := itoa_len ht.p
  have la := itoa_len had
  have lc : (Lib.itoa e.ch).length ≤ 21 := itoa_len ht.ch
  have lo : (Lib.itoa e.ob).length ≤ 21 := itoa_len ht.ob
  have ln : (Lib.itoa e.n).length ≤ 21 := itoa_len ht.n
  conv => whnf
  refine And.intro ht ?_
  conv => whnf
  refine And.intro (fun h => ?_) (fun _ => ?_)
  · exact absurd h (check_no hok)
  conv => whnf
  repeat' (refine And.intro (by (conv => whnf); first | exact ⟨rfl, ht.f, ht.p, hs⟩ | exact ⟨rfl, ht.g⟩ | exact ⟨rfl, had⟩ | exact ⟨rfl, ht.ch⟩ | exact ⟨rfl, ht.ob⟩ | exact ⟨rfl, ht.n⟩ | exact ht.ad | exact ⟨trivial, oneG_of rfl, by decide, by decide⟩ | exact ⟨by simp, by simp [Lib.join, List.intercalate, siteT, itoaB, mkT]; omega⟩) ?_; (conv => whnf))
  refine ret_tu2 (ret_s (congrArg Value.string ?_)) rfl
  simp [joinB, Lib.join, List.intercalate, textL, tailL, wordsL, trapsL, itoaB, mkT, siteT]

theorem text14_1_c (e : Ev) (ht : EvT ⟨e.g, 14, e.f, e.p, e.ad, e.ch, e.ob, e.n, 1⟩) (hok : evOk ⟨e.g, 14, e.f, e.p, e.ad, e.ch, e.ob, e.n, 1⟩ = true) (w : World) (hA : powA.rep w (.blk 0)) : Calls Tryd.prog 20 #[evV ⟨e.g, 14, e.f, e.p, e.ad, e.ch, e.ob, e.n, 1⟩] w fun x w' => x = .returned (.tuple #[.string (mkT (textL ⟨e.g, 14, e.f, e.p, e.ad, e.ch, e.ob, e.n, 1⟩)), .int .i64 0]) ∧ Below w.heap.size w w' := by
  refine calls_tab tabU_ok Tryd.func20 rfl powA [.ag [.i .i64 e.g, .n .i64 14, .i .i64 e.f, .i .i64 e.p, .i .u32 e.ad, .i .i64 e.ch, .i .i64 e.ob, .i .i64 e.n, .n .i64 1]] rfl Tryd.ntmps20 rfl _ (wpx_ok tabU_ok (CI_ok tabU_ok 6) _ ?_) w hA
  have hs := evOk_site hok
  have had : in64 e.ad := in64_u ht.ad
  have lg : (Lib.itoa e.g).length ≤ 21 := itoa_len ht.g
  have lf : (Lib.itoa e.f).length ≤ 21 := itoa_len ht.f
  have lp : (Lib.itoa e.p).length ≤ 21 := itoa_len ht.p
  have la := itoa_len had
  have lc : (Lib.itoa e.ch).length ≤ 21 := itoa_len ht.ch
  have lo : (Lib.itoa e.ob).length ≤ 21 := itoa_len ht.ob
  have ln : (Lib.itoa e.n).length ≤ 21 := itoa_len ht.n
  conv => whnf
  refine And.intro ht ?_
  conv => whnf
  refine And.intro (fun h => ?_) (fun _ => ?_)
  · exact absurd h (check_no hok)
  conv => whnf
  repeat' (refine And.intro (by (conv => whnf); first | exact ⟨rfl, ht.f, ht.p, hs⟩ | exact ⟨rfl, ht.g⟩ | exact ⟨rfl, had⟩ | exact ⟨rfl, ht.ch⟩ | exact ⟨rfl, ht.ob⟩ | exact ⟨rfl, ht.n⟩ | exact ht.ad | exact ⟨trivial, oneG_of rfl, by decide, by decide⟩ | exact ⟨by simp, by simp [Lib.join, List.intercalate, siteT, itoaB, mkT]; omega⟩) ?_; (conv => whnf))
  refine ret_tu2 (ret_s (congrArg Value.string ?_)) rfl
  simp [joinB, Lib.join, List.intercalate, textL, tailL, wordsL, trapsL, itoaB, mkT, siteT]

theorem text14_2_c (e : Ev) (ht : EvT ⟨e.g, 14, e.f, e.p, e.ad, e.ch, e.ob, e.n, 2⟩) (hok : evOk ⟨e.g, 14, e.f, e.p, e.ad, e.ch, e.ob, e.n, 2⟩ = true) (w : World) (hA : powA.rep w (.blk 0)) : Calls Tryd.prog 20 #[evV ⟨e.g, 14, e.f, e.p, e.ad, e.ch, e.ob, e.n, 2⟩] w fun x w' => x = .returned (.tuple #[.string (mkT (textL ⟨e.g, 14, e.f, e.p, e.ad, e.ch, e.ob, e.n, 2⟩)), .int .i64 0]) ∧ Below w.heap.size w w' := by
  refine calls_tab tabU_ok Tryd.func20 rfl powA [.ag [.i .i64 e.g, .n .i64 14, .i .i64 e.f, .i .i64 e.p, .i .u32 e.ad, .i .i64 e.ch, .i .i64 e.ob, .i .i64 e.n, .n .i64 2]] rfl Tryd.ntmps20 rfl _ (wpx_ok tabU_ok (CI_ok tabU_ok 6) _ ?_) w hA
  have hs := evOk_site hok
  have had : in64 e.ad := in64_u ht.ad
  have lg : (Lib.itoa e.g).length ≤ 21 := itoa_len ht.g
  have lf : (Lib.itoa e.f).length ≤ 21 := itoa_len ht.f
  have lp : (Lib.itoa e.p).length ≤ 21 := itoa_len ht.p
  have la := itoa_len had
  have lc : (Lib.itoa e.ch).length ≤ 21 := itoa_len ht.ch
  have lo : (Lib.itoa e.ob).length ≤ 21 := itoa_len ht.ob
  have ln : (Lib.itoa e.n).length ≤ 21 := itoa_len ht.n
  conv => whnf
  refine And.intro ht ?_
  conv => whnf
  refine And.intro (fun h => ?_) (fun _ => ?_)
  · exact absurd h (check_no hok)
  conv => whnf
  repeat' (refine And.intro (by (conv => whnf); first | exact ⟨rfl, ht.f, ht.p, hs⟩ | exact ⟨rfl, ht.g⟩ | exact ⟨rfl, had⟩ | exact ⟨rfl, ht.ch⟩ | exact ⟨rfl, ht.ob⟩ | exact ⟨rfl, ht.n⟩ | exact ht.ad | exact ⟨trivial, oneG_of rfl, by decide, by decide⟩ | exact ⟨by simp, by simp [Lib.join, List.intercalate, siteT, itoaB, mkT]; omega⟩) ?_; (conv => whnf))
  refine ret_tu2 (ret_s (congrArg Value.string ?_)) rfl
  simp [joinB, Lib.join, List.intercalate, textL, tailL, wordsL, trapsL, itoaB, mkT, siteT]

theorem text14_3_c (e : Ev) (ht : EvT ⟨e.g, 14, e.f, e.p, e.ad, e.ch, e.ob, e.n, 3⟩) (hok : evOk ⟨e.g, 14, e.f, e.p, e.ad, e.ch, e.ob, e.n, 3⟩ = true) (w : World) (hA : powA.rep w (.blk 0)) : Calls Tryd.prog 20 #[evV ⟨e.g, 14, e.f, e.p, e.ad, e.ch, e.ob, e.n, 3⟩] w fun x w' => x = .returned (.tuple #[.string (mkT (textL ⟨e.g, 14, e.f, e.p, e.ad, e.ch, e.ob, e.n, 3⟩)), .int .i64 0]) ∧ Below w.heap.size w w' := by
  refine calls_tab tabU_ok Tryd.func20 rfl powA [.ag [.i .i64 e.g, .n .i64 14, .i .i64 e.f, .i .i64 e.p, .i .u32 e.ad, .i .i64 e.ch, .i .i64 e.ob, .i .i64 e.n, .n .i64 3]] rfl Tryd.ntmps20 rfl _ (wpx_ok tabU_ok (CI_ok tabU_ok 6) _ ?_) w hA
  have hs := evOk_site hok
  have had : in64 e.ad := in64_u ht.ad
  have lg : (Lib.itoa e.g).length ≤ 21 := itoa_len ht.g
  have lf : (Lib.itoa e.f).length ≤ 21 := itoa_len ht.f
  have lp : (Lib.itoa e.p).length ≤ 21 := itoa_len ht.p
  have la := itoa_len had
  have lc : (Lib.itoa e.ch).length ≤ 21 := itoa_len ht.ch
  have lo : (Lib.itoa e.ob).length ≤ 21 := itoa_len ht.ob
  have ln : (Lib.itoa e.n).length ≤ 21 := itoa_len ht.n
  conv => whnf
  refine And.intro ht ?_
  conv => whnf
  refine And.intro (fun h => ?_) (fun _ => ?_)
  · exact absurd h (check_no hok)
  conv => whnf
  repeat' (refine And.intro (by (conv => whnf); first | exact ⟨rfl, ht.f, ht.p, hs⟩ | exact ⟨rfl, ht.g⟩ | exact ⟨rfl, had⟩ | exact ⟨rfl, ht.ch⟩ | exact ⟨rfl, ht.ob⟩ | exact ⟨rfl, ht.n⟩ | exact ht.ad | exact ⟨trivial, oneG_of rfl, by decide, by decide⟩ | exact ⟨by simp, by simp [Lib.join, List.intercalate, siteT, itoaB, mkT]; omega⟩) ?_; (conv => whnf))
  refine ret_tu2 (ret_s (congrArg Value.string ?_)) rfl
  simp [joinB, Lib.join, List.intercalate, textL, tailL, wordsL, trapsL, itoaB, mkT, siteT]

theorem text14_4_c (e : Ev) (ht : EvT ⟨e.g, 14, e.f, e.p, e.ad, e.ch, e.ob, e.n, 4⟩) (hok : evOk ⟨e.g, 14, e.f, e.p, e.ad, e.ch, e.ob, e.n, 4⟩ = true) (w : World) (hA : powA.rep w (.blk 0)) : Calls Tryd.prog 20 #[evV ⟨e.g, 14, e.f, e.p, e.ad, e.ch, e.ob, e.n, 4⟩] w fun x w' => x = .returned (.tuple #[.string (mkT (textL ⟨e.g, 14, e.f, e.p, e.ad, e.ch, e.ob, e.n, 4⟩)), .int .i64 0]) ∧ Below w.heap.size w w' := by
  refine calls_tab tabU_ok Tryd.func20 rfl powA [.ag [.i .i64 e.g, .n .i64 14, .i .i64 e.f, .i .i64 e.p, .i .u32 e.ad, .i .i64 e.ch, .i .i64 e.ob, .i .i64 e.n, .n .i64 4]] rfl Tryd.ntmps20 rfl _ (wpx_ok tabU_ok (CI_ok tabU_ok 6) _ ?_) w hA
  have hs := evOk_site hok
  have had : in64 e.ad := in64_u ht.ad
  have lg : (Lib.itoa e.g).length ≤ 21 := itoa_len ht.g
  have lf : (Lib.itoa e.f).length ≤ 21 := itoa_len ht.f
  have lp : (Lib.itoa e.p).length ≤ 21 := itoa_len ht.p
  have la := itoa_len had
  have lc : (Lib.itoa e.ch).length ≤ 21 := itoa_len ht.ch
  have lo : (Lib.itoa e.ob).length ≤ 21 := itoa_len ht.ob
  have ln : (Lib.itoa e.n).length ≤ 21 := itoa_len ht.n
  conv => whnf
  refine And.intro ht ?_
  conv => whnf
  refine And.intro (fun h => ?_) (fun _ => ?_)
  · exact absurd h (check_no hok)
  conv => whnf
  repeat' (refine And.intro (by (conv => whnf); first | exact ⟨rfl, ht.f, ht.p, hs⟩ | exact ⟨rfl, ht.g⟩ | exact ⟨rfl, had⟩ | exact ⟨rfl, ht.ch⟩ | exact ⟨rfl, ht.ob⟩ | exact ⟨rfl, ht.n⟩ | exact ht.ad | exact ⟨trivial, oneG_of rfl, by decide, by decide⟩ | exact ⟨by simp, by simp [Lib.join, List.intercalate, siteT, itoaB, mkT]; omega⟩) ?_; (conv => whnf))
  refine ret_tu2 (ret_s (congrArg Value.string ?_)) rfl
  simp [joinB, Lib.join, List.intercalate, textL, tailL, wordsL, trapsL, itoaB, mkT, siteT]

theorem text14_5_c (e : Ev) (ht : EvT ⟨e.g, 14, e.f, e.p, e.ad, e.ch, e.ob, e.n, 5⟩) (hok : evOk ⟨e.g, 14, e.f, e.p, e.ad, e.ch, e.ob, e.n, 5⟩ = true) (w : World) (hA : powA.rep w (.blk 0)) : Calls Tryd.prog 20 #[evV ⟨e.g, 14, e.f, e.p, e.ad, e.ch, e.ob, e.n, 5⟩] w fun x w' => x = .returned (.tuple #[.string (mkT (textL ⟨e.g, 14, e.f, e.p, e.ad, e.ch, e.ob, e.n, 5⟩)), .int .i64 0]) ∧ Below w.heap.size w w' := by
  refine calls_tab tabU_ok Tryd.func20 rfl powA [.ag [.i .i64 e.g, .n .i64 14, .i .i64 e.f, .i .i64 e.p, .i .u32 e.ad, .i .i64 e.ch, .i .i64 e.ob, .i .i64 e.n, .n .i64 5]] rfl Tryd.ntmps20 rfl _ (wpx_ok tabU_ok (CI_ok tabU_ok 6) _ ?_) w hA
  have hs := evOk_site hok
  have had : in64 e.ad := in64_u ht.ad
  have lg : (Lib.itoa e.g).length ≤ 21 := itoa_len ht.g
  have lf : (Lib.itoa e.f).length ≤ 21 := itoa_len ht.f
  have lp : (Lib.itoa e.p).length ≤ 21 := itoa_len ht.p
  have la := itoa_len had
  have lc : (Lib.itoa e.ch).length ≤ 21 := itoa_len ht.ch
  have lo : (Lib.itoa e.ob).length ≤ 21 := itoa_len ht.ob
  have ln : (Lib.itoa e.n).length ≤ 21 := itoa_len ht.n
  conv => whnf
  refine And.intro ht ?_
  conv => whnf
  refine And.intro (fun h => ?_) (fun _ => ?_)
  · exact absurd h (check_no hok)
  conv => whnf
  repeat' (refine And.intro (by (conv => whnf); first | exact ⟨rfl, ht.f, ht.p, hs⟩ | exact ⟨rfl, ht.g⟩ | exact ⟨rfl, had⟩ | exact ⟨rfl, ht.ch⟩ | exact ⟨rfl, ht.ob⟩ | exact ⟨rfl, ht.n⟩ | exact ht.ad | exact ⟨trivial, oneG_of rfl, by decide, by decide⟩ | exact ⟨by simp, by simp [Lib.join, List.intercalate, siteT, itoaB, mkT]; omega⟩) ?_; (conv => whnf))
  refine ret_tu2 (ret_s (congrArg Value.string ?_)) rfl
  simp [joinB, Lib.join, List.intercalate, textL, tailL, wordsL, trapsL, itoaB, mkT, siteT]

theorem text14_6_c (e : Ev) (ht : EvT ⟨e.g, 14, e.f, e.p, e.ad, e.ch, e.ob, e.n, 6⟩) (hok : evOk ⟨e.g, 14, e.f, e.p, e.ad, e.ch, e.ob, e.n, 6⟩ = true) (w : World) (hA : powA.rep w (.blk 0)) : Calls Tryd.prog 20 #[evV ⟨e.g, 14, e.f, e.p, e.ad, e.ch, e.ob, e.n, 6⟩] w fun x w' => x = .returned (.tuple #[.string (mkT (textL ⟨e.g, 14, e.f, e.p, e.ad, e.ch, e.ob, e.n, 6⟩)), .int .i64 0]) ∧ Below w.heap.size w w' := by
  refine calls_tab tabU_ok Tryd.func20 rfl powA [.ag [.i .i64 e.g, .n .i64 14, .i .i64 e.f, .i .i64 e.p, .i .u32 e.ad, .i .i64 e.ch, .i .i64 e.ob, .i .i64 e.n, .n .i64 6]] rfl Tryd.ntmps20 rfl _ (wpx_ok tabU_ok (CI_ok tabU_ok 6) _ ?_) w hA
  have hs := evOk_site hok
  have had : in64 e.ad := in64_u ht.ad
  have lg : (Lib.itoa e.g).length ≤ 21 := itoa_len ht.g
  have lf : (Lib.itoa e.f).length ≤ 21 := itoa_len ht.f
  have lp : (Lib.itoa e.p).length ≤ 21 := itoa_len ht.p
  have la := itoa_len had
  have lc : (Lib.itoa e.ch).length ≤ 21 := itoa_len ht.ch
  have lo : (Lib.itoa e.ob).length ≤ 21 := itoa_len ht.ob
  have ln : (Lib.itoa e.n).length ≤ 21 := itoa_len ht.n
  conv => whnf
  refine And.intro ht ?_
  conv => whnf
  refine And.intro (fun h => ?_) (fun _ => ?_)
  · exact absurd h (check_no hok)
  conv => whnf
  repeat' (refine And.intro (by (conv => whnf); first | exact ⟨rfl, ht.f, ht.p, hs⟩ | exact ⟨rfl, ht.g⟩ | exact ⟨rfl, had⟩ | exact ⟨rfl, ht.ch⟩ | exact ⟨rfl, ht.ob⟩ | exact ⟨rfl, ht.n⟩ | exact ht.ad | exact ⟨trivial, oneG_of rfl, by decide, by decide⟩ | exact ⟨by simp, by simp [Lib.join, List.intercalate, siteT, itoaB, mkT]; omega⟩) ?_; (conv => whnf))
  refine ret_tu2 (ret_s (congrArg Value.string ?_)) rfl
  simp [joinB, Lib.join, List.intercalate, textL, tailL, wordsL, trapsL, itoaB, mkT, siteT]

def textA (e : Ev) : List UInt8 := bif evOk e then textL e else []
theorem evOk_k {e : Ev} (h : evOk e = true) : 1 ≤ e.k ∧ e.k ≤ 14 := by
  simp only [evOk, Bool.and_eq_true, decide_eq_true_eq] at h
  omega
theorem evOk_tr {e : Ev} (h : evOk e = true) (hk : e.k = 14) : 1 ≤ e.tr ∧ e.tr ≤ 6 := by
  simp only [evOk, Bool.and_eq_true, decide_eq_true_eq] at h
  exact h.2.2.2.2.2.2.2.2.2.2.2.2 hk
theorem text_c (e : Ev) (ht : EvT e) (w : World) (hA : powA.rep w (.blk 0)) : Calls Tryd.prog 20 #[evV e] w fun x w' => x = .returned (.tuple #[.string (mkT (textA e)), .int .i64 (bif evOk e then 0 else 2)]) ∧ Below w.heap.size w w' := by
  cases hb : evOk e with
  | false =>
    refine calls_tab tabU_ok Tryd.func20 rfl powA [.ag (evS e)] rfl Tryd.ntmps20 rfl _ (wpx_ok tabU_ok (CI_ok tabU_ok 6) _ ?_) w hA
    conv => whnf
    refine And.intro ht ?_
    conv => whnf
    refine And.intro (fun h => ?_) (fun h => ?_)
    · conv => whnf
      refine ret_tu2 ?_ (congrArg some (congrArg (Value.int IntKind.i64) ?_))
      · simp only [textA, hb]; rfl
      · show (bif evOk e then (0 : Int) else 2) = _
        rw [hb]
    · exfalso
      have h : ((bif evOk e then (0 : Int) else 2) != 0) = false := h
      rw [hb] at h
      exact absurd h (by decide)
  | true =>
    have hk := evOk_k hb
    have he : textA e = textL e := by simp [textA, hb]
    rw [he]
    obtain ⟨g, k, f, p, ad, ch, ob, n, tr⟩ := e
    have hcases : k = 1 ∨ k = 2 ∨ k = 3 ∨ k = 4 ∨ k = 5 ∨ k = 6 ∨ k = 7 ∨ k = 8 ∨ k = 9 ∨ k = 10 ∨ k = 11 ∨ k = 12 ∨ k = 13 ∨ k = 14 := by simp only at hk; omega
    rcases hcases with rfl | rfl | rfl | rfl | rfl | rfl | rfl | rfl | rfl | rfl | rfl | rfl | rfl | rfl
    · exact (text1_c ⟨g, 0, f, p, ad, ch, ob, n, tr⟩ ht hb w hA)
    · exact (text2_c ⟨g, 0, f, p, ad, ch, ob, n, tr⟩ ht hb w hA)
    · exact (text3_c ⟨g, 0, f, p, ad, ch, ob, n, tr⟩ ht hb w hA)
    · exact (text4_c ⟨g, 0, f, p, ad, ch, ob, n, tr⟩ ht hb w hA)
    · exact (text5_c ⟨g, 0, f, p, ad, ch, ob, n, tr⟩ ht hb w hA)
    · exact (text6_c ⟨g, 0, f, p, ad, ch, ob, n, tr⟩ ht hb w hA)
    · exact (text7_c ⟨g, 0, f, p, ad, ch, ob, n, tr⟩ ht hb w hA)
    · exact (text8_c ⟨g, 0, f, p, ad, ch, ob, n, tr⟩ ht hb w hA)
    · exact (text9_c ⟨g, 0, f, p, ad, ch, ob, n, tr⟩ ht hb w hA)
    · exact (text10_c ⟨g, 0, f, p, ad, ch, ob, n, tr⟩ ht hb w hA)
    · exact (text11_c ⟨g, 0, f, p, ad, ch, ob, n, tr⟩ ht hb w hA)
    · exact (text12_c ⟨g, 0, f, p, ad, ch, ob, n, tr⟩ ht hb w hA)
    · exact (text13_c ⟨g, 0, f, p, ad, ch, ob, n, tr⟩ ht hb w hA)
    · have htr := evOk_tr hb rfl
      have htc : tr = 1 ∨ tr = 2 ∨ tr = 3 ∨ tr = 4 ∨ tr = 5 ∨ tr = 6 := by simp only at htr; omega
      rcases htc with rfl | rfl | rfl | rfl | rfl | rfl
      · exact (text14_1_c ⟨g, 0, f, p, ad, ch, ob, n, 0⟩ ht hb w hA)
      · exact (text14_2_c ⟨g, 0, f, p, ad, ch, ob, n, 0⟩ ht hb w hA)
      · exact (text14_3_c ⟨g, 0, f, p, ad, ch, ob, n, 0⟩ ht hb w hA)
      · exact (text14_4_c ⟨g, 0, f, p, ad, ch, ob, n, 0⟩ ht hb w hA)
      · exact (text14_5_c ⟨g, 0, f, p, ad, ch, ob, n, 0⟩ ht hb w hA)
      · exact (text14_6_c ⟨g, 0, f, p, ad, ch, ob, n, 0⟩ ht hb w hA)

/-- A summary of a function of one event that reads the table. -/
def sumEvT (p : Ev → Prop) (b : Ev → SV) : Sum := fun args H _ => match args with
  | [v] => match evOf v, lk 0 H with
    | some e, some (.rd A) => some (.ob (A = powA ∧ p e) (.val (b e)))
    | _, _ => none
  | _ => none
theorem sumEvT_ok {f : FuncId} {p : Ev → Prop} {b : Ev → SV} {y : Ev → Value} (hb : ∀ e ρ, den ρ (b e) = some (y e)) (h : ∀ e, p e → ∀ w, powA.rep w (.blk 0) → Calls Tryd.prog f #[evV e] w fun x w' => x = .returned (y e) ∧ Below w.heap.size w w') : SumOk1 Tryd.prog f (sumEvT p b) := by
  intro args H nx out ho ρ w xs hH hd hn
  unfold sumEvT at ho
  split at ho
  case h_2 => cases ho
  rename_i v
  split at ho
  case h_2 => cases ho
  rename_i e A he hA
  cases ho
  obtain ⟨x, r, rfl, h1, h2⟩ := denL_cons hd
  cases h2
  have := evOf_ok he h1
  subst this
  rintro ⟨rfl, hp⟩
  obtain ⟨hv, _, htab⟩ := hH 0 _ hA
  exact (h e hp w htab).mono fun x w' ⟨q1, q2⟩ => ⟨_, q1, hb e ρ, q2⟩
def sumText : Sum := sumEvT EvT fun e => .tu [.s (mkT (textA e)), .i .i64 (bif evOk e then 0 else 2)]
theorem sumText_ok : SumOk1 Tryd.prog 20 sumText := sumEvT_ok (y := fun e => .tuple #[.string (mkT (textA e)), .int .i64 (bif evOk e then 0 else 2)]) (fun _ _ => rfl) fun e h w hA => text_c e h w hA

end Go.Proofs.YtiibmnoikgfcbaaDoor
