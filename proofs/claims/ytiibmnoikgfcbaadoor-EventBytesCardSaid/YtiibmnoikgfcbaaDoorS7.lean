/- The document's bytes of an event (function 14), kind by kind. The event may be; its parts lie in their types. -/
import Derived.Test.YtiibmnoikgfcbaaDoorS6
namespace Go.Proofs.YtiibmnoikgfcbaaDoor
open Go Go.Sx Go.RowKit
set_option maxRecDepth 100000
set_option maxHeartbeats 1000000
set_option linter.unusedVariables false
set_option linter.unusedSimpArgs false

def sumsR : List (Nat × Sum) := [(39, sumRefFixed), (40, sumRefSiteBytes), (37, sumIn)]
theorem sumsR_ok : sumsAll Tryd.prog sumsR := ⟨sumRefFixed_ok, sumRefSiteBytes_ok, sumIn_ok, trivial⟩
noncomputable def tabW : Tab := mkTab tiRows eqL fnsL [] [] 20 sumsR
theorem tabW_ok : TabOk Tryd.prog tabW := mkTab_ok (by kernel_rfl) tiRows_ok eqL_ok fnsL_ok trivial sumsR_ok
structure EvB (e : Ev) : Prop where
  g : 0 ≤ e.g ∧ e.g ≤ 65535
  ob : 0 ≤ e.ob ∧ e.ob ≤ 63
  n : -2147483648 ≤ e.n ∧ e.n ≤ 2147483647
  ch : e.k = 4 → 1 ≤ e.ch ∧ e.ch ≤ 65535
theorem evOk_B {e : Ev} (h : evOk e = true) : EvB e := by
  simp only [evOk, Bool.and_eq_true, decide_eq_true_eq] at h
  obtain ⟨⟨h1, h2, h3, h4⟩, h5, h6, h7, h8, h9, h10, h11, h12, h13, h14, h15, h16⟩ := h
  exact ⟨⟨h3, h4⟩, ⟨h12, h13⟩, ⟨h14, h15⟩, fun hk => ⟨(h11 hk).1, (h11 hk).2.1⟩⟩
theorem b8_wrap (x : Int) : IntKind.u8.wrap x = b8 x 0 := by
  rw [IntKind.wrap_u8]; simp only [b8]; omega
theorem neg4 {n : Int} (h : -2147483648 ≤ n ∧ n ≤ 2147483647) (hn : n < 0) : IntKind.u64.wrap (IntKind.i64.wrap (n + 4294967296)) = n + 4294967296 := by
  rw [IntKind.wrap_i64, IntKind.wrap_u64]; omega
theorem neg4b {n : Int} (i : Nat) (hi : i < 4) : b8 (n + 4294967296) i = b8 n i := by
  simp only [b8]
  rcases i with _ | _ | _ | _ | i
  all_goals omega
theorem refBytes1_c (e : Ev) (ht : EvT ⟨e.g, 1, e.f, e.p, e.ad, e.ch, e.ob, e.n, e.tr⟩) (hok : evOk ⟨e.g, 1, e.f, e.p, e.ad, e.ch, e.ob, e.n, e.tr⟩ = true) (w : World) : Calls Tryd.prog 14 #[evV ⟨e.g, 1, e.f, e.p, e.ad, e.ch, e.ob, e.n, e.tr⟩] w fun x w' => RowBack 5 6 (rowI (bytesL ⟨e.g, 1, e.f, e.p, e.ad, e.ch, e.ob, e.n, e.tr⟩)) none x w w' := by
  refine calls_new tabW_ok Tryd.func14 rfl [.ag [.i .i64 e.g, .n .i64 1, .i .i64 e.f, .i .i64 e.p, .i .u32 e.ad, .i .i64 e.ch, .i .i64 e.ob, .i .i64 e.n, .i .i64 e.tr]] rfl Tryd.ntmps14 rfl 5 6 _ _ (wpx_ok tabW_ok (CI_ok tabW_ok 8) _ ?_) w
  have hs := evOk_site hok
  have hB := evOk_B hok
  have hg : 0 ≤ e.g ∧ e.g ≤ 65535 := hB.g
  have hn : -2147483648 ≤ e.n ∧ e.n ≤ 2147483647 := hB.n
  have ha : 0 ≤ e.ad ∧ e.ad ≤ 4294967295 := ht.ad
  have wg : IntKind.u64.wrap e.g = e.g := wrapU hg.1 (by omega)
  have wa : IntKind.u64.wrap e.ad = e.ad := wrapU ha.1 (by omega)
  conv => whnf
  refine And.intro (by (conv => whnf); rw [wg]; exact ⟨hB.g.1, by omega⟩) ?_
  conv => whnf
  refine And.intro (by (conv => whnf); exact ⟨trivial, oneG_of rfl, by decide, by decide⟩) ?_
  conv => whnf
  refine And.intro (by (conv => whnf); exact hs) ?_
  conv => whnf
  refine And.intro (by (conv => whnf); exact ⟨trivial, oneG_of rfl, by decide, by decide⟩) ?_
  conv => whnf
  refine And.intro rfl fun i hi => ?_
  match i, hi with
  | 0, _ => exact byte_leaf (b := b8 1 0) (by decide +kernel)
  | 1, _ => exact byte_leaf (congrArg (b8 · 0) wg)
  | 2, _ => exact byte_leaf (congrArg (b8 · 1) wg)
  | 3, _ => rfl
  | 4, _ => rfl
  | 5, _ => rfl
  | n + 6, hi => omega
theorem refBytes2_c (e : Ev) (ht : EvT ⟨e.g, 2, e.f, e.p, e.ad, e.ch, e.ob, e.n, e.tr⟩) (hok : evOk ⟨e.g, 2, e.f, e.p, e.ad, e.ch, e.ob, e.n, e.tr⟩ = true) (w : World) : Calls Tryd.prog 14 #[evV ⟨e.g, 2, e.f, e.p, e.ad, e.ch, e.ob, e.n, e.tr⟩] w fun x w' => RowBack 5 10 (rowI (bytesL ⟨e.g, 2, e.f, e.p, e.ad, e.ch, e.ob, e.n, e.tr⟩)) none x w w' := by
  refine calls_new tabW_ok Tryd.func14 rfl [.ag [.i .i64 e.g, .n .i64 2, .i .i64 e.f, .i .i64 e.p, .i .u32 e.ad, .i .i64 e.ch, .i .i64 e.ob, .i .i64 e.n, .i .i64 e.tr]] rfl Tryd.ntmps14 rfl 5 10 _ _ (wpx_ok tabW_ok (CI_ok tabW_ok 8) _ ?_) w
  have hs := evOk_site hok
  have hB := evOk_B hok
  have hg : 0 ≤ e.g ∧ e.g ≤ 65535 := hB.g
  have hn : -2147483648 ≤ e.n ∧ e.n ≤ 2147483647 := hB.n
  have ha : 0 ≤ e.ad ∧ e.ad ≤ 4294967295 := ht.ad
  have wg : IntKind.u64.wrap e.g = e.g := wrapU hg.1 (by omega)
  have wa : IntKind.u64.wrap e.ad = e.ad := wrapU ha.1 (by omega)
  conv => whnf
  refine And.intro (by (conv => whnf); rw [wg]; exact ⟨hB.g.1, by omega⟩) ?_
  conv => whnf
  refine And.intro (by (conv => whnf); exact ⟨trivial, oneG_of rfl, by decide, by decide⟩) ?_
  conv => whnf
  refine And.intro (by (conv => whnf); exact hs) ?_
  conv => whnf
  refine And.intro (by (conv => whnf); exact ⟨trivial, oneG_of rfl, by decide, by decide⟩) ?_
  conv => whnf
  refine And.intro (by (conv => whnf); rw [wa]; exact ⟨ha.1, by omega⟩) ?_
  conv => whnf
  refine And.intro (by (conv => whnf); exact ⟨trivial, oneG_of rfl, by decide, by decide⟩) ?_
  conv => whnf
  refine And.intro rfl fun i hi => ?_
  match i, hi with
  | 0, _ => exact byte_leaf (b := b8 2 0) (by decide +kernel)
  | 1, _ => exact byte_leaf (congrArg (b8 · 0) wg)
  | 2, _ => exact byte_leaf (congrArg (b8 · 1) wg)
  | 3, _ => rfl
  | 4, _ => rfl
  | 5, _ => rfl
  | 6, _ => exact byte_leaf (congrArg (b8 · 0) wa)
  | 7, _ => exact byte_leaf (congrArg (b8 · 1) wa)
  | 8, _ => exact byte_leaf (congrArg (b8 · 2) wa)
  | 9, _ => exact byte_leaf (congrArg (b8 · 3) wa)
  | n + 10, hi => omega
theorem refBytes3_c (e : Ev) (ht : EvT ⟨e.g, 3, e.f, e.p, e.ad, e.ch, e.ob, e.n, e.tr⟩) (hok : evOk ⟨e.g, 3, e.f, e.p, e.ad, e.ch, e.ob, e.n, e.tr⟩ = true) (w : World) : Calls Tryd.prog 14 #[evV ⟨e.g, 3, e.f, e.p, e.ad, e.ch, e.ob, e.n, e.tr⟩] w fun x w' => RowBack 5 10 (rowI (bytesL ⟨e.g, 3, e.f, e.p, e.ad, e.ch, e.ob, e.n, e.tr⟩)) none x w w' := by
  refine calls_new tabW_ok Tryd.func14 rfl [.ag [.i .i64 e.g, .n .i64 3, .i .i64 e.f, .i .i64 e.p, .i .u32 e.ad, .i .i64 e.ch, .i .i64 e.ob, .i .i64 e.n, .i .i64 e.tr]] rfl Tryd.ntmps14 rfl 5 10 _ _ (wpx_ok tabW_ok (CI_ok tabW_ok 8) _ ?_) w
  have hs := evOk_site hok
  have hB := evOk_B hok
  have hg : 0 ≤ e.g ∧ e.g ≤ 65535 := hB.g
  have hn : -2147483648 ≤ e.n ∧ e.n ≤ 2147483647 := hB.n
  have ha : 0 ≤ e.ad ∧ e.ad ≤ 4294967295 := ht.ad
  have wg : IntKind.u64.wrap e.g = e.g := wrapU hg.1 (by omega)
  have wa : IntKind.u64.wrap e.ad = e.ad := wrapU ha.1 (by omega)
  conv => whnf
  refine And.intro (by (conv => whnf); rw [wg]; exact ⟨hB.g.1, by omega⟩) ?_
  conv => whnf
  refine And.intro (by (conv => whnf); exact ⟨trivial, oneG_of rfl, by decide, by decide⟩) ?_
  conv => whnf
  refine And.intro (by (conv => whnf); exact hs) ?_
  conv => whnf
  refine And.intro (by (conv => whnf); exact ⟨trivial, oneG_of rfl, by decide, by decide⟩) ?_
  conv => whnf
  refine And.intro (by (conv => whnf); rw [wa]; exact ⟨ha.1, by omega⟩) ?_
  conv => whnf
  refine And.intro (by (conv => whnf); exact ⟨trivial, oneG_of rfl, by decide, by decide⟩) ?_
  conv => whnf
  refine And.intro rfl fun i hi => ?_
  match i, hi with
  | 0, _ => exact byte_leaf (b := b8 3 0) (by decide +kernel)
  | 1, _ => exact byte_leaf (congrArg (b8 · 0) wg)
  | 2, _ => exact byte_leaf (congrArg (b8 · 1) wg)
  | 3, _ => rfl
  | 4, _ => rfl
  | 5, _ => rfl
  | 6, _ => exact byte_leaf (congrArg (b8 · 0) wa)
  | 7, _ => exact byte_leaf (congrArg (b8 · 1) wa)
  | 8, _ => exact byte_leaf (congrArg (b8 · 2) wa)
  | 9, _ => exact byte_leaf (congrArg (b8 · 3) wa)
  | n + 10, hi => omega
theorem refBytes4_c (e : Ev) (ht : EvT ⟨e.g, 4, e.f, e.p, e.ad, e.ch, e.ob, e.n, e.tr⟩) (hok : evOk ⟨e.g, 4, e.f, e.p, e.ad, e.ch, e.ob, e.n, e.tr⟩ = true) (w : World) : Calls Tryd.prog 14 #[evV ⟨e.g, 4, e.f, e.p, e.ad, e.ch, e.ob, e.n, e.tr⟩] w fun x w' => RowBack 5 8 (rowI (bytesL ⟨e.g, 4, e.f, e.p, e.ad, e.ch, e.ob, e.n, e.tr⟩)) none x w w' := by
  refine calls_new tabW_ok Tryd.func14 rfl [.ag [.i .i64 e.g, .n .i64 4, .i .i64 e.f, .i .i64 e.p, .i .u32 e.ad, .i .i64 e.ch, .i .i64 e.ob, .i .i64 e.n, .i .i64 e.tr]] rfl Tryd.ntmps14 rfl 5 8 _ _ (wpx_ok tabW_ok (CI_ok tabW_ok 8) _ ?_) w
  have hs := evOk_site hok
  have hB := evOk_B hok
  have hg : 0 ≤ e.g ∧ e.g ≤ 65535 := hB.g
  have hn : -2147483648 ≤ e.n ∧ e.n ≤ 2147483647 := hB.n
  have ha : 0 ≤ e.ad ∧ e.ad ≤ 4294967295 := ht.ad
  have wg : IntKind.u64.wrap e.g = e.g := wrapU hg.1 (by omega)
  have wa : IntKind.u64.wrap e.ad = e.ad := wrapU ha.1 (by omega)
  have hc : 1 ≤ e.ch ∧ e.ch ≤ 65535 := hB.ch rfl
  have wc : IntKind.u64.wrap e.ch = e.ch := wrapU (by omega) (by omega)
  conv => whnf
  refine And.intro (by (conv => whnf); rw [wg]; exact ⟨hB.g.1, by omega⟩) ?_
  conv => whnf
  refine And.intro (by (conv => whnf); exact ⟨trivial, oneG_of rfl, by decide, by decide⟩) ?_
  conv => whnf
  refine And.intro (by (conv => whnf); exact hs) ?_
  conv => whnf
  refine And.intro (by (conv => whnf); exact ⟨trivial, oneG_of rfl, by decide, by decide⟩) ?_
  conv => whnf
  refine And.intro (by (conv => whnf); rw [wc]; exact ⟨by omega, by omega⟩) ?_
  conv => whnf
  refine And.intro (by (conv => whnf); exact ⟨trivial, oneG_of rfl, by decide, by decide⟩) ?_
  conv => whnf
  refine And.intro rfl fun i hi => ?_
  match i, hi with
  | 0, _ => exact byte_leaf (b := b8 4 0) (by decide +kernel)
  | 1, _ => exact byte_leaf (congrArg (b8 · 0) wg)
  | 2, _ => exact byte_leaf (congrArg (b8 · 1) wg)
  | 3, _ => rfl
  | 4, _ => rfl
  | 5, _ => rfl
  | 6, _ => exact byte_leaf (congrArg (b8 · 0) wc)
  | 7, _ => exact byte_leaf (congrArg (b8 · 1) wc)
  | n + 8, hi => omega
theorem refBytes5_c (e : Ev) (ht : EvT ⟨e.g, 5, e.f, e.p, e.ad, e.ch, e.ob, e.n, e.tr⟩) (hok : evOk ⟨e.g, 5, e.f, e.p, e.ad, e.ch, e.ob, e.n, e.tr⟩ = true) (w : World) : Calls Tryd.prog 14 #[evV ⟨e.g, 5, e.f, e.p, e.ad, e.ch, e.ob, e.n, e.tr⟩] w fun x w' => RowBack 5 7 (rowI (bytesL ⟨e.g, 5, e.f, e.p, e.ad, e.ch, e.ob, e.n, e.tr⟩)) none x w w' := by
  refine calls_new tabW_ok Tryd.func14 rfl [.ag [.i .i64 e.g, .n .i64 5, .i .i64 e.f, .i .i64 e.p, .i .u32 e.ad, .i .i64 e.ch, .i .i64 e.ob, .i .i64 e.n, .i .i64 e.tr]] rfl Tryd.ntmps14 rfl 5 7 _ _ (wpx_ok tabW_ok (CI_ok tabW_ok 8) _ ?_) w
  have hs := evOk_site hok
  have hB := evOk_B hok
  have hg : 0 ≤ e.g ∧ e.g ≤ 65535 := hB.g
  have hn : -2147483648 ≤ e.n ∧ e.n ≤ 2147483647 := hB.n
  have ha : 0 ≤ e.ad ∧ e.ad ≤ 4294967295 := ht.ad
  have wg : IntKind.u64.wrap e.g = e.g := wrapU hg.1 (by omega)
  have wa : IntKind.u64.wrap e.ad = e.ad := wrapU ha.1 (by omega)
  conv => whnf
  refine And.intro (by (conv => whnf); rw [wg]; exact ⟨hB.g.1, by omega⟩) ?_
  conv => whnf
  refine And.intro (by (conv => whnf); exact ⟨trivial, oneG_of rfl, by decide, by decide⟩) ?_
  conv => whnf
  refine And.intro (by (conv => whnf); exact hs) ?_
  conv => whnf
  refine And.intro (by (conv => whnf); exact ⟨trivial, oneG_of rfl, by decide, by decide⟩) ?_
  conv => whnf
  refine And.intro (by (conv => whnf); exact ⟨trivial, oneG_of rfl, by decide, by decide⟩) ?_
  conv => whnf
  refine And.intro rfl fun i hi => ?_
  match i, hi with
  | 0, _ => exact byte_leaf (b := b8 5 0) (by decide +kernel)
  | 1, _ => exact byte_leaf (congrArg (b8 · 0) wg)
  | 2, _ => exact byte_leaf (congrArg (b8 · 1) wg)
  | 3, _ => rfl
  | 4, _ => rfl
  | 5, _ => rfl
  | 6, _ => exact byte_leaf (b8_wrap e.ob)
  | n + 7, hi => omega
theorem refBytes6_c (e : Ev) (ht : EvT ⟨e.g, 6, e.f, e.p, e.ad, e.ch, e.ob, e.n, e.tr⟩) (hok : evOk ⟨e.g, 6, e.f, e.p, e.ad, e.ch, e.ob, e.n, e.tr⟩ = true) (w : World) : Calls Tryd.prog 14 #[evV ⟨e.g, 6, e.f, e.p, e.ad, e.ch, e.ob, e.n, e.tr⟩] w fun x w' => RowBack 5 7 (rowI (bytesL ⟨e.g, 6, e.f, e.p, e.ad, e.ch, e.ob, e.n, e.tr⟩)) none x w w' := by
  refine calls_new tabW_ok Tryd.func14 rfl [.ag [.i .i64 e.g, .n .i64 6, .i .i64 e.f, .i .i64 e.p, .i .u32 e.ad, .i .i64 e.ch, .i .i64 e.ob, .i .i64 e.n, .i .i64 e.tr]] rfl Tryd.ntmps14 rfl 5 7 _ _ (wpx_ok tabW_ok (CI_ok tabW_ok 8) _ ?_) w
  have hs := evOk_site hok
  have hB := evOk_B hok
  have hg : 0 ≤ e.g ∧ e.g ≤ 65535 := hB.g
  have hn : -2147483648 ≤ e.n ∧ e.n ≤ 2147483647 := hB.n
  have ha : 0 ≤ e.ad ∧ e.ad ≤ 4294967295 := ht.ad
  have wg : IntKind.u64.wrap e.g = e.g := wrapU hg.1 (by omega)
  have wa : IntKind.u64.wrap e.ad = e.ad := wrapU ha.1 (by omega)
  conv => whnf
  refine And.intro (by (conv => whnf); rw [wg]; exact ⟨hB.g.1, by omega⟩) ?_
  conv => whnf
  refine And.intro (by (conv => whnf); exact ⟨trivial, oneG_of rfl, by decide, by decide⟩) ?_
  conv => whnf
  refine And.intro (by (conv => whnf); exact hs) ?_
  conv => whnf
  refine And.intro (by (conv => whnf); exact ⟨trivial, oneG_of rfl, by decide, by decide⟩) ?_
  conv => whnf
  refine And.intro (by (conv => whnf); exact ⟨trivial, oneG_of rfl, by decide, by decide⟩) ?_
  conv => whnf
  refine And.intro rfl fun i hi => ?_
  match i, hi with
  | 0, _ => exact byte_leaf (b := b8 6 0) (by decide +kernel)
  | 1, _ => exact byte_leaf (congrArg (b8 · 0) wg)
  | 2, _ => exact byte_leaf (congrArg (b8 · 1) wg)
  | 3, _ => rfl
  | 4, _ => rfl
  | 5, _ => rfl
  | 6, _ => exact byte_leaf (b8_wrap e.ob)
  | n + 7, hi => omega
theorem refBytes7_c (e : Ev) (ht : EvT ⟨e.g, 7, e.f, e.p, e.ad, e.ch, e.ob, e.n, e.tr⟩) (hok : evOk ⟨e.g, 7, e.f, e.p, e.ad, e.ch, e.ob, e.n, e.tr⟩ = true) (w : World) : Calls Tryd.prog 14 #[evV ⟨e.g, 7, e.f, e.p, e.ad, e.ch, e.ob, e.n, e.tr⟩] w fun x w' => RowBack 5 7 (rowI (bytesL ⟨e.g, 7, e.f, e.p, e.ad, e.ch, e.ob, e.n, e.tr⟩)) none x w w' := by
  refine calls_new tabW_ok Tryd.func14 rfl [.ag [.i .i64 e.g, .n .i64 7, .i .i64 e.f, .i .i64 e.p, .i .u32 e.ad, .i .i64 e.ch, .i .i64 e.ob, .i .i64 e.n, .i .i64 e.tr]] rfl Tryd.ntmps14 rfl 5 7 _ _ (wpx_ok tabW_ok (CI_ok tabW_ok 8) _ ?_) w
  have hs := evOk_site hok
  have hB := evOk_B hok
  have hg : 0 ≤ e.g ∧ e.g ≤ 65535 := hB.g
  have hn : -2147483648 ≤ e.n ∧ e.n ≤ 2147483647 := hB.n
  have ha : 0 ≤ e.ad ∧ e.ad ≤ 4294967295 := ht.ad
  have wg : IntKind.u64.wrap e.g = e.g := wrapU hg.1 (by omega)
  have wa : IntKind.u64.wrap e.ad = e.ad := wrapU ha.1 (by omega)
  conv => whnf
  refine And.intro (by (conv => whnf); rw [wg]; exact ⟨hB.g.1, by omega⟩) ?_
  conv => whnf
  refine And.intro (by (conv => whnf); exact ⟨trivial, oneG_of rfl, by decide, by decide⟩) ?_
  conv => whnf
  refine And.intro (by (conv => whnf); exact hs) ?_
  conv => whnf
  refine And.intro (by (conv => whnf); exact ⟨trivial, oneG_of rfl, by decide, by decide⟩) ?_
  conv => whnf
  refine And.intro (by (conv => whnf); exact ⟨trivial, oneG_of rfl, by decide, by decide⟩) ?_
  conv => whnf
  refine And.intro rfl fun i hi => ?_
  match i, hi with
  | 0, _ => exact byte_leaf (b := b8 7 0) (by decide +kernel)
  | 1, _ => exact byte_leaf (congrArg (b8 · 0) wg)
  | 2, _ => exact byte_leaf (congrArg (b8 · 1) wg)
  | 3, _ => rfl
  | 4, _ => rfl
  | 5, _ => rfl
  | 6, _ => exact byte_leaf (b8_wrap e.ob)
  | n + 7, hi => omega
theorem refBytes8_c (e : Ev) (ht : EvT ⟨e.g, 8, e.f, e.p, e.ad, e.ch, e.ob, e.n, e.tr⟩) (hok : evOk ⟨e.g, 8, e.f, e.p, e.ad, e.ch, e.ob, e.n, e.tr⟩ = true) (w : World) : Calls Tryd.prog 14 #[evV ⟨e.g, 8, e.f, e.p, e.ad, e.ch, e.ob, e.n, e.tr⟩] w fun x w' => RowBack 5 7 (rowI (bytesL ⟨e.g, 8, e.f, e.p, e.ad, e.ch, e.ob, e.n, e.tr⟩)) none x w w' := by
  refine calls_new tabW_ok Tryd.func14 rfl [.ag [.i .i64 e.g, .n .i64 8, .i .i64 e.f, .i .i64 e.p, .i .u32 e.ad, .i .i64 e.ch, .i .i64 e.ob, .i .i64 e.n, .i .i64 e.tr]] rfl Tryd.ntmps14 rfl 5 7 _ _ (wpx_ok tabW_ok (CI_ok tabW_ok 8) _ ?_) w
  have hs := evOk_site hok
  have hB := evOk_B hok
  have hg : 0 ≤ e.g ∧ e.g ≤ 65535 := hB.g
  have hn : -2147483648 ≤ e.n ∧ e.n ≤ 2147483647 := hB.n
  have ha : 0 ≤ e.ad ∧ e.ad ≤ 4294967295 := ht.ad
  have wg : IntKind.u64.wrap e.g = e.g := wrapU hg.1 (by omega)
  have wa : IntKind.u64.wrap e.ad = e.ad := wrapU ha.1 (by omega)
  conv => whnf
  refine And.intro (by (conv => whnf); rw [wg]; exact ⟨hB.g.1, by omega⟩) ?_
  conv => whnf
  refine And.intro (by (conv => whnf); exact ⟨trivial, oneG_of rfl, by decide, by decide⟩) ?_
  conv => whnf
  refine And.intro (by (conv => whnf); exact hs) ?_
  conv => whnf
  refine And.intro (by (conv => whnf); exact ⟨trivial, oneG_of rfl, by decide, by decide⟩) ?_
  conv => whnf
  refine And.intro (by (conv => whnf); exact ⟨trivial, oneG_of rfl, by decide, by decide⟩) ?_
  conv => whnf
  refine And.intro rfl fun i hi => ?_
  match i, hi with
  | 0, _ => exact byte_leaf (b := b8 8 0) (by decide +kernel)
  | 1, _ => exact byte_leaf (congrArg (b8 · 0) wg)
  | 2, _ => exact byte_leaf (congrArg (b8 · 1) wg)
  | 3, _ => rfl
  | 4, _ => rfl
  | 5, _ => rfl
  | 6, _ => exact byte_leaf (b8_wrap e.ob)
  | n + 7, hi => omega
theorem refBytes9_c (e : Ev) (ht : EvT ⟨e.g, 9, e.f, e.p, e.ad, e.ch, e.ob, e.n, e.tr⟩) (hok : evOk ⟨e.g, 9, e.f, e.p, e.ad, e.ch, e.ob, e.n, e.tr⟩ = true) (w : World) : Calls Tryd.prog 14 #[evV ⟨e.g, 9, e.f, e.p, e.ad, e.ch, e.ob, e.n, e.tr⟩] w fun x w' => RowBack 5 7 (rowI (bytesL ⟨e.g, 9, e.f, e.p, e.ad, e.ch, e.ob, e.n, e.tr⟩)) none x w w' := by
  refine calls_new tabW_ok Tryd.func14 rfl [.ag [.i .i64 e.g, .n .i64 9, .i .i64 e.f, .i .i64 e.p, .i .u32 e.ad, .i .i64 e.ch, .i .i64 e.ob, .i .i64 e.n, .i .i64 e.tr]] rfl Tryd.ntmps14 rfl 5 7 _ _ (wpx_ok tabW_ok (CI_ok tabW_ok 8) _ ?_) w
  have hs := evOk_site hok
  have hB := evOk_B hok
  have hg : 0 ≤ e.g ∧ e.g ≤ 65535 := hB.g
  have hn : -2147483648 ≤ e.n ∧ e.n ≤ 2147483647 := hB.n
  have ha : 0 ≤ e.ad ∧ e.ad ≤ 4294967295 := ht.ad
  have wg : IntKind.u64.wrap e.g = e.g := wrapU hg.1 (by omega)
  have wa : IntKind.u64.wrap e.ad = e.ad := wrapU ha.1 (by omega)
  conv => whnf
  refine And.intro (by (conv => whnf); rw [wg]; exact ⟨hB.g.1, by omega⟩) ?_
  conv => whnf
  refine And.intro (by (conv => whnf); exact ⟨trivial, oneG_of rfl, by decide, by decide⟩) ?_
  conv => whnf
  refine And.intro (by (conv => whnf); exact hs) ?_
  conv => whnf
  refine And.intro (by (conv => whnf); exact ⟨trivial, oneG_of rfl, by decide, by decide⟩) ?_
  conv => whnf
  refine And.intro (by (conv => whnf); exact ⟨trivial, oneG_of rfl, by decide, by decide⟩) ?_
  conv => whnf
  refine And.intro rfl fun i hi => ?_
  match i, hi with
  | 0, _ => exact byte_leaf (b := b8 9 0) (by decide +kernel)
  | 1, _ => exact byte_leaf (congrArg (b8 · 0) wg)
  | 2, _ => exact byte_leaf (congrArg (b8 · 1) wg)
  | 3, _ => rfl
  | 4, _ => rfl
  | 5, _ => rfl
  | 6, _ => exact byte_leaf (b8_wrap e.ob)
  | n + 7, hi => omega
theorem refBytes10_c (e : Ev) (ht : EvT ⟨e.g, 10, e.f, e.p, e.ad, e.ch, e.ob, e.n, e.tr⟩) (hok : evOk ⟨e.g, 10, e.f, e.p, e.ad, e.ch, e.ob, e.n, e.tr⟩ = true) (w : World) : Calls Tryd.prog 14 #[evV ⟨e.g, 10, e.f, e.p, e.ad, e.ch, e.ob, e.n, e.tr⟩] w fun x w' => RowBack 5 7 (rowI (bytesL ⟨e.g, 10, e.f, e.p, e.ad, e.ch, e.ob, e.n, e.tr⟩)) none x w w' := by
  refine calls_new tabW_ok Tryd.func14 rfl [.ag [.i .i64 e.g, .n .i64 10, .i .i64 e.f, .i .i64 e.p, .i .u32 e.ad, .i .i64 e.ch, .i .i64 e.ob, .i .i64 e.n, .i .i64 e.tr]] rfl Tryd.ntmps14 rfl 5 7 _ _ (wpx_ok tabW_ok (CI_ok tabW_ok 8) _ ?_) w
  have hs := evOk_site hok
  have hB := evOk_B hok
  have hg : 0 ≤ e.g ∧ e.g ≤ 65535 := hB.g
  have hn : -2147483648 ≤ e.n ∧ e.n ≤ 2147483647 := hB.n
  have ha : 0 ≤ e.ad ∧ e.ad ≤ 4294967295 := ht.ad
  have wg : IntKind.u64.wrap e.g = e.g := wrapU hg.1 (by omega)
  have wa : IntKind.u64.wrap e.ad = e.ad := wrapU ha.1 (by omega)
  conv => whnf
  refine And.intro (by (conv => whnf); rw [wg]; exact ⟨hB.g.1, by omega⟩) ?_
  conv => whnf
  refine And.intro (by (conv => whnf); exact ⟨trivial, oneG_of rfl, by decide, by decide⟩) ?_
  conv => whnf
  refine And.intro (by (conv => whnf); exact hs) ?_
  conv => whnf
  refine And.intro (by (conv => whnf); exact ⟨trivial, oneG_of rfl, by decide, by decide⟩) ?_
  conv => whnf
  refine And.intro (by (conv => whnf); exact ⟨trivial, oneG_of rfl, by decide, by decide⟩) ?_
  conv => whnf
  refine And.intro rfl fun i hi => ?_
  match i, hi with
  | 0, _ => exact byte_leaf (b := b8 10 0) (by decide +kernel)
  | 1, _ => exact byte_leaf (congrArg (b8 · 0) wg)
  | 2, _ => exact byte_leaf (congrArg (b8 · 1) wg)
  | 3, _ => rfl
  | 4, _ => rfl
  | 5, _ => rfl
  | 6, _ => exact byte_leaf (b8_wrap e.ob)
  | n + 7, hi => omega
theorem refBytes11_c (e : Ev) (ht : EvT ⟨e.g, 11, e.f, e.p, e.ad, e.ch, e.ob, e.n, e.tr⟩) (hok : evOk ⟨e.g, 11, e.f, e.p, e.ad, e.ch, e.ob, e.n, e.tr⟩ = true) (w : World) : Calls Tryd.prog 14 #[evV ⟨e.g, 11, e.f, e.p, e.ad, e.ch, e.ob, e.n, e.tr⟩] w fun x w' => RowBack 5 11 (rowI (bytesL ⟨e.g, 11, e.f, e.p, e.ad, e.ch, e.ob, e.n, e.tr⟩)) none x w w' := by
  refine calls_new tabW_ok Tryd.func14 rfl [.ag [.i .i64 e.g, .n .i64 11, .i .i64 e.f, .i .i64 e.p, .i .u32 e.ad, .i .i64 e.ch, .i .i64 e.ob, .i .i64 e.n, .i .i64 e.tr]] rfl Tryd.ntmps14 rfl 5 11 _ _ (wpx_ok tabW_ok (CI_ok tabW_ok 8) _ ?_) w
  have hs := evOk_site hok
  have hB := evOk_B hok
  have hg : 0 ≤ e.g ∧ e.g ≤ 65535 := hB.g
  have hn : -2147483648 ≤ e.n ∧ e.n ≤ 2147483647 := hB.n
  have ha : 0 ≤ e.ad ∧ e.ad ≤ 4294967295 := ht.ad
  have wg : IntKind.u64.wrap e.g = e.g := wrapU hg.1 (by omega)
  have wa : IntKind.u64.wrap e.ad = e.ad := wrapU ha.1 (by omega)
  conv => whnf
  refine And.intro (by (conv => whnf); rw [wg]; exact ⟨hB.g.1, by omega⟩) ?_
  conv => whnf
  refine And.intro (by (conv => whnf); exact ⟨trivial, oneG_of rfl, by decide, by decide⟩) ?_
  conv => whnf
  refine And.intro (by (conv => whnf); exact hs) ?_
  conv => whnf
  refine And.intro (by (conv => whnf); exact ⟨trivial, oneG_of rfl, by decide, by decide⟩) ?_
  conv => whnf
  refine And.intro (by (conv => whnf); exact ⟨trivial, oneG_of rfl, by decide, by decide⟩) ?_
  conv => whnf
  refine And.intro (fun hh => ?_) (fun hh => ?_)
  · have hh : e.n < 0 := of_decide_eq_true hh
    have wn : IntKind.u64.wrap (IntKind.i64.wrap (arithI .add e.n 4294967296)) = e.n + 4294967296 := neg4 hn hh
    conv => whnf
    refine And.intro (by (conv => whnf); rw [wn]; exact ⟨by omega, by omega⟩) ?_
    conv => whnf
    refine And.intro (by (conv => whnf); exact ⟨trivial, oneG_of rfl, by decide, by decide⟩) ?_
    conv => whnf
    refine And.intro rfl fun i hi => ?_
    match i, hi with
    | 0, _ => exact byte_leaf (b := b8 11 0) (by decide +kernel)
    | 1, _ => exact byte_leaf (congrArg (b8 · 0) wg)
    | 2, _ => exact byte_leaf (congrArg (b8 · 1) wg)
    | 3, _ => rfl
    | 4, _ => rfl
    | 5, _ => rfl
    | 6, _ => exact byte_leaf (b8_wrap e.ob)
    | 7, _ => exact byte_leaf ((congrArg (b8 · 0) wn).trans (neg4b 0 (by decide)))
    | 8, _ => exact byte_leaf ((congrArg (b8 · 1) wn).trans (neg4b 1 (by decide)))
    | 9, _ => exact byte_leaf ((congrArg (b8 · 2) wn).trans (neg4b 2 (by decide)))
    | 10, _ => exact byte_leaf ((congrArg (b8 · 3) wn).trans (neg4b 3 (by decide)))
    | n + 11, hi => omega
  · have hh : ¬ e.n < 0 := of_decide_eq_false hh
    have wn : IntKind.u64.wrap e.n = e.n := wrapU (by omega) (by omega)
    conv => whnf
    refine And.intro (by (conv => whnf); rw [wn]; exact ⟨by omega, by omega⟩) ?_
    conv => whnf
    refine And.intro (by (conv => whnf); exact ⟨trivial, oneG_of rfl, by decide, by decide⟩) ?_
    conv => whnf
    refine And.intro rfl fun i hi => ?_
    match i, hi with
    | 0, _ => exact byte_leaf (b := b8 11 0) (by decide +kernel)
    | 1, _ => exact byte_leaf (congrArg (b8 · 0) wg)
    | 2, _ => exact byte_leaf (congrArg (b8 · 1) wg)
    | 3, _ => rfl
    | 4, _ => rfl
    | 5, _ => rfl
    | 6, _ => exact byte_leaf (b8_wrap e.ob)
    | 7, _ => exact byte_leaf (congrArg (b8 · 0) wn)
    | 8, _ => exact byte_leaf (congrArg (b8 · 1) wn)
    | 9, _ => exact byte_leaf (congrArg (b8 · 2) wn)
    | 10, _ => exact byte_leaf (congrArg (b8 · 3) wn)
    | n + 11, hi => omega
theorem refBytes12_c (e : Ev) (ht : EvT ⟨e.g, 12, e.f, e.p, e.ad, e.ch, e.ob, e.n, e.tr⟩) (hok : evOk ⟨e.g, 12, e.f, e.p, e.ad, e.ch, e.ob, e.n, e.tr⟩ = true) (w : World) : Calls Tryd.prog 14 #[evV ⟨e.g, 12, e.f, e.p, e.ad, e.ch, e.ob, e.n, e.tr⟩] w fun x w' => RowBack 5 7 (rowI (bytesL ⟨e.g, 12, e.f, e.p, e.ad, e.ch, e.ob, e.n, e.tr⟩)) none x w w' := by
  refine calls_new tabW_ok Tryd.func14 rfl [.ag [.i .i64 e.g, .n .i64 12, .i .i64 e.f, .i .i64 e.p, .i .u32 e.ad, .i .i64 e.ch, .i .i64 e.ob, .i .i64 e.n, .i .i64 e.tr]] rfl Tryd.ntmps14 rfl 5 7 _ _ (wpx_ok tabW_ok (CI_ok tabW_ok 8) _ ?_) w
  have hs := evOk_site hok
  have hB := evOk_B hok
  have hg : 0 ≤ e.g ∧ e.g ≤ 65535 := hB.g
  have hn : -2147483648 ≤ e.n ∧ e.n ≤ 2147483647 := hB.n
  have ha : 0 ≤ e.ad ∧ e.ad ≤ 4294967295 := ht.ad
  have wg : IntKind.u64.wrap e.g = e.g := wrapU hg.1 (by omega)
  have wa : IntKind.u64.wrap e.ad = e.ad := wrapU ha.1 (by omega)
  conv => whnf
  refine And.intro (by (conv => whnf); rw [wg]; exact ⟨hB.g.1, by omega⟩) ?_
  conv => whnf
  refine And.intro (by (conv => whnf); exact ⟨trivial, oneG_of rfl, by decide, by decide⟩) ?_
  conv => whnf
  refine And.intro (by (conv => whnf); exact hs) ?_
  conv => whnf
  refine And.intro (by (conv => whnf); exact ⟨trivial, oneG_of rfl, by decide, by decide⟩) ?_
  conv => whnf
  refine And.intro (by (conv => whnf); exact ⟨trivial, oneG_of rfl, by decide, by decide⟩) ?_
  conv => whnf
  refine And.intro rfl fun i hi => ?_
  match i, hi with
  | 0, _ => exact byte_leaf (b := b8 12 0) (by decide +kernel)
  | 1, _ => exact byte_leaf (congrArg (b8 · 0) wg)
  | 2, _ => exact byte_leaf (congrArg (b8 · 1) wg)
  | 3, _ => rfl
  | 4, _ => rfl
  | 5, _ => rfl
  | 6, _ => exact byte_leaf (b8_wrap e.ob)
  | n + 7, hi => omega
theorem refBytes13_c (e : Ev) (ht : EvT ⟨e.g, 13, e.f, e.p, e.ad, e.ch, e.ob, e.n, e.tr⟩) (hok : evOk ⟨e.g, 13, e.f, e.p, e.ad, e.ch, e.ob, e.n, e.tr⟩ = true) (w : World) : Calls Tryd.prog 14 #[evV ⟨e.g, 13, e.f, e.p, e.ad, e.ch, e.ob, e.n, e.tr⟩] w fun x w' => RowBack 5 6 (rowI (bytesL ⟨e.g, 13, e.f, e.p, e.ad, e.ch, e.ob, e.n, e.tr⟩)) none x w w' := by
  refine calls_new tabW_ok Tryd.func14 rfl [.ag [.i .i64 e.g, .n .i64 13, .i .i64 e.f, .i .i64 e.p, .i .u32 e.ad, .i .i64 e.ch, .i .i64 e.ob, .i .i64 e.n, .i .i64 e.tr]] rfl Tryd.ntmps14 rfl 5 6 _ _ (wpx_ok tabW_ok (CI_ok tabW_ok 8) _ ?_) w
  have hs := evOk_site hok
  have hB := evOk_B hok
  have hg : 0 ≤ e.g ∧ e.g ≤ 65535 := hB.g
  have hn : -2147483648 ≤ e.n ∧ e.n ≤ 2147483647 := hB.n
  have ha : 0 ≤ e.ad ∧ e.ad ≤ 4294967295 := ht.ad
  have wg : IntKind.u64.wrap e.g = e.g := wrapU hg.1 (by omega)
  have wa : IntKind.u64.wrap e.ad = e.ad := wrapU ha.1 (by omega)
  conv => whnf
  refine And.intro (by (conv => whnf); rw [wg]; exact ⟨hB.g.1, by omega⟩) ?_
  conv => whnf
  refine And.intro (by (conv => whnf); exact ⟨trivial, oneG_of rfl, by decide, by decide⟩) ?_
  conv => whnf
  refine And.intro (by (conv => whnf); exact hs) ?_
  conv => whnf
  refine And.intro (by (conv => whnf); exact ⟨trivial, oneG_of rfl, by decide, by decide⟩) ?_
  conv => whnf
  refine And.intro rfl fun i hi => ?_
  match i, hi with
  | 0, _ => exact byte_leaf (b := b8 13 0) (by decide +kernel)
  | 1, _ => exact byte_leaf (congrArg (b8 · 0) wg)
  | 2, _ => exact byte_leaf (congrArg (b8 · 1) wg)
  | 3, _ => rfl
  | 4, _ => rfl
  | 5, _ => rfl
  | n + 6, hi => omega
theorem refBytes14_c (e : Ev) (ht : EvT ⟨e.g, 14, e.f, e.p, e.ad, e.ch, e.ob, e.n, e.tr⟩) (hok : evOk ⟨e.g, 14, e.f, e.p, e.ad, e.ch, e.ob, e.n, e.tr⟩ = true) (w : World) : Calls Tryd.prog 14 #[evV ⟨e.g, 14, e.f, e.p, e.ad, e.ch, e.ob, e.n, e.tr⟩] w fun x w' => RowBack 5 7 (rowI (bytesL ⟨e.g, 14, e.f, e.p, e.ad, e.ch, e.ob, e.n, e.tr⟩)) none x w w' := by
  refine calls_new tabW_ok Tryd.func14 rfl [.ag [.i .i64 e.g, .n .i64 14, .i .i64 e.f, .i .i64 e.p, .i .u32 e.ad, .i .i64 e.ch, .i .i64 e.ob, .i .i64 e.n, .i .i64 e.tr]] rfl Tryd.ntmps14 rfl 5 7 _ _ (wpx_ok tabW_ok (CI_ok tabW_ok 8) _ ?_) w
  have hs := evOk_site hok
  have hB := evOk_B hok
  have hg : 0 ≤ e.g ∧ e.g ≤ 65535 := hB.g
  have hn : -2147483648 ≤ e.n ∧ e.n ≤ 2147483647 := hB.n
  have ha : 0 ≤ e.ad ∧ e.ad ≤ 4294967295 := ht.ad
  have wg : IntKind.u64.wrap e.g = e.g := wrapU hg.1 (by omega)
  have wa : IntKind.u64.wrap e.ad = e.ad := wrapU ha.1 (by omega)
  conv => whnf
  refine And.intro (by (conv => whnf); rw [wg]; exact ⟨hB.g.1, by omega⟩) ?_
  conv => whnf
  refine And.intro (by (conv => whnf); exact ⟨trivial, oneG_of rfl, by decide, by decide⟩) ?_
  conv => whnf
  refine And.intro (by (conv => whnf); exact hs) ?_
  conv => whnf
  refine And.intro (by (conv => whnf); exact ⟨trivial, oneG_of rfl, by decide, by decide⟩) ?_
  conv => whnf
  refine And.intro (by (conv => whnf); exact ⟨trivial, oneG_of rfl, by decide, by decide⟩) ?_
  conv => whnf
  refine And.intro rfl fun i hi => ?_
  match i, hi with
  | 0, _ => exact byte_leaf (b := b8 14 0) (by decide +kernel)
  | 1, _ => exact byte_leaf (congrArg (b8 · 0) wg)
  | 2, _ => exact byte_leaf (congrArg (b8 · 1) wg)
  | 3, _ => rfl
  | 4, _ => rfl
  | 5, _ => rfl
  | 6, _ => exact byte_leaf (b8_wrap e.tr)
  | n + 7, hi => omega
theorem refBytes_c (e : Ev) (ht : EvT e) (hb : evOk e = true) (w : World) : Calls Tryd.prog 14 #[evV e] w fun x w' => RowBack 5 (bytesL e).length (rowI (bytesL e)) none x w w' := by
  have hk := evOk_k hb
  obtain ⟨g, k, f, p, ad, ch, ob, n, tr⟩ := e
  have hcases : k = 1 ∨ k = 2 ∨ k = 3 ∨ k = 4 ∨ k = 5 ∨ k = 6 ∨ k = 7 ∨ k = 8 ∨ k = 9 ∨ k = 10 ∨ k = 11 ∨ k = 12 ∨ k = 13 ∨ k = 14 := by simp only at hk; omega
  rcases hcases with rfl | rfl | rfl | rfl | rfl | rfl | rfl | rfl | rfl | rfl | rfl | rfl | rfl | rfl
  · exact refBytes1_c ⟨g, 0, f, p, ad, ch, ob, n, tr⟩ ht hb w
  · exact refBytes2_c ⟨g, 0, f, p, ad, ch, ob, n, tr⟩ ht hb w
  · exact refBytes3_c ⟨g, 0, f, p, ad, ch, ob, n, tr⟩ ht hb w
  · exact refBytes4_c ⟨g, 0, f, p, ad, ch, ob, n, tr⟩ ht hb w
  · exact refBytes5_c ⟨g, 0, f, p, ad, ch, ob, n, tr⟩ ht hb w
  · exact refBytes6_c ⟨g, 0, f, p, ad, ch, ob, n, tr⟩ ht hb w
  · exact refBytes7_c ⟨g, 0, f, p, ad, ch, ob, n, tr⟩ ht hb w
  · exact refBytes8_c ⟨g, 0, f, p, ad, ch, ob, n, tr⟩ ht hb w
  · exact refBytes9_c ⟨g, 0, f, p, ad, ch, ob, n, tr⟩ ht hb w
  · exact refBytes10_c ⟨g, 0, f, p, ad, ch, ob, n, tr⟩ ht hb w
  · exact refBytes11_c ⟨g, 0, f, p, ad, ch, ob, n, tr⟩ ht hb w
  · exact refBytes12_c ⟨g, 0, f, p, ad, ch, ob, n, tr⟩ ht hb w
  · exact refBytes13_c ⟨g, 0, f, p, ad, ch, ob, n, tr⟩ ht hb w
  · exact refBytes14_c ⟨g, 0, f, p, ad, ch, ob, n, tr⟩ ht hb w

def sumRefBytes : Sum := fun args H nx => match args with
  | [v] => match evOf v with
    | some e => some (.ob (EvT e ∧ evOk e = true) (.new (.r nx) (.own 5 1 (bytesL e).length (rowS (bytesL e)))))
    | none => none
  | _ => none
theorem sumRefBytes_ok : SumOk1 Tryd.prog 14 sumRefBytes := by
  intro args H nx out ho ρ w xs hH hd hn
  unfold sumRefBytes at ho
  split at ho
  case h_2 => cases ho
  rename_i v
  split at ho
  case h_2 => cases ho
  rename_i e he
  cases ho
  obtain ⟨x, r, rfl, h1, h2⟩ := denL_cons hd
  cases h2
  have := evOf_ok he h1
  subst this
  exact fun ht => (refBytes_c e ht.1 ht.2 w).mono fun x w' hb => hb.eff (v := none) rfl fun i _ => rowS_row _ i
end Go.Proofs.YtiibmnoikgfcbaaDoor
