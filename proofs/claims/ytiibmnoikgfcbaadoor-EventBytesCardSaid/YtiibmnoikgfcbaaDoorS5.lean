/- Sites' bytes, the document's bytes of a number (functions 28, 39, 40). The numbers lie in their widths; the site may be. -/
import Derived.Test.YtiibmnoikgfcbaaDoorS2
namespace Go.Proofs.YtiibmnoikgfcbaaDoor
open Go Go.Sx Go.RowKit
set_option maxRecDepth 100000
set_option maxHeartbeats 400000
set_option linter.unusedVariables false
set_option linter.unusedSimpArgs false

def b8 (x : Int) (i : Nat) : Int := x / 256 ^ i % 256
theorem byte_leaf {a b : Int} (h : a = b) : (some [Value.int .u8 a] : Option (List Value)) = some [Value.int .u8 b] := by rw [h]
theorem site_lt {f p : Int} (h : siteOk f p = true) : 0 ≤ f ∧ f < 32 ∧ 0 ≤ p ∧ p < 512 := by
  simpa [siteOk] using h
theorem wrapU {x : Int} (h0 : 0 ≤ x) (h1 : x < 18446744073709551616) : IntKind.u64.wrap x = x := by
  rw [IntKind.wrap_u64]; omega

def siteG (f p : Int) : Nat → Value
  | 0 => .int .u8 (b8 f 0)
  | 1 => .int .u8 (b8 p 0)
  | _ => .int .u8 (b8 p 1)
noncomputable def tabH : Tab := mkTab tiRows eqL fnsL [] [] 20 [(57, sumFixed), (58, sumSite)]
theorem tabH_ok : TabOk Tryd.prog tabH := mkTab_ok (by kernel_rfl) tiRows_ok eqL_ok fnsL_ok trivial ⟨sumFixed_ok, sumSite_ok, trivial⟩
theorem siteBytes_c (f p : Int) (hok : siteOk f p = true) (w : World) : Calls Tryd.prog 28 #[.agg #[.int .i64 f, .int .i64 p]] w fun x w' => RowBack 5 3 (siteG f p) (some (.int .i64 0)) x w w' := by
  refine calls_new tabH_ok Tryd.func28 rfl [.ag [.i .i64 f, .i .i64 p]] rfl Tryd.ntmps28 rfl 5 3 (siteG f p) _ (wpx_ok tabH_ok (CI_ok tabH_ok 8) _ ?_) w
  have hs := site_lt hok
  have wf := wrapU hs.1 (by omega)
  have wp := wrapU hs.2.2.1 (by omega)
  conv => whnf
  refine And.intro (fun h => ?_) (fun _ => ?_)
  · rw [hok] at h; exact absurd h (by decide)
  conv => whnf
  refine And.intro (by (conv => whnf); rw [wf]; exact ⟨hs.1, by omega⟩) ?_
  conv => whnf
  refine And.intro (by (conv => whnf); rw [wp]; exact ⟨hs.2.2.1, by omega⟩) ?_
  conv => whnf
  refine And.intro (by (conv => whnf); exact ⟨trivial, oneG_of rfl, by decide, by decide⟩) ?_
  conv => whnf
  refine And.intro (And.intro rfl fun i hi => ?_) rfl
  match i, hi with
  | 0, _ => exact byte_leaf (congrArg (b8 · 0) wf)
  | 1, _ => exact byte_leaf (congrArg (b8 · 0) wp)
  | 2, _ => exact byte_leaf (congrArg (b8 · 1) wp)
  | n + 3, hi => omega
noncomputable def inlJ : List (Nat × Func) := [(69, Tryd.f69), (68, Tryd.f68)]
theorem inlJ_ok : inlAll Tryd.prog inlJ := ⟨Tryd.func69, Tryd.func68, trivial⟩
noncomputable def tabJ : Tab := mkTab tiRows eqL fnsL [] inlJ 20 []
theorem tabJ_ok : TabOk Tryd.prog tabJ := mkTab_ok (by kernel_rfl) tiRows_ok eqL_ok fnsL_ok inlJ_ok trivial
theorem quo8 {x : Int} (h0 : 0 ≤ x) (h1 : x < 18446744073709551616) : IntKind.u64.wrap (x.tdiv 256) = x / 256 := by
  rw [IntKind.wrap_u64, Int.tdiv_eq_ediv_of_nonneg h0]; omega
theorem rem8 {x : Int} (h0 : 0 ≤ x) : IntKind.u8.wrap (x.tmod 256) = x % 256 := by
  rw [IntKind.wrap_u8, Int.tmod_eq_emod_of_nonneg h0]; omega
theorem refFixed2_c (z : Int) (h : 0 ≤ z ∧ z < 65536) (w : World) : Calls Tryd.prog 39 #[.int .u64 z, .int .i64 2] w fun x w' => RowBack 5 2 (fun i => .int .u8 (b8 z i)) none x w w' := by
  refine calls_new tabJ_ok Tryd.func39 rfl [.i .u64 z, .n .i64 2] rfl Tryd.ntmps39 rfl 5 2 _ _ (wpx_ok tabJ_ok (CI_ok tabJ_ok 8) _ ?_) w
  have q1 := quo8 (x := z) h.1 (by omega)
  have q2 := quo8 (x := z / 256) (by omega) (by omega)
  have q3 := quo8 (x := z / 256 / 256) (by omega) (by omega)
  have q4 := quo8 (x := z / 256 / 256 / 256) (by omega) (by omega)
  conv => whnf
  refine And.intro (fun hh => ?_) (fun _ => ?_)
  · exfalso
    have hh := of_decide_eq_true hh
    simp only [q1, q2, q3, q4] at hh
    omega
  conv => whnf
  refine And.intro rfl fun i hi => ?_
  match i, hi with
  | 0, _ =>
    refine byte_leaf (a := IntKind.u8.wrap (Int.tmod z 256)) ?_
    try simp only [q1, q2, q3, q4]
    rw [rem8 (by omega)]
    simp only [b8]
    omega
  | 1, _ =>
    refine byte_leaf (a := IntKind.u8.wrap (Int.tmod (IntKind.u64.wrap (Int.tdiv z 256)) 256)) ?_
    try simp only [q1, q2, q3, q4]
    rw [rem8 (by omega)]
    simp only [b8]
    omega
  | n + 2, hi => omega
theorem refFixed4_c (z : Int) (h : 0 ≤ z ∧ z < 4294967296) (w : World) : Calls Tryd.prog 39 #[.int .u64 z, .int .i64 4] w fun x w' => RowBack 5 4 (fun i => .int .u8 (b8 z i)) none x w w' := by
  refine calls_new tabJ_ok Tryd.func39 rfl [.i .u64 z, .n .i64 4] rfl Tryd.ntmps39 rfl 5 4 _ _ (wpx_ok tabJ_ok (CI_ok tabJ_ok 8) _ ?_) w
  have q1 := quo8 (x := z) h.1 (by omega)
  have q2 := quo8 (x := z / 256) (by omega) (by omega)
  have q3 := quo8 (x := z / 256 / 256) (by omega) (by omega)
  have q4 := quo8 (x := z / 256 / 256 / 256) (by omega) (by omega)
  conv => whnf
  refine And.intro (fun hh => ?_) (fun _ => ?_)
  · exfalso
    have hh := of_decide_eq_true hh
    simp only [q1, q2, q3, q4] at hh
    omega
  conv => whnf
  refine And.intro rfl fun i hi => ?_
  match i, hi with
  | 0, _ =>
    refine byte_leaf (a := IntKind.u8.wrap (Int.tmod z 256)) ?_
    try simp only [q1, q2, q3, q4]
    rw [rem8 (by omega)]
    simp only [b8]
    omega
  | 1, _ =>
    refine byte_leaf (a := IntKind.u8.wrap (Int.tmod (IntKind.u64.wrap (Int.tdiv z 256)) 256)) ?_
    try simp only [q1, q2, q3, q4]
    rw [rem8 (by omega)]
    simp only [b8]
    omega
  | 2, _ =>
    refine byte_leaf (a := IntKind.u8.wrap (Int.tmod (IntKind.u64.wrap (Int.tdiv (IntKind.u64.wrap (Int.tdiv z 256)) 256)) 256)) ?_
    try simp only [q1, q2, q3, q4]
    rw [rem8 (by omega)]
    simp only [b8]
    omega
  | 3, _ =>
    refine byte_leaf (a := IntKind.u8.wrap (Int.tmod (IntKind.u64.wrap (Int.tdiv (IntKind.u64.wrap (Int.tdiv (IntKind.u64.wrap (Int.tdiv z 256)) 256)) 256)) 256)) ?_
    try simp only [q1, q2, q3, q4]
    rw [rem8 (by omega)]
    simp only [b8]
    omega
  | n + 4, hi => omega
def sumRefFixed : Sum := fun args H nx => match args with
  | [v, .n .i64 (.ofNat k)] => match intK .u64 v, k with
    | some z, 2 => some (.ob (0 ≤ z ∧ z < 65536) (.new (.r nx) (.own 5 1 2 fun i => [byteS z i])))
    | some z, 4 => some (.ob (0 ≤ z ∧ z < 4294967296) (.new (.r nx) (.own 5 1 4 fun i => [byteS z i])))
    | _, _ => none
  | _ => none
theorem sumRefFixed_ok : SumOk1 Tryd.prog 39 sumRefFixed := by
  intro args H nx out h ρ w xs hH hd hn
  unfold sumRefFixed at h
  split at h
  case h_2 => cases h
  rename_i v k
  obtain ⟨x, r, rfl, h1, h2⟩ := denL_cons hd
  obtain ⟨y, r, rfl, h3, h4⟩ := denL_cons h2
  cases h4
  simp only [den, Option.some.injEq] at h3
  subst h3
  split at h
  case h_3 => cases h
  all_goals
    rename_i z hz
    cases h
    have := intK_ok hz h1
    subst this
    intro hp
  · exact (refFixed2_c z hp w).mono fun e w' hb => hb.eff (v := none) rfl fun i _ => ⟨rfl, rfl⟩
  · exact (refFixed4_c z hp w).mono fun e w' hb => hb.eff (v := none) rfl fun i _ => ⟨rfl, rfl⟩

theorem refSiteBytes_c (f p : Int) (hok : siteOk f p = true) (w : World) : Calls Tryd.prog 40 #[.agg #[.int .i64 f, .int .i64 p]] w fun x w' => RowBack 5 3 (siteG f p) none x w w' := by
  refine calls_new tabJ_ok Tryd.func40 rfl [.ag [.i .i64 f, .i .i64 p]] rfl Tryd.ntmps40 rfl 5 3 (siteG f p) _ (wpx_ok tabJ_ok (CI_ok tabJ_ok 8) _ ?_) w
  have hs := site_lt hok
  have wp := wrapU hs.2.2.1 (by omega)
  have q1 := quo8 (x := p) hs.2.2.1 (by omega)
  have q2 := quo8 (x := p / 256) (by omega) (by omega)
  conv => whnf
  refine And.intro (fun hh => ?_) (fun _ => ?_)
  · exfalso
    have hh := of_decide_eq_true hh
    simp only [wp, q1, q2] at hh
    omega
  conv => whnf
  refine And.intro (by (conv => whnf); exact ⟨trivial, oneG_of rfl, by decide, by decide⟩) ?_
  conv => whnf
  refine And.intro rfl fun i hi => ?_
  match i, hi with
  | 0, _ =>
    refine byte_leaf (a := IntKind.u8.wrap f) (b := b8 f 0) ?_
    rw [IntKind.wrap_u8]; simp only [b8]; omega
  | 1, _ =>
    refine byte_leaf (a := IntKind.u8.wrap (Int.tmod (IntKind.u64.wrap p) 256)) (b := b8 p 0) ?_
    rw [wp, rem8 hs.2.2.1]; simp only [b8]; omega
  | 2, _ =>
    refine byte_leaf (a := IntKind.u8.wrap (Int.tmod (IntKind.u64.wrap (Int.tdiv (IntKind.u64.wrap p) 256)) 256)) (b := b8 p 1) ?_
    rw [wp, q1, rem8 (by omega)]; simp only [b8]; omega
  | n + 3, hi => omega

/-- A summary of sites' bytes. -/
def siteS (f p : Int) : Nat → List SV
  | 0 => [.i .u8 (b8 f 0)]
  | 1 => [.i .u8 (b8 p 0)]
  | _ => [.i .u8 (b8 p 1)]
theorem siteS_row (f p : Int) (i : Nat) : (siteS f p i).length = 1 ∧ denL Vl.none (siteS f p i) = some [siteG f p i] := by
  match i with
  | 0 => exact ⟨rfl, rfl⟩
  | 1 => exact ⟨rfl, rfl⟩
  | n + 2 => exact ⟨rfl, rfl⟩
def sumSiteB (y : Option SV) : Sum := fun args H nx => match args with
  | [.ag [x, z]] => match intK .i64 x, intK .i64 z with
    | some f, some p => some (.ob (siteOk f p = true) (.new (backS y (.r nx)) (.own 5 1 3 (siteS f p))))
    | _, _ => none
  | _ => none
theorem sumSiteB_ok {fn : FuncId} {y : Option SV} {v : Option Value} (hv : y.map shut = v.map some) (hc : ∀ f p, siteOk f p = true → ∀ w, Calls Tryd.prog fn #[.agg #[.int .i64 f, .int .i64 p]] w fun x w' => RowBack 5 3 (siteG f p) v x w w') : SumOk1 Tryd.prog fn (sumSiteB y) := by
  intro args H nx out h ρ w xs hH hd hn
  unfold sumSiteB at h
  split at h
  case h_2 => cases h
  rename_i x z
  split at h
  case h_2 => cases h
  rename_i f p hf hp
  cases h
  obtain ⟨u, r, rfl, h1, h2⟩ := denL_cons hd
  cases h2
  simp only [den] at h1
  cases hxy : denL ρ [x, z] with
  | none => rw [hxy] at h1; cases h1
  | some l =>
    rw [hxy] at h1
    cases h1
    obtain ⟨a, r, rfl, e1, e2⟩ := denL_cons hxy
    obtain ⟨b, r, rfl, e3, e4⟩ := denL_cons e2
    cases e4
    have := intK_ok hf e1
    have := intK_ok hp e3
    subst a b
    intro hok
    exact (hc f p hok w).mono fun e w' hb => hb.eff hv fun i _ => siteS_row f p i
def sumSiteBytes : Sum := sumSiteB (some (.n .i64 0))
theorem sumSiteBytes_ok : SumOk1 Tryd.prog 28 sumSiteBytes := sumSiteB_ok (v := some (.int .i64 0)) rfl siteBytes_c
def sumRefSiteBytes : Sum := sumSiteB none
theorem sumRefSiteBytes_ok : SumOk1 Tryd.prog 40 sumRefSiteBytes := sumSiteB_ok (v := none) rfl refSiteBytes_c
end Go.Proofs.YtiibmnoikgfcbaaDoor
