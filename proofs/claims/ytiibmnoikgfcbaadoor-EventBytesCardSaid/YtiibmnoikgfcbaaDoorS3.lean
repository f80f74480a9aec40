/- Events' texts: the library's and the program's parts. The table of powers stands; the event's parts lie in their types. -/
import Derived.Test.YtiibmnoikgfcbaaDoorS2
import Derived.Lib.ItoaLen
namespace Go.Proofs.YtiibmnoikgfcbaaDoor
open Go Go.Sx Go.RowKit
set_option maxRecDepth 100000
set_option maxHeartbeats 400000
set_option linter.unusedVariables false
set_option linter.unusedSimpArgs false

def mkT (l : List UInt8) : ByteArray := ⟨l.toArray⟩
theorem mkT_append (a b : List UInt8) : mkT a ++ mkT b = mkT (a ++ b) := by
  apply ByteArray.ext
  simp [mkT, ByteArray.data_append]
theorem mkT_size (a : List UInt8) : (mkT a).size = a.length := by simp [mkT, ByteArray.size]
theorem itoaB_mk (z : Int) : itoaB z = mkT (Lib.itoa z) := rfl
theorem itoa_len {z : Int} (h : in64 z) : (Lib.itoa z).length ≤ 21 := Lib.itoa_length_le z h.1 h.2
theorem mk_lit (l : List UInt8) : (⟨l.toArray⟩ : ByteArray) = mkT l := rfl

def siteT (f p : Int) : List UInt8 := 102 :: (Lib.itoa f ++ 58 :: Lib.itoa p)
def tabs (l : List (Nat × Sum)) : List (Nat × Sum) := (45, sumItoa) :: (51, sumFormat) :: (47, sumJoin) :: (57, sumFixed) :: (58, sumSite) :: l
theorem tabs_ok {l : List (Nat × Sum)} (h : sumsAll Tryd.prog l) : sumsAll Tryd.prog (tabs l) := ⟨sumItoa_ok, sumFormat_ok, sumJoin_ok, sumFixed_ok, sumSite_ok, h⟩
noncomputable def tabG : Tab := mkTab tiRows eqL fnsL [] [] 20 (tabs [])
theorem tabG_ok : TabOk Tryd.prog tabG := mkTab_ok (by kernel_rfl) tiRows_ok eqL_ok fnsL_ok trivial (tabs_ok trivial)
theorem ret_s {x : ByteArray} {y : Value} (h : .string x = y) : shut (.s x) = some y := by rw [← h]; rfl

theorem sz_ob {n : Nat} (h : n ≤ 9223372036854775807) : n.le 9223372036854775807 := h
theorem mk_arr (a : Array UInt8) : (⟨a⟩ : ByteArray) = mkT a.toList := rfl
theorem ret_tu2 {u v : SV} {a b : Value} (hu : shut u = some a) (hv : shut v = some b) : shut (.tu [u, v]) = some (.tuple #[a, b]) := by
  simp only [shut] at hu hv ⊢
  simp only [den, denL, hu, hv]
theorem siteText_c (f p : Int) (hf : in64 f) (hp : in64 p) (hok : siteOk f p = true) (w : World) (hA : powA.rep w (.blk 0)) : Calls Tryd.prog 44 #[.agg #[.int .i64 f, .int .i64 p]] w fun x w' => x = .returned (.tuple #[.string (mkT (siteT f p)), .int .i64 0]) ∧ Below w.heap.size w w' := by
  refine calls_tab tabG_ok Tryd.func44 rfl powA [.ag [.i .i64 f, .i .i64 p]] rfl Tryd.ntmps44 rfl _ (wpx_ok tabG_ok (CI_ok tabG_ok 5) _ ?_) w hA
  conv => whnf
  refine And.intro (fun h => ?_) (fun _ => ?_)
  · rw [hok] at h; exact absurd h (by decide)
  conv => whnf
  have lf := itoa_len hf
  have lp := itoa_len hp
  repeat' (refine And.intro (by (conv => whnf); first | exact ⟨rfl, hf⟩ | exact ⟨rfl, hp⟩ | (refine sz_ob ?_; simp [ByteArray.size_append, ByteArray.size, itoaB]; omega)) ?_; (conv => whnf))
  refine ret_tu2 (ret_s (congrArg Value.string ?_)) rfl
  simp [mk_arr, itoaB_mk, mkT_append, siteT]
theorem refSiteText_c (f p : Int) (hf : in64 f) (hp : in64 p) (w : World) (hA : powA.rep w (.blk 0)) : Calls Tryd.prog 48 #[.agg #[.int .i64 f, .int .i64 p]] w fun x w' => x = .returned (.string (mkT (siteT f p))) ∧ Below w.heap.size w w' := by
  refine calls_tab tabG_ok Tryd.func48 rfl powA [.ag [.i .i64 f, .i .i64 p]] rfl Tryd.ntmps48 rfl _ (wpx_ok tabG_ok (CI_ok tabG_ok 5) _ ?_) w hA
  conv => whnf
  have lf := itoa_len hf
  have lp := itoa_len hp
  repeat' (refine And.intro (by (conv => whnf); first | exact ⟨rfl, hf⟩ | exact ⟨rfl, hp⟩ | (refine sz_ob ?_; simp [ByteArray.size_append, ByteArray.size, itoaB]; omega)) ?_; (conv => whnf))
  refine ret_s (congrArg Value.string ?_)
  simp [mk_arr, itoaB_mk, mkT_append, siteT]

/-- A summary of a function that reads the table and is told two whole numbers in a struct. -/
def sumSiteT (g : Int → Int → SV) (q : Int → Int → Prop) : Sum := fun args H _ => match args with
  | [.ag [x, y]] => match intK .i64 x, intK .i64 y, lk 0 H with
    | some f, some p, some (.rd A) => some (.ob (A = powA ∧ in64 f ∧ in64 p ∧ q f p) (.val (g f p)))
    | _, _, _ => none
  | _ => none
theorem sumSiteT_ok {fn : FuncId} {g : Int → Int → SV} {q : Int → Int → Prop} {y : Int → Int → Value} (hg : ∀ f p ρ, den ρ (g f p) = some (y f p)) (hc : ∀ f p, in64 f → in64 p → q f p → ∀ w, powA.rep w (.blk 0) → Calls Tryd.prog fn #[.agg #[.int .i64 f, .int .i64 p]] w fun x w' => x = .returned (y f p) ∧ Below w.heap.size w w') : SumOk1 Tryd.prog fn (sumSiteT g q) := by
  intro args H nx out h ρ w xs hH hd hn
  unfold sumSiteT at h
  split at h
  case h_2 => cases h
  rename_i x y
  split at h
  case h_2 => cases h
  rename_i f p A hf hp hA
  cases h
  obtain ⟨v, r, rfl, h1, h2⟩ := denL_cons hd
  cases h2
  simp only [den] at h1
  cases hxy : denL ρ [x, y] with
  | none => rw [hxy] at h1; cases h1
  | some l =>
    rw [hxy] at h1
    cases h1
    obtain ⟨a, r, rfl, e1, e2⟩ := denL_cons hxy
    obtain ⟨b, r, rfl, e3, e4⟩ := denL_cons e2
    cases e4
    have := intK_ok hf e1
    have := intK_ok hp e3
    subst a b
    rintro ⟨rfl, h1, h2, h3⟩
    obtain ⟨hv, _, htab⟩ := hH 0 _ hA
    exact (hc f p h1 h2 h3 w htab).mono fun e w' ⟨q1, q2⟩ => ⟨_, q1, hg f p ρ, q2⟩
def sumSiteText : Sum := sumSiteT (fun f p => .tu [.s (mkT (siteT f p)), .n .i64 0]) fun f p => siteOk f p = true
theorem sumSiteText_ok : SumOk1 Tryd.prog 44 sumSiteText := sumSiteT_ok (y := fun f p => .tuple #[.string (mkT (siteT f p)), .int .i64 0]) (fun _ _ _ => rfl) fun f p h1 h2 h3 w hA => siteText_c f p h1 h2 h3 w hA
def sumRefSiteText : Sum := sumSiteT (fun f p => .s (mkT (siteT f p))) fun _ _ => True
theorem sumRefSiteText_ok : SumOk1 Tryd.prog 48 sumRefSiteText := sumSiteT_ok (y := fun f p => .string (mkT (siteT f p))) (fun _ _ _ => rfl) fun f p h1 h2 _ w hA => refSiteText_c f p h1 h2 w hA

theorem digits_c (z : Int) (hz : in64 z) (w : World) (hA : powA.rep w (.blk 0)) : Calls Tryd.prog 81 #[.int .i64 z] w fun x w' => x = .returned (.string (itoaB z)) ∧ Below w.heap.size w w' := by
  refine calls_tab tabG_ok Tryd.func81 rfl powA [.i .i64 z] rfl Tryd.ntmps81 rfl _ (wpx_ok tabG_ok (CI_ok tabG_ok 5) _ ?_) w hA
  conv => whnf
  refine And.intro (by (conv => whnf); exact ⟨rfl, hz⟩) ?_
  conv => whnf
  rfl
def sumDigits : Sum := sumItoa
theorem sumDigits_ok : SumOk1 Tryd.prog 81 sumDigits := by
  intro args H nx out h ρ w xs hH hd hn
  unfold sumDigits sumItoa at h
  split at h
  case h_2 => cases h
  rename_i v
  obtain ⟨x, r, rfl, h1, h2⟩ := denL_cons hd
  cases h2
  split at h
  case h_2 => cases h
  rename_i z A hz hA
  cases h
  have := intK_ok hz h1
  subst this
  rintro ⟨rfl, hp⟩
  obtain ⟨hv, _, htab⟩ := hH 0 _ hA
  exact (digits_c z hp w htab).mono fun e w' ⟨h1, h2⟩ => ⟨_, h1, rfl, h2⟩

/-! ### known rows of texts -/
def wordsL : List (List UInt8) := [[], [115, 116, 101, 112], [108, 111, 97, 100], [115, 116, 111, 114, 101], [103, 111], [108, 111, 99, 107], [117, 110, 108, 111, 99, 107], [114, 108, 111, 99, 107], [114, 117, 110, 108, 111, 99, 107], [119, 108, 111, 99, 107], [119, 117, 110, 108, 111, 99, 107], [99, 111, 117, 110, 116], [119, 97, 105, 116], [101, 110, 100], [116, 114, 97, 112]]
def trapsL : List (List UInt8) := [[], [117, 110, 108, 111, 99, 107], [99, 111, 117, 110, 116], [105, 110, 100, 101, 120], [122, 101, 114, 111], [109, 97, 110, 121], [115, 116, 97, 99, 107]]
theorem words_c (w : World) : Calls Tryd.prog 46 #[] w fun x w' => x = .returned (.agg (wordsL.map fun l => .string (mkT l)).toArray) ∧ Below w.heap.size w w' := by
  refine calls_pure tabG_ok Tryd.func46 rfl [] rfl Tryd.ntmps46 rfl _ (wpx_ok tabG_ok (CI_ok tabG_ok 5) _ ?_) w
  conv => whnf
  rfl
theorem traps_c (w : World) : Calls Tryd.prog 56 #[] w fun x w' => x = .returned (.agg (trapsL.map fun l => .string (mkT l)).toArray) ∧ Below w.heap.size w w' := by
  refine calls_pure tabG_ok Tryd.func56 rfl [] rfl Tryd.ntmps56 rfl _ (wpx_ok tabG_ok (CI_ok tabG_ok 5) _ ?_) w
  conv => whnf
  rfl
def sumRow (l : List SV) : Sum := fun args _ _ => match args with
  | [] => some (.val (.ag l))
  | _ => none
theorem sumRow_ok {f : FuncId} {l : List SV} {ys : List Value} (hl : ∀ ρ, denL ρ l = some ys) (hc : ∀ w, Calls Tryd.prog f #[] w fun x w' => x = .returned (.agg ys.toArray) ∧ Below w.heap.size w w') : SumOk1 Tryd.prog f (sumRow l) := by
  intro args H nx out h ρ w xs hH hd hn
  unfold sumRow at h
  split at h
  case h_2 => cases h
  cases h
  cases hd
  exact (hc w).mono fun e w' ⟨q1, q2⟩ => ⟨_, q1, by simp only [den, hl], q2⟩
def wordsS : List SV := [.ls [], .ls [115, 116, 101, 112], .ls [108, 111, 97, 100], .ls [115, 116, 111, 114, 101], .ls [103, 111], .ls [108, 111, 99, 107], .ls [117, 110, 108, 111, 99, 107], .ls [114, 108, 111, 99, 107], .ls [114, 117, 110, 108, 111, 99, 107], .ls [119, 108, 111, 99, 107], .ls [119, 117, 110, 108, 111, 99, 107], .ls [99, 111, 117, 110, 116], .ls [119, 97, 105, 116], .ls [101, 110, 100], .ls [116, 114, 97, 112]]
def trapsS : List SV := [.ls [], .ls [117, 110, 108, 111, 99, 107], .ls [99, 111, 117, 110, 116], .ls [105, 110, 100, 101, 120], .ls [122, 101, 114, 111], .ls [109, 97, 110, 121], .ls [115, 116, 97, 99, 107]]
def sumWords : Sum := sumRow wordsS
def sumTraps : Sum := sumRow trapsS
theorem sumWords_ok : SumOk1 Tryd.prog 46 sumWords := sumRow_ok (ys := wordsL.map fun l => .string (mkT l)) (fun _ => rfl) words_c
theorem sumTraps_ok : SumOk1 Tryd.prog 56 sumTraps := sumRow_ok (ys := trapsL.map fun l => .string (mkT l)) (fun _ => rfl) traps_c
end Go.Proofs.YtiibmnoikgfcbaaDoor
