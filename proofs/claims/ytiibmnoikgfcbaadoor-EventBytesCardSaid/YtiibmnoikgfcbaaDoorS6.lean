/- An event's bytes (functions 9, 14), kind by kind. The event's parts lie in their types. -/
import Derived.Test.YtiibmnoikgfcbaaDoorS4
import Derived.Test.YtiibmnoikgfcbaaDoorS5
namespace Go.Proofs.YtiibmnoikgfcbaaDoor
open Go Go.Sx Go.RowKit
set_option maxRecDepth 100000
set_option maxHeartbeats 1000000
set_option linter.unusedVariables false
set_option linter.unusedSimpArgs false

/-- Bytes: those of kinds, goroutines, sites; those of the parts. -/
def headI (e : Ev) : List Int := [b8 e.k 0, b8 e.g 0, b8 e.g 1, b8 e.f 0, b8 e.p 0, b8 e.p 1]
def partI (e : Ev) : List Int :=
  if e.k = 2 ∨ e.k = 3 then [b8 e.ad 0, b8 e.ad 1, b8 e.ad 2, b8 e.ad 3]
  else if e.k = 4 then [b8 e.ch 0, b8 e.ch 1]
  else if e.k = 11 then [b8 e.ob 0, b8 e.n 0, b8 e.n 1, b8 e.n 2, b8 e.n 3]
  else if 5 ≤ e.k ∧ e.k ≤ 12 then [b8 e.ob 0]
  else if e.k = 14 then [b8 e.tr 0]
  else []
def bytesL (e : Ev) : List Int := headI e ++ partI e
def bytesA (e : Ev) : List Int := bif evOk e then bytesL e else []
def rowI (l : List Int) (i : Nat) : Value := .int .u8 (l.getD i 0)
def rowS (l : List Int) (i : Nat) : List SV := [.i .u8 (l.getD i 0)]

theorem andM (x : Int) (k : Nat) (hk : k ≤ 64) : bitI .and .u64 (IntKind.u64.wrap x) (2 ^ k - 1) = x % 2 ^ k := by
  have h64 : IntKind.u64.bits = 64 := rfl
  have hw : ∀ y : Int, IntKind.u64.wrap y = y % 18446744073709551616 := fun y => IntKind.wrap_u64 y
  simp only [bitI]
  rw [hw, hw]
  have e2 : (2 : Int) ^ k = ((2 ^ k : Nat) : Int) := by push_cast; rfl
  have hp : 0 < 2 ^ k := Nat.two_pow_pos k
  have hle : 2 ^ k ≤ 2 ^ 64 := Nat.pow_le_pow_right (by decide) hk
  have hn : (2 : Int) ^ k - 1 = ((2 ^ k - 1 : Nat) : Int) := by omega
  rw [hn]
  have h1 : (BitVec.ofInt 64 (x % 18446744073709551616) &&& BitVec.ofInt 64 ((2 ^ k - 1 : Nat) : Int)).toNat = (x % 18446744073709551616).toNat % 2 ^ k := by
    rw [BitVec.toNat_and, BitVec.toNat_ofInt, BitVec.toNat_ofInt]
    have a1 : (x % 18446744073709551616 % ((2 ^ 64 : Nat) : Int)).toNat = (x % 18446744073709551616).toNat := by
      congr 1; omega
    have a2 : (((2 ^ k - 1 : Nat) : Int) % ((2 ^ 64 : Nat) : Int)).toNat = 2 ^ k - 1 := by
      rw [Int.emod_eq_of_lt (by omega) (by omega)]; simp
    rw [a1, a2, Nat.and_two_pow_sub_one_eq_mod]
  show ((BitVec.ofInt 64 (x % 18446744073709551616) &&& BitVec.ofInt 64 ((2 ^ k - 1 : Nat) : Int)).toNat : Int) % 18446744073709551616 = _
  rw [h1, e2]
  have h2 : (x % 18446744073709551616).toNat % 2 ^ k < 2 ^ 64 := Nat.lt_of_lt_of_le (Nat.mod_lt _ hp) hle
  rw [Int.emod_eq_of_lt (by omega) (by omega)]
  rw [Int.natCast_emod, Int.toNat_of_nonneg (Int.emod_nonneg _ (by decide))]
  rw [Int.emod_emod_of_dvd]
  rw [← e2]
  exact ⟨2 ^ (64 - k), by rw [← Int.pow_add, show k + (64 - k) = 64 by omega]; rfl⟩
theorem and1 (x : Int) : bitI .and .u64 (IntKind.u64.wrap x) 255 = x % 256 := andM x 8 (by decide)
theorem and2 (x : Int) : bitI .and .u64 (IntKind.u64.wrap x) 65535 = x % 65536 := andM x 16 (by decide)
theorem and4 (x : Int) : bitI .and .u64 (IntKind.u64.wrap x) 4294967295 = x % 4294967296 := andM x 32 (by decide)
theorem ob1 (x : Int) : 0 ≤ bitI .and .u64 (IntKind.u64.wrap x) 255 ∧ bitI .and .u64 (IntKind.u64.wrap x) 255 < 256 := by rw [and1]; omega
theorem ob2 (x : Int) : 0 ≤ bitI .and .u64 (IntKind.u64.wrap x) 65535 ∧ bitI .and .u64 (IntKind.u64.wrap x) 65535 < 65536 := by rw [and2]; omega
theorem ob4 (x : Int) : 0 ≤ bitI .and .u64 (IntKind.u64.wrap x) 4294967295 ∧ bitI .and .u64 (IntKind.u64.wrap x) 4294967295 < 4294967296 := by rw [and4]; omega
theorem lf1 (x : Int) : (some [Value.int .u8 (b8 (bitI .and .u64 (IntKind.u64.wrap x) 255) 0)] : Option (List Value)) = some [Value.int .u8 (b8 x 0)] := byte_leaf (by rw [and1]; simp only [b8]; omega)
theorem lf2 (x : Int) (i : Nat) (hi : i < 2) : (some [Value.int .u8 (b8 (bitI .and .u64 (IntKind.u64.wrap x) 65535) i)] : Option (List Value)) = some [Value.int .u8 (b8 x i)] := byte_leaf (by
  rw [and2]; simp only [b8]
  rcases i with _ | _ | i
  all_goals omega)
theorem lf4 (x : Int) (i : Nat) (hi : i < 4) : (some [Value.int .u8 (b8 (bitI .and .u64 (IntKind.u64.wrap x) 4294967295) i)] : Option (List Value)) = some [Value.int .u8 (b8 x i)] := byte_leaf (by
  rw [and4]; simp only [b8]
  rcases i with _ | _ | _ | _ | i
  all_goals omega)

noncomputable def inlB : List (Nat × Func) := (27, Tryd.f27) :: inlA
theorem inlB_ok : inlAll Tryd.prog inlB := ⟨Tryd.func27, inlA_ok⟩
def sumsB : List (Nat × Sum) := (28, sumSiteBytes) :: sumsT
noncomputable def tabV : Tab := mkTab tiRows eqL fnsL [] inlB 20 sumsB
theorem tabV_ok : TabOk Tryd.prog tabV := mkTab_ok (by kernel_rfl) tiRows_ok eqL_ok fnsL_ok inlB_ok ⟨sumSiteBytes_ok, sumsT_ok⟩

theorem bytes1_c (e : Ev) (ht : EvT ⟨e.g, 1, e.f, e.p, e.ad, e.ch, e.ob, e.n, e.tr⟩) (hok : evOk ⟨e.g, 1, e.f, e.p, e.ad, e.ch, e.ob, e.n, e.tr⟩ = true) (w : World) : Calls Tryd.prog 9 #[evV ⟨e.g, 1, e.f, e.p, e.ad, e.ch, e.ob, e.n, e.tr⟩] w fun x w' => RowBack 5 6 (rowI (bytesL ⟨e.g, 1, e.f, e.p, e.ad, e.ch, e.ob, e.n, e.tr⟩)) (some (.int .i64 0)) x w w' := by
  refine calls_new tabV_ok Tryd.func9 rfl [.ag [.i .i64 e.g, .n .i64 1, .i .i64 e.f, .i .i64 e.p, .i .u32 e.ad, .i .i64 e.ch, .i .i64 e.ob, .i .i64 e.n, .i .i64 e.tr]] rfl Tryd.ntmps9 rfl 5 6 _ _ (wpx_ok tabV_ok (CI_ok tabV_ok 8) _ ?_) w
  have hs := evOk_site hok
  conv => whnf
  refine And.intro ht ?_
  conv => whnf
  refine And.intro (fun h => ?_) (fun _ => ?_)
  · exact absurd h (check_no hok)
  conv => whnf
  refine And.intro (by (conv => whnf); decide +kernel) ?_
  conv => whnf
  refine And.intro (by (conv => whnf); exact ⟨trivial, oneG_of rfl, by decide, by decide⟩) ?_
  conv => whnf
  refine And.intro (by (conv => whnf); exact ob2 e.g) ?_
  conv => whnf
  refine And.intro (by (conv => whnf); exact ⟨trivial, oneG_of rfl, by decide, by decide⟩) ?_
  conv => whnf
  refine And.intro (by (conv => whnf); exact hs) ?_
  conv => whnf
  refine And.intro (by (conv => whnf); exact ⟨trivial, oneG_of rfl, by decide, by decide⟩) ?_
  conv => whnf
  refine And.intro (And.intro rfl fun i hi => ?_) rfl
  match i, hi with
  | 0, _ => exact byte_leaf (b := b8 1 0) (by decide +kernel)
  | 1, _ => exact lf2 e.g 0 (by decide)
  | 2, _ => exact lf2 e.g 1 (by decide)
  | 3, _ => exact rfl
  | 4, _ => exact rfl
  | 5, _ => exact rfl
  | n + 6, hi => omega

theorem bytes2_c (e : Ev) (ht : EvT ⟨e.g, 2, e.f, e.p, e.ad, e.ch, e.ob, e.n, e.tr⟩) (hok : evOk ⟨e.g, 2, e.f, e.p, e.ad, e.ch, e.ob, e.n, e.tr⟩ = true) (w : World) : Calls Tryd.prog 9 #[evV ⟨e.g, 2, e.f, e.p, e.ad, e.ch, e.ob, e.n, e.tr⟩] w fun x w' => RowBack 5 10 (rowI (bytesL ⟨e.g, 2, e.f, e.p, e.ad, e.ch, e.ob, e.n, e.tr⟩)) (some (.int .i64 0)) x w w' := by
  refine calls_new tabV_ok Tryd.func9 rfl [.ag [.i .i64 e.g, .n .i64 2, .i .i64 e.f, .i .i64 e.p, .i .u32 e.ad, .i .i64 e.ch, .i .i64 e.ob, .i .i64 e.n, .i .i64 e.tr]] rfl Tryd.ntmps9 rfl 5 10 _ _ (wpx_ok tabV_ok (CI_ok tabV_ok 8) _ ?_) w
  have hs := evOk_site hok
  conv => whnf
  refine And.intro ht ?_
  conv => whnf
  refine And.intro (fun h => ?_) (fun _ => ?_)
  · exact absurd h (check_no hok)
  conv => whnf
  refine And.intro (by (conv => whnf); decide +kernel) ?_
  conv => whnf
  refine And.intro (by (conv => whnf); exact ⟨trivial, oneG_of rfl, by decide, by decide⟩) ?_
  conv => whnf
  refine And.intro (by (conv => whnf); exact ob2 e.g) ?_
  conv => whnf
  refine And.intro (by (conv => whnf); exact ⟨trivial, oneG_of rfl, by decide, by decide⟩) ?_
  conv => whnf
  refine And.intro (by (conv => whnf); exact hs) ?_
  conv => whnf
  refine And.intro (by (conv => whnf); exact ⟨trivial, oneG_of rfl, by decide, by decide⟩) ?_
  conv => whnf
  refine And.intro (by (conv => whnf); exact ht.ad) ?_
  conv => whnf
  refine And.intro (by (conv => whnf); exact ob4 e.ad) ?_
  conv => whnf
  refine And.intro (by (conv => whnf); exact ⟨trivial, oneG_of rfl, by decide, by decide⟩) ?_
  conv => whnf
  refine And.intro (And.intro rfl fun i hi => ?_) rfl
  match i, hi with
  | 0, _ => exact byte_leaf (b := b8 2 0) (by decide +kernel)
  | 1, _ => exact lf2 e.g 0 (by decide)
  | 2, _ => exact lf2 e.g 1 (by decide)
  | 3, _ => exact rfl
  | 4, _ => exact rfl
  | 5, _ => exact rfl
  | 6, _ => exact lf4 e.ad 0 (by decide)
  | 7, _ => exact lf4 e.ad 1 (by decide)
  | 8, _ => exact lf4 e.ad 2 (by decide)
  | 9, _ => exact lf4 e.ad 3 (by decide)
  | n + 10, hi => omega

theorem bytes3_c (e : Ev) (ht : EvT ⟨e.g, 3, e.f, e.p, e.ad, e.ch, e.ob, e.n, e.tr⟩) (hok : evOk ⟨e.g, 3, e.f, e.p, e.ad, e.ch, e.ob, e.n, e.tr⟩ = true) (w : World) : Calls Tryd.prog 9 #[evV ⟨e.g, 3, e.f, e.p, e.ad, e.ch, e.ob, e.n, e.tr⟩] w fun x w' => RowBack 5 10 (rowI (bytesL ⟨e.g, 3, e.f, e.p, e.ad, e.ch, e.ob, e.n, e.tr⟩)) (some (.int .i64 0)) x w w' := by
  refine calls_new tabV_ok Tryd.func9 rfl [.ag [.i .i64 e.g, .n .i64 3, .i .i64 e.f, .i .i64 e.p, .i .u32 e.ad, .i .i64 e.ch, .i .i64 e.ob, .i .i64 e.n, .i .i64 e.tr]] rfl Tryd.ntmps9 rfl 5 10 _ _ (wpx_ok tabV_ok (CI_ok tabV_ok 8) _ ?_) w
  have hs := evOk_site hok
  conv => whnf
  refine And.intro ht ?_
  conv => whnf
  refine And.intro (fun h => ?_) (fun _ => ?_)
  · exact absurd h (check_no hok)
  conv => whnf
  refine And.intro (by (conv => whnf); decide +kernel) ?_
  conv => whnf
  refine And.intro (by (conv => whnf); exact ⟨trivial, oneG_of rfl, by decide, by decide⟩) ?_
  conv => whnf
  refine And.intro (by (conv => whnf); exact ob2 e.g) ?_
  conv => whnf
  refine And.intro (by (conv => whnf); exact ⟨trivial, oneG_of rfl, by decide, by decide⟩) ?_
  conv => whnf
  refine And.intro (by (conv => whnf); exact hs) ?_
  conv => whnf
  refine And.intro (by (conv => whnf); exact ⟨trivial, oneG_of rfl, by decide, by decide⟩) ?_
  conv => whnf
  refine And.intro (by (conv => whnf); exact ht.ad) ?_
  conv => whnf
  refine And.intro (by (conv => whnf); exact ob4 e.ad) ?_
  conv => whnf
  refine And.intro (by (conv => whnf); exact ⟨trivial, oneG_of rfl, by decide, by decide⟩) ?_
  conv => whnf
  refine And.intro (And.intro rfl fun i hi => ?_) rfl
  match i, hi with
  | 0, _ => exact byte_leaf (b := b8 3 0) (by decide +kernel)
  | 1, _ => exact lf2 e.g 0 (by decide)
  | 2, _ => exact lf2 e.g 1 (by decide)
  | 3, _ => exact rfl
  | 4, _ => exact rfl
  | 5, _ => exact rfl
  | 6, _ => exact lf4 e.ad 0 (by decide)
  | 7, _ => exact lf4 e.ad 1 (by decide)
  | 8, _ => exact lf4 e.ad 2 (by decide)
  | 9, _ => exact lf4 e.ad 3 (by decide)
  | n + 10, hi => omega

theorem bytes4_c (e : Ev) (ht : EvT ⟨e.g, 4, e.f, e.p, e.ad, e.ch, e.ob, e.n, e.tr⟩) (hok : evOk ⟨e.g, 4, e.f, e.p, e.ad, e.ch, e.ob, e.n, e.tr⟩ = true) (w : World) : Calls Tryd.prog 9 #[evV ⟨e.g, 4, e.f, e.p, e.ad, e.ch, e.ob, e.n, e.tr⟩] w fun x w' => RowBack 5 8 (rowI (bytesL ⟨e.g, 4, e.f, e.p, e.ad, e.ch, e.ob, e.n, e.tr⟩)) (some (.int .i64 0)) x w w' := by
  refine calls_new tabV_ok Tryd.func9 rfl [.ag [.i .i64 e.g, .n .i64 4, .i .i64 e.f, .i .i64 e.p, .i .u32 e.ad, .i .i64 e.ch, .i .i64 e.ob, .i .i64 e.n, .i .i64 e.tr]] rfl Tryd.ntmps9 rfl 5 8 _ _ (wpx_ok tabV_ok (CI_ok tabV_ok 8) _ ?_) w
  have hs := evOk_site hok
  conv => whnf
  refine And.intro ht ?_
  conv => whnf
  refine And.intro (fun h => ?_) (fun _ => ?_)
  · exact absurd h (check_no hok)
  conv => whnf
  refine And.intro (by (conv => whnf); decide +kernel) ?_
  conv => whnf
  refine And.intro (by (conv => whnf); exact ⟨trivial, oneG_of rfl, by decide, by decide⟩) ?_
  conv => whnf
  refine And.intro (by (conv => whnf); exact ob2 e.g) ?_
  conv => whnf
  refine And.intro (by (conv => whnf); exact ⟨trivial, oneG_of rfl, by decide, by decide⟩) ?_
  conv => whnf
  refine And.intro (by (conv => whnf); exact hs) ?_
  conv => whnf
  refine And.intro (by (conv => whnf); exact ⟨trivial, oneG_of rfl, by decide, by decide⟩) ?_
  conv => whnf
  refine And.intro (by (conv => whnf); exact ht.ad) ?_
  conv => whnf
  refine And.intro (by (conv => whnf); exact ob2 e.ch) ?_
  conv => whnf
  refine And.intro (by (conv => whnf); exact ⟨trivial, oneG_of rfl, by decide, by decide⟩) ?_
  conv => whnf
  refine And.intro (And.intro rfl fun i hi => ?_) rfl
  match i, hi with
  | 0, _ => exact byte_leaf (b := b8 4 0) (by decide +kernel)
  | 1, _ => exact lf2 e.g 0 (by decide)
  | 2, _ => exact lf2 e.g 1 (by decide)
  | 3, _ => exact rfl
  | 4, _ => exact rfl
  | 5, _ => exact rfl
  | 6, _ => exact lf2 e.ch 0 (by decide)
  | 7, _ => exact lf2 e.ch 1 (by decide)
  | n + 8, hi => omega

theorem bytes5_c (e : Ev) (ht : EvT ⟨e.g, 5, e.f, e.p, e.ad, e.ch, e.ob, e.n, e.tr⟩) (hok : evOk ⟨e.g, 5, e.f, e.p, e.ad, e.ch, e.ob, e.n, e.tr⟩ = true) (w : World) : Calls Tryd.prog 9 #[evV ⟨e.g, 5, e.f, e.p, e.ad, e.ch, e.ob, e.n, e.tr⟩] w fun x w' => RowBack 5 7 (rowI (bytesL ⟨e.g, 5, e.f, e.p, e.ad, e.ch, e.ob, e.n, e.tr⟩)) (some (.int .i64 0)) x w w' := by
  refine calls_new tabV_ok Tryd.func9 rfl [.ag [.i .i64 e.g, .n .i64 5, .i .i64 e.f, .i .i64 e.p, .i .u32 e.ad, .i .i64 e.ch, .i .i64 e.ob, .i .i64 e.n, .i .i64 e.tr]] rfl Tryd.ntmps9 rfl 5 7 _ _ (wpx_ok tabV_ok (CI_ok tabV_ok 8) _ ?_) w
  have hs := evOk_site hok
  conv => whnf
  refine And.intro ht ?_
  conv => whnf
  refine And.intro (fun h => ?_) (fun _ => ?_)
  · exact absurd h (check_no hok)
  conv => whnf
  refine And.intro (by (conv => whnf); decide +kernel) ?_
  conv => whnf
  refine And.intro (by (conv => whnf); exact ⟨trivial, oneG_of rfl, by decide, by decide⟩) ?_
  conv => whnf
  refine And.intro (by (conv => whnf); exact ob2 e.g) ?_
  conv => whnf
  refine And.intro (by (conv => whnf); exact ⟨trivial, oneG_of rfl, by decide, by decide⟩) ?_
  conv => whnf
  refine And.intro (by (conv => whnf); exact hs) ?_
  conv => whnf
  refine And.intro (by (conv => whnf); exact ⟨trivial, oneG_of rfl, by decide, by decide⟩) ?_
  conv => whnf
  refine And.intro (by (conv => whnf); exact ht.ad) ?_
  conv => whnf
  refine And.intro (by (conv => whnf); exact ob1 e.ob) ?_
  conv => whnf
  refine And.intro (by (conv => whnf); exact ⟨trivial, oneG_of rfl, by decide, by decide⟩) ?_
  conv => whnf
  refine And.intro (And.intro rfl fun i hi => ?_) rfl
  match i, hi with
  | 0, _ => exact byte_leaf (b := b8 5 0) (by decide +kernel)
  | 1, _ => exact lf2 e.g 0 (by decide)
  | 2, _ => exact lf2 e.g 1 (by decide)
  | 3, _ => exact rfl
  | 4, _ => exact rfl
  | 5, _ => exact rfl
  | 6, _ => exact lf1 e.ob
  | n + 7, hi => omega

theorem bytes6_c (e : Ev) (ht : EvT ⟨e.g, 6, e.f, e.p, e.ad, e.ch, e.ob, e.n, e.tr⟩) (hok : evOk ⟨e.g, 6, e.f, e.p, e.ad, e.ch, e.ob, e.n, e.tr⟩ = true) (w : World) : Calls Tryd.prog 9 #[evV ⟨e.g, 6, e.f, e.p, e.ad, e.ch, e.ob, e.n, e.tr⟩] w fun x w' => RowBack 5 7 (rowI (bytesL ⟨e.g, 6, e.f, e.p, e.ad, e.ch, e.ob, e.n, e.tr⟩)) (some (.int .i64 0)) x w w' := by
  refine calls_new tabV_ok Tryd.func9 rfl [.ag [.i .i64 e.g, .n .i64 6, .i .i64 e.f, .i .i64 e.p, .i .u32 e.ad, .i .i64 e.ch, .i .i64 e.ob, .i .i64 e.n, .i .i64 e.tr]] rfl Tryd.ntmps9 rfl 5 7 _ _ (wpx_ok tabV_ok (CI_ok tabV_ok 8) _ ?_) w
  have hs := evOk_site hok
  conv => whnf
  refine And.intro ht ?_
  conv => whnf
  refine And.intro (fun h => ?_) (fun _ => ?_)
  · exact absurd h (check_no hok)
  conv => whnf
  refine And.intro (by (conv => whnf); decide +kernel) ?_
  conv => whnf
  refine And.intro (by (conv => whnf); exact ⟨trivial, oneG_of rfl, by decide, by decide⟩) ?_
  conv => whnf
  refine And.intro (by (conv => whnf); exact ob2 e.g) ?_
  conv => whnf
  refine And.intro (by (conv => whnf); exact ⟨trivial, oneG_of rfl, by decide, by decide⟩) ?_
  conv => whnf
  refine And.intro (by (conv => whnf); exact hs) ?_
  conv => whnf
  refine And.intro (by (conv => whnf); exact ⟨trivial, oneG_of rfl, by decide, by decide⟩) ?_
  conv => whnf
  refine And.intro (by (conv => whnf); exact ht.ad) ?_
  conv => whnf
  refine And.intro (by (conv => whnf); exact ob1 e.ob) ?_
  conv => whnf
  refine And.intro (by (conv => whnf); exact ⟨trivial, oneG_of rfl, by decide, by decide⟩) ?_
  conv => whnf
  refine And.intro (And.intro rfl fun i hi => ?_) rfl
  match i, hi with
  | 0, _ => exact byte_leaf (b := b8 6 0) (by decide +kernel)
  | 1, _ => exact lf2 e.g 0 (by decide)
  | 2, _ => exact lf2 e.g 1 (by decide)
  | 3, _ => exact rfl
  | 4, _ => exact rfl
  | 5, _ => exact rfl
  | 6, _ => exact lf1 e.ob
  | n + 7, hi => omega

theorem bytes7_c (e : Ev) (ht : EvT ⟨e.g, 7, e.f, e.p, e.ad, e.ch, e.ob, e.n, e.tr⟩) (hok : evOk ⟨e.g, 7, e.f, e.p, e.ad, e.ch, e.ob, e.n, e.tr⟩ = true) (w : World) : Calls Tryd.prog 9 #[evV ⟨e.g, 7, e.f, e.p, e.ad, e.ch, e.ob, e.n, e.tr⟩] w fun x w' => RowBack 5 7 (rowI (bytesL ⟨e.g, 7, e.f, e.p, e.ad, e.ch, e.ob, e.n, e.tr⟩)) (some (.int .i64 0)) x w w' := by
  refine calls_new tabV_ok Tryd.func9 rfl [.ag [.i .i64 e.g, .n .i64 7, .i .i64 e.f, .i .i64 e.p, .i .u32 e.ad, .i .i64 e.ch, .i .i64 e.ob, .i .i64 e.n, .i .i64 e.tr]] rfl Tryd.ntmps9 rfl 5 7 _ _ (wpx_ok tabV_ok (CI_ok tabV_ok 8) _ ?_) w
  have hs := evOk_site hok
  conv => whnf
  refine And.intro ht ?_
  conv => whnf
  refine And.intro (fun h => ?_) (fun _ => ?_)
  · exact absurd h (check_no hok)
  conv => whnf
  refine And.intro (by (conv => whnf); decide +kernel) ?_
  conv => whnf
  refine And.intro (by (conv => whnf); exact ⟨trivial, oneG_of rfl, by decide, by decide⟩) ?_
  conv => whnf
  refine And.intro (by (conv => whnf); exact ob2 e.g) ?_
  conv => whnf
  refine And.intro (by (conv => whnf); exact ⟨trivial, oneG_of rfl, by decide, by decide⟩) ?_
  conv => whnf
  refine And.intro (by (conv => whnf); exact hs) ?_
  conv => whnf
  refine And.intro (by (conv => whnf); exact ⟨trivial, oneG_of rfl, by decide, by decide⟩) ?_
  conv => whnf
  refine And.intro (by (conv => whnf); exact ht.ad) ?_
  conv => whnf
  refine And.intro (by (conv => whnf); exact ob1 e.ob) ?_
  conv => whnf
  refine And.intro (by (conv => whnf); exact ⟨trivial, oneG_of rfl, by decide, by decide⟩) ?_
  conv => whnf
  refine And.intro (And.intro rfl fun i hi => ?_) rfl
  match i, hi with
  | 0, _ => exact byte_leaf (b := b8 7 0) (by decide +kernel)
  | 1, _ => exact lf2 e.g 0 (by decide)
  | 2, _ => exact lf2 e.g 1 (by decide)
  | 3, _ => exact rfl
  | 4, _ => exact rfl
  | 5, _ => exact rfl
  | 6, _ => exact lf1 e.ob
  | n + 7, hi => omega

theorem bytes8_c (e : Ev) (ht : EvT ⟨e.g, 8, e.f, e.p, e.ad, e.ch, e.ob, e.n, e.tr⟩) (hok : evOk ⟨e.g, 8, e.f, e.p, e.ad, e.ch, e.ob, e.n, e.tr⟩ = true) (w : World) : Calls Tryd.prog 9 #[evV ⟨e.g, 8, e.f, e.p, e.ad, e.ch, e.ob, e.n, e.tr⟩] w fun x w' => RowBack 5 7 (rowI (bytesL ⟨e.g, 8, e.f, e.p, e.ad, e.ch, e.ob, e.n, e.tr⟩)) (some (.int .i64 0)) x w w' := by
  refine calls_new tabV_ok Tryd.func9 rfl [.ag [.i .i64 e.g, .n .i64 8, .i .i64 e.f, .i .i64 e.p, .i .u32 e.ad, .i .i64 e.ch, .i .i64 e.ob, .i .i64 e.n, .i .i64 e.tr]] rfl Tryd.ntmps9 rfl 5 7 _ _ (wpx_ok tabV_ok (CI_ok tabV_ok 8) _ ?_) w
  have hs := evOk_site hok
  conv => whnf
  refine And.intro ht ?_
  conv => whnf
  refine And.intro (fun h => ?_) (fun _ => ?_)
  · exact absurd h (check_no hok)
  conv => whnf
  refine And.intro (by (conv => whnf); decide +kernel) ?_
  conv => whnf
  refine And.intro (by (conv => whnf); exact ⟨trivial, oneG_of rfl, by decide, by decide⟩) ?_
  conv => whnf
  refine And.intro (by (conv => whnf); exact ob2 e.g) ?_
  conv => whnf
  refine And.intro (by (conv => whnf); exact ⟨trivial, oneG_of rfl, by decide, by decide⟩) ?_
  conv => whnf
  refine And.intro (by (conv => whnf); exact hs) ?_
  conv => whnf
  refine And.intro (by (conv => whnf); exact ⟨trivial, oneG_of rfl, by decide, by decide⟩) ?_
  conv => whnf
  refine And.intro (by (conv => whnf); exact ht.ad) ?_
  conv => whnf
  refine And.intro (by (conv => whnf); exact ob1 e.ob) ?_
  conv => whnf
  refine And.intro (by (conv => whnf); exact ⟨trivial, oneG_of rfl, by decide, by decide⟩) ?_
  conv => whnf
  refine And.intro (And.intro rfl fun i hi => ?_) rfl
  match i, hi with
  | 0, _ => exact byte_leaf (b := b8 8 0) (by decide +kernel)
  | 1, _ => exact lf2 e.g 0 (by decide)
  | 2, _ => exact lf2 e.g 1 (by decide)
  | 3, _ => exact rfl
  | 4, _ => exact rfl
  | 5, _ => exact rfl
  | 6, _ => exact lf1 e.ob
  | n + 7, hi => omega

theorem bytes9_c (e : Ev) (ht : EvT ⟨e.g, 9, e.f, e.p, e.ad, e.ch, e.ob, e.n, e.tr⟩) (hok : evOk ⟨e.g, 9, e.f, e.p, e.ad, e.ch, e.ob, e.n, e.tr⟩ = true) (w : World) : Calls Tryd.prog 9 #[evV ⟨e.g, 9, e.f, e.p, e.ad, e.ch, e.ob, e.n, e.tr⟩] w fun x w' => RowBack 5 7 (rowI (bytesL ⟨e.g, 9, e.f, e.p, e.ad, e.ch, e.ob, e.n, e.tr⟩)) (some (.int .i64 0)) x w w' := by
  refine calls_new tabV_ok Tryd.func9 rfl [.ag [.i .i64 e.g, .n .i64 9, .i .i64 e.f, .i .i64 e.p, .i .u32 e.ad, .i .i64 e.ch, .i .i64 e.ob, .i .i64 e.n, .i .i64 e.tr]] rfl Tryd.ntmps9 rfl 5 7 _ _ (wpx_ok tabV_ok (CI_ok tabV_ok 8) _ ?_) w
  have hs := evOk_site hok
  conv => whnf
  refine And.intro ht ?_
  conv => whnf
  refine And.intro (fun h => ?_) (fun _ => ?_)
  · exact absurd h (check_no hok)
  conv => whnf
  refine And.intro (by (conv => whnf); decide +kernel) ?_
  conv => whnf
  refine And.intro (by (conv => whnf); exact ⟨trivial, oneG_of rfl, by decide, by decide⟩) ?_
  conv => whnf
  refine And.intro (by (conv => whnf); exact ob2 e.g) ?_
  conv => whnf
  refine And.intro (by (conv => whnf); exact ⟨trivial, oneG_of rfl, by decide, by decide⟩) ?_
  conv => whnf
  refine And.intro (by (conv => whnf); exact hs) ?_
  conv => whnf
  refine And.intro (by (conv => whnf); exact ⟨trivial, oneG_of rfl, by decide, by decide⟩) ?_
  conv => whnf
  refine And.intro (by (conv => whnf); exact ht.ad) ?_
  conv => whnf
  refine And.intro (by (conv => whnf); exact ob1 e.ob) ?_
  conv => whnf
  refine And.intro (by (conv => whnf); exact ⟨trivial, oneG_of rfl, by decide, by decide⟩) ?_
  conv => whnf
  refine And.intro (And.intro rfl fun i hi => ?_) rfl
  match i, hi with
  | 0, _ => exact byte_leaf (b := b8 9 0) (by decide +kernel)
  | 1, _ => exact lf2 e.g 0 (by decide)
  | 2, _ => exact lf2 e.g 1 (by decide)
  | 3, _ => exact rfl
  | 4, _ => exact rfl
  | 5, _ => exact rfl
  | 6, _ => exact lf1 e.ob
  | n + 7, hi => omega

theorem bytes10_c (e : Ev) (ht : EvT ⟨e.g, 10, e.f, e.p, e.ad, e.ch, e.ob, e.n, e.tr⟩) (hok : evOk ⟨e.g, 10, e.f, e.p, e.ad, e.ch, e.ob, e.n, e.tr⟩ = true) (w : World) : Calls Tryd.prog 9 #[evV ⟨e.g, 10, e.f, e.p, e.ad, e.ch, e.ob, e.n, e.tr⟩] w fun x w' => RowBack 5 7 (rowI (bytesL ⟨e.g, 10, e.f, e.p, e.ad, e.ch, e.ob, e.n, e.tr⟩)) (some (.int .i64 0)) x w w' := by
  refine calls_new tabV_ok Tryd.func9 rfl [.ag [.i .i64 e.g, .n .i64 10, .i .i64 e.f, .i .i64 e.p, .i .u32 e.ad, .i .i64 e.ch, .i .i64 e.ob, .i .i64 e.n, .i .i64 e.tr]] rfl Tryd.ntmps9 rfl 5 7 _ _ (wpx_ok tabV_ok (CI_ok tabV_ok 8) _ ?_) w
  have hs := evOk_site hok
  conv => whnf
  refine And.intro ht ?_
  conv => whnf
  refine And.intro (fun h => ?_) (fun _ => ?_)
  · exact absurd h (check_no hok)
  conv => whnf
  refine And.intro (by (conv => whnf); decide +kernel) ?_
  conv => whnf
  refine And.intro (by (conv => whnf); exact ⟨trivial, oneG_of rfl, by decide, by decide⟩) ?_
  conv => whnf
  refine And.intro (by (conv => whnf); exact ob2 e.g) ?_
  conv => whnf
  refine And.intro (by (conv => whnf); exact ⟨trivial, oneG_of rfl, by decide, by decide⟩) ?_
  conv => whnf
  refine And.intro (by (conv => whnf); exact hs) ?_
  conv => whnf
  refine And.intro (by (conv => whnf); exact ⟨trivial, oneG_of rfl, by decide, by decide⟩) ?_
  conv => whnf
  refine And.intro (by (conv => whnf); exact ht.ad) ?_
  conv => whnf
  refine And.intro (by (conv => whnf); exact ob1 e.ob) ?_
  conv => whnf
  refine And.intro (by (conv => whnf); exact ⟨trivial, oneG_of rfl, by decide, by decide⟩) ?_
  conv => whnf
  refine And.intro (And.intro rfl fun i hi => ?_) rfl
  match i, hi with
  | 0, _ => exact byte_leaf (b := b8 10 0) (by decide +kernel)
  | 1, _ => exact lf2 e.g 0 (by decide)
  | 2, _ => exact lf2 e.g 1 (by decide)
  | 3, _ => exact rfl
  | 4, _ => exact rfl
  | 5, _ => exact rfl
  | 6, _ => exact lf1 e.ob
  | n + 7, hi => omega

theorem bytes11_c (e : Ev) (ht : EvT ⟨e.g, 11, e.f, e.p, e.ad, e.ch, e.ob, e.n, e.tr⟩) (hok : evOk ⟨e.g, 11, e.f, e.p, e.ad, e.ch, e.ob, e.n, e.tr⟩ = true) (w : World) : Calls Tryd.prog 9 #[evV ⟨e.g, 11, e.f, e.p, e.ad, e.ch, e.ob, e.n, e.tr⟩] w fun x w' => RowBack 5 11 (rowI (bytesL ⟨e.g, 11, e.f, e.p, e.ad, e.ch, e.ob, e.n, e.tr⟩)) (some (.int .i64 0)) x w w' := by
  refine calls_new tabV_ok Tryd.func9 rfl [.ag [.i .i64 e.g, .n .i64 11, .i .i64 e.f, .i .i64 e.p, .i .u32 e.ad, .i .i64 e.ch, .i .i64 e.ob, .i .i64 e.n, .i .i64 e.tr]] rfl Tryd.ntmps9 rfl 5 11 _ _ (wpx_ok tabV_ok (CI_ok tabV_ok 8) _ ?_) w
  have hs := evOk_site hok
  conv => whnf
  refine And.intro ht ?_
  conv => whnf
  refine And.intro (fun h => ?_) (fun _ => ?_)
  · exact absurd h (check_no hok)
  conv => whnf
  refine And.intro (by (conv => whnf); decide +kernel) ?_
  conv => whnf
  refine And.intro (by (conv => whnf); exact ⟨trivial, oneG_of rfl, by decide, by decide⟩) ?_
  conv => whnf
  refine And.intro (by (conv => whnf); exact ob2 e.g) ?_
  conv => whnf
  refine And.intro (by (conv => whnf); exact ⟨trivial, oneG_of rfl, by decide, by decide⟩) ?_
  conv => whnf
  refine And.intro (by (conv => whnf); exact hs) ?_
  conv => whnf
  refine And.intro (by (conv => whnf); exact ⟨trivial, oneG_of rfl, by decide, by decide⟩) ?_
  conv => whnf
  refine And.intro (by (conv => whnf); exact ht.ad) ?_
  conv => whnf
  refine And.intro (by (conv => whnf); exact ob1 e.ob) ?_
  conv => whnf
  refine And.intro (by (conv => whnf); exact ⟨trivial, oneG_of rfl, by decide, by decide⟩) ?_
  conv => whnf
  refine And.intro (by (conv => whnf); exact ht.ad) ?_
  conv => whnf
  refine And.intro (by (conv => whnf); exact ob4 e.n) ?_
  conv => whnf
  refine And.intro (by (conv => whnf); exact ⟨trivial, oneG_of rfl, by decide, by decide⟩) ?_
  conv => whnf
  refine And.intro (And.intro rfl fun i hi => ?_) rfl
  match i, hi with
  | 0, _ => exact byte_leaf (b := b8 11 0) (by decide +kernel)
  | 1, _ => exact lf2 e.g 0 (by decide)
  | 2, _ => exact lf2 e.g 1 (by decide)
  | 3, _ => exact rfl
  | 4, _ => exact rfl
  | 5, _ => exact rfl
  | 6, _ => exact lf1 e.ob
  | 7, _ => exact lf4 e.n 0 (by decide)
  | 8, _ => exact lf4 e.n 1 (by decide)
  | 9, _ => exact lf4 e.n 2 (by decide)
  | 10, _ => exact lf4 e.n 3 (by decide)
  | n + 11, hi => omega

theorem bytes12_c (e : Ev) (ht : EvT ⟨e.g, 12, e.f, e.p, e.ad, e.ch, e.ob, e.n, e.tr⟩) (hok : evOk ⟨e.g, 12, e.f, e.p, e.ad, e.ch, e.ob, e.n, e.tr⟩ = true) (w : World) : Calls Tryd.prog 9 #[evV ⟨e.g, 12, e.f, e.p, e.ad, e.ch, e.ob, e.n, e.tr⟩] w fun x w' => RowBack 5 7 (rowI (bytesL ⟨e.g, 12, e.f, e.p, e.ad, e.ch, e.ob, e.n, e.tr⟩)) (some (.int .i64 0)) x w w' := by
  refine calls_new tabV_ok Tryd.func9 rfl [.ag [.i .i64 e.g, .n .i64 12, .i .i64 e.f, .i .i64 e.p, .i .u32 e.ad, .i .i64 e.ch, .i .i64 e.ob, .i .i64 e.n, .i .i64 e.tr]] rfl Tryd.ntmps9 rfl 5 7 _ _ (wpx_ok tabV_ok (CI_ok tabV_ok 8) _ ?_) w
  have hs := evOk_site hok
  conv => whnf
  refine And.intro ht ?_
  conv => whnf
  refine And.intro (fun h => ?_) (fun _ => ?_)
  · exact absurd h (check_no hok)
  conv => whnf
  refine And.intro (by (conv => whnf); decide +kernel) ?_
  conv => whnf
  refine And.intro (by (conv => whnf); exact ⟨trivial, oneG_of rfl, by decide, by decide⟩) ?_
  conv => whnf
  refine And.intro (by (conv => whnf); exact ob2 e.g) ?_
  conv => whnf
  refine And.intro (by (conv => whnf); exact ⟨trivial, oneG_of rfl, by decide, by decide⟩) ?_
  conv => whnf
  refine And.intro (by (conv => whnf); exact hs) ?_
  conv => whnf
  refine And.intro (by (conv => whnf); exact ⟨trivial, oneG_of rfl, by decide, by decide⟩) ?_
  conv => whnf
  refine And.intro (by (conv => whnf); exact ht.ad) ?_
  conv => whnf
  refine And.intro (by (conv => whnf); exact ob1 e.ob) ?_
  conv => whnf
  refine And.intro (by (conv => whnf); exact ⟨trivial, oneG_of rfl, by decide, by decide⟩) ?_
  conv => whnf
  refine And.intro (And.intro rfl fun i hi => ?_) rfl
  match i, hi with
  | 0, _ => exact byte_leaf (b := b8 12 0) (by decide +kernel)
  | 1, _ => exact lf2 e.g 0 (by decide)
  | 2, _ => exact lf2 e.g 1 (by decide)
  | 3, _ => exact rfl
  | 4, _ => exact rfl
  | 5, _ => exact rfl
  | 6, _ => exact lf1 e.ob
  | n + 7, hi => omega

theorem bytes13_c (e : Ev) (ht : EvT ⟨e.g, 13, e.f, e.p, e.ad, e.ch, e.ob, e.n, e.tr⟩) (hok : evOk ⟨e.g, 13, e.f, e.p, e.ad, e.ch, e.ob, e.n, e.tr⟩ = true) (w : World) : Calls Tryd.prog 9 #[evV ⟨e.g, 13, e.f, e.p, e.ad, e.ch, e.ob, e.n, e.tr⟩] w fun x w' => RowBack 5 6 (rowI (bytesL ⟨e.g, 13, e.f, e.p, e.ad, e.ch, e.ob, e.n, e.tr⟩)) (some (.int .i64 0)) x w w' := by
  refine calls_new tabV_ok Tryd.func9 rfl [.ag [.i .i64 e.g, .n .i64 13, .i .i64 e.f, .i .i64 e.p, .i .u32 e.ad, .i .i64 e.ch, .i .i64 e.ob, .i .i64 e.n, .i .i64 e.tr]] rfl Tryd.ntmps9 rfl 5 6 _ _ (wpx_ok tabV_ok (CI_ok tabV_ok 8) _ ?_) w
  have hs := evOk_site hok
  conv => whnf
  refine And.intro ht ?_
  conv => whnf
  refine And.intro (fun h => ?_) (fun _ => ?_)
  · exact absurd h (check_no hok)
  conv => whnf
  refine And.intro (by (conv => whnf); decide +kernel) ?_
  conv => whnf
  refine And.intro (by (conv => whnf); exact ⟨trivial, oneG_of rfl, by decide, by decide⟩) ?_
  conv => whnf
  refine And.intro (by (conv => whnf); exact ob2 e.g) ?_
  conv => whnf
  refine And.intro (by (conv => whnf); exact ⟨trivial, oneG_of rfl, by decide, by decide⟩) ?_
  conv => whnf
  refine And.intro (by (conv => whnf); exact hs) ?_
  conv => whnf
  refine And.intro (by (conv => whnf); exact ⟨trivial, oneG_of rfl, by decide, by decide⟩) ?_
  conv => whnf
  refine And.intro (And.intro rfl fun i hi => ?_) rfl
  match i, hi with
  | 0, _ => exact byte_leaf (b := b8 13 0) (by decide +kernel)
  | 1, _ => exact lf2 e.g 0 (by decide)
  | 2, _ => exact lf2 e.g 1 (by decide)
  | 3, _ => exact rfl
  | 4, _ => exact rfl
  | 5, _ => exact rfl
  | n + 6, hi => omega

theorem bytes14_c (e : Ev) (ht : EvT ⟨e.g, 14, e.f, e.p, e.ad, e.ch, e.ob, e.n, e.tr⟩) (hok : evOk ⟨e.g, 14, e.f, e.p, e.ad, e.ch, e.ob, e.n, e.tr⟩ = true) (w : World) : Calls Tryd.prog 9 #[evV ⟨e.g, 14, e.f, e.p, e.ad, e.ch, e.ob, e.n, e.tr⟩] w fun x w' => RowBack 5 7 (rowI (bytesL ⟨e.g, 14, e.f, e.p, e.ad, e.ch, e.ob, e.n, e.tr⟩)) (some (.int .i64 0)) x w w' := by
  refine calls_new tabV_ok Tryd.func9 rfl [.ag [.i .i64 e.g, .n .i64 14, .i .i64 e.f, .i .i64 e.p, .i .u32 e.ad, .i .i64 e.ch, .i .i64 e.ob, .i .i64 e.n, .i .i64 e.tr]] rfl Tryd.ntmps9 rfl 5 7 _ _ (wpx_ok tabV_ok (CI_ok tabV_ok 8) _ ?_) w
  have hs := evOk_site hok
  conv => whnf
  refine And.intro ht ?_
  conv => whnf
  refine And.intro (fun h => ?_) (fun _ => ?_)
  · exact absurd h (check_no hok)
  conv => whnf
  refine And.intro (by (conv => whnf); decide +kernel) ?_
  conv => whnf
  refine And.intro (by (conv => whnf); exact ⟨trivial, oneG_of rfl, by decide, by decide⟩) ?_
  conv => whnf
  refine And.intro (by (conv => whnf); exact ob2 e.g) ?_
  conv => whnf
  refine And.intro (by (conv => whnf); exact ⟨trivial, oneG_of rfl, by decide, by decide⟩) ?_
  conv => whnf
  refine And.intro (by (conv => whnf); exact hs) ?_
  conv => whnf
  refine And.intro (by (conv => whnf); exact ⟨trivial, oneG_of rfl, by decide, by decide⟩) ?_
  conv => whnf
  refine And.intro (by (conv => whnf); exact ht.ad) ?_
  conv => whnf
  refine And.intro (by (conv => whnf); exact ob1 e.tr) ?_
  conv => whnf
  refine And.intro (by (conv => whnf); exact ⟨trivial, oneG_of rfl, by decide, by decide⟩) ?_
  conv => whnf
  refine And.intro (And.intro rfl fun i hi => ?_) rfl
  match i, hi with
  | 0, _ => exact byte_leaf (b := b8 14 0) (by decide +kernel)
  | 1, _ => exact lf2 e.g 0 (by decide)
  | 2, _ => exact lf2 e.g 1 (by decide)
  | 3, _ => exact rfl
  | 4, _ => exact rfl
  | 5, _ => exact rfl
  | 6, _ => exact lf1 e.tr
  | n + 7, hi => omega

theorem bytes_c (e : Ev) (ht : EvT e) (w : World) : Calls Tryd.prog 9 #[evV e] w fun x w' => RowBack 5 (bytesA e).length (rowI (bytesA e)) (some (.int .i64 (bif evOk e then 0 else 2))) x w w' := by
  cases hb : evOk e with
  | false =>
    have he : bytesA e = [] := by simp [bytesA, hb]
    rw [he]
    refine calls_new tabV_ok Tryd.func9 rfl [.ag (evS e)] rfl Tryd.ntmps9 rfl 5 0 _ _ (wpx_ok tabV_ok (CI_ok tabV_ok 8) _ ?_) w
    conv => whnf
    refine And.intro ht ?_
    conv => whnf
    refine And.intro (fun h => ?_) (fun h => ?_)
    · conv => whnf
      refine And.intro (And.intro rfl fun i hi => absurd hi (Nat.not_lt_zero _)) (congrArg some (congrArg (Value.int IntKind.i64) ?_))
      show (bif evOk e then (0 : Int) else 2) = _
      rw [hb]
    · exfalso
      have h : ((bif evOk e then (0 : Int) else 2) != 0) = false := h
      rw [hb] at h
      exact absurd h (by decide)
  | true =>
    have hk := evOk_k hb
    have he : bytesA e = bytesL e := by simp [bytesA, hb]
    rw [he]
    obtain ⟨g, k, f, p, ad, ch, ob, n, tr⟩ := e
    have hcases : k = 1 ∨ k = 2 ∨ k = 3 ∨ k = 4 ∨ k = 5 ∨ k = 6 ∨ k = 7 ∨ k = 8 ∨ k = 9 ∨ k = 10 ∨ k = 11 ∨ k = 12 ∨ k = 13 ∨ k = 14 := by simp only at hk; omega
    rcases hcases with rfl | rfl | rfl | rfl | rfl | rfl | rfl | rfl | rfl | rfl | rfl | rfl | rfl | rfl
    · exact bytes1_c ⟨g, 0, f, p, ad, ch, ob, n, tr⟩ ht hb w
    · exact bytes2_c ⟨g, 0, f, p, ad, ch, ob, n, tr⟩ ht hb w
    · exact bytes3_c ⟨g, 0, f, p, ad, ch, ob, n, tr⟩ ht hb w
    · exact bytes4_c ⟨g, 0, f, p, ad, ch, ob, n, tr⟩ ht hb w
    · exact bytes5_c ⟨g, 0, f, p, ad, ch, ob, n, tr⟩ ht hb w
    · exact bytes6_c ⟨g, 0, f, p, ad, ch, ob, n, tr⟩ ht hb w
    · exact bytes7_c ⟨g, 0, f, p, ad, ch, ob, n, tr⟩ ht hb w
    · exact bytes8_c ⟨g, 0, f, p, ad, ch, ob, n, tr⟩ ht hb w
    · exact bytes9_c ⟨g, 0, f, p, ad, ch, ob, n, tr⟩ ht hb w
    · exact bytes10_c ⟨g, 0, f, p, ad, ch, ob, n, tr⟩ ht hb w
    · exact bytes11_c ⟨g, 0, f, p, ad, ch, ob, n, tr⟩ ht hb w
    · exact bytes12_c ⟨g, 0, f, p, ad, ch, ob, n, tr⟩ ht hb w
    · exact bytes13_c ⟨g, 0, f, p, ad, ch, ob, n, tr⟩ ht hb w
    · exact bytes14_c ⟨g, 0, f, p, ad, ch, ob, n, tr⟩ ht hb w

theorem rowS_row (l : List Int) (i : Nat) : (rowS l i).length = 1 ∧ denL Vl.none (rowS l i) = some [rowI l i] := ⟨rfl, rfl⟩
def sumBytes : Sum := fun args H nx => match args with
  | [v] => match evOf v with
    | some e => some (.ob (EvT e) (.new (.tu [.r nx, .i .i64 (bif evOk e then 0 else 2)]) (.own 5 1 (bytesA e).length (rowS (bytesA e)))))
    | none => none
  | _ => none
theorem sumBytes_ok : SumOk1 Tryd.prog 9 sumBytes := by
  intro args H nx out ho ρ w xs hH hd hn
  unfold sumBytes at ho
  split at ho
  case h_2 => cases ho
  rename_i v
  split at ho
  case h_2 => cases ho
  rename_i e he
  cases ho
  obtain ⟨x, r, rfl, h1, h2⟩ := denL_cons hd
  cases h2
  have := evOf_ok he h1
  subst this
  exact fun ht => (bytes_c e ht w).mono fun x w' hb => hb.eff (v := some (.i .i64 (bif evOk e then 0 else 2))) rfl fun i _ => rowS_row _ i

end Go.Proofs.YtiibmnoikgfcbaaDoor
