/- The sign of a surd, by the program and by the reference. No conditions but bounds. -/
import Derived.Test.YtoligfhcogligaaZS0
import Derived.Test.YtoligfhcogligaaZS1
import Derived.Test.YtoligfhcogligaaZS2
import Derived.Test.YtoligfhcogligaaZS3
import Derived.Test.YtoligfhcogligaaZS4
import Derived.Test.YtoligfhcogligaaZS5
import Derived.Test.YtoligfhcogligaaZKPe70
/- The sign of x + y root 2, by the program and by the reference. No conditions but bounds. -/
namespace Go.Proofs.Ytoligfhcogligaa
open Go.RowKit
set_option maxRecDepth 100000

def fMul (hi : Int → Int → Int) : List Value → Option (Value × List Bool)
  | [.int .u64 x, .int .u64 y] => some (.tuple #[.int .u64 (hi x y), .int .u64 (U (x * y))], [])
  | _ => none
def fSq (hi lo : Int → Int) : List Value → Option (Value × List Bool)
  | [.int .u64 x] => some (.tuple #[.int .u64 (hi x), .int .u64 (lo x)], [])
  | _ => none
def fSz (sz : Int → Int) : List Value → Option (Value × List Bool)
  | [.int .i64 x] => some (.int .u64 (sz x), [])
  | _ => none
def fSg (sg : Int → Int) : List Value → Option (Value × List Bool)
  | [.int .i64 x] => some (.int .i64 (sg x), [])
  | _ => none
def fCu (cu : Int → Int → Int) : List Value → Option (Value × List Bool)
  | [.int .u64 x, .int .u64 y] => some (.int .i64 (cu x y), [])
  | _ => none

def rawHi (x y : Int) : Int := U (U (U (shrU x 32 * shrU y 32) + shrU (U (U (shrU x 32 * maskU y) + shrU (U (maskU x * maskU y)) 32)) 32) + shrU (U (maskU (U (U (shrU x 32 * maskU y) + shrU (U (maskU x * maskU y)) 32)) + U (maskU x * shrU y 32))) 32)
def rawSz (x : Int) : Int := U (if W (0 - x) > x then W (0 - x) else x)
def rawLo (x : Int) : Int := U (U (maskU x * maskU x) + U (U (maskU x * shrU x 32) * 8589934592))
def rawTop (x : Int) : Int := bif decide (U (U (maskU x * maskU x) + U (U (maskU x * shrU x 32) * 8589934592)) < U (maskU x * maskU x)) then U (U (U (shrU x 32 * shrU x 32) + shrU (U (maskU x * shrU x 32)) 31) + 1) else U (U (shrU x 32 * shrU x 32) + shrU (U (maskU x * shrU x 32)) 31)

theorem rawHi_eq {x : Int} (h0 : 0 ≤ x) (h1 : x < 18446744073709551616) : rawHi x x = x * x / 18446744073709551616 := by
  obtain ⟨p1, p2, p3⟩ := mul_parts h0 h1 h0 h1
  unfold rawHi
  simp only [shr32]
  rw [maskU_eq h0 h1, maskU_eq p2 p3, p1]
theorem rawLo_eq {x : Int} (h0 : 0 ≤ x) (h1 : x < 18446744073709551616) : rawLo x = x * x % 18446744073709551616 := by
  unfold rawLo
  rw [maskU_eq h0 h1, shr32]
  exact (sq_parts h0 h1).1
theorem rawTop_eq {x : Int} (h0 : 0 ≤ x) (h1 : x < 18446744073709551616) : rawTop x = x * x / 18446744073709551616 := by
  unfold rawTop
  rw [maskU_eq h0 h1, shr32, shr31]
  rw [← (sq_parts h0 h1).2, Bool.cond_decide]
theorem rawSz_eq {x : Int} (h0 : -9223372036854775808 ≤ x) (h1 : x ≤ 9223372036854775807) : rawSz x = x.natAbs := size_eq h0 h1

theorem okr_mul : SpecOk Try.prog 127 (specV (fMul rawHi)) := by
  refine mkV (n := 100) g0_ok Try.func127 rfl fun vs x ob hF ho => ?_
  unfold fMul at hF
  split at hF
  · rename_i x y
    cases hF
    exact one (by kernel_rfl)
  · cases hF
theorem okr_size : SpecOk Try.prog 128 (specV (fSz rawSz)) := by
  refine mkV (n := 100) g0_ok Try.func128 rfl fun vs x ob hF ho => ?_
  unfold fSz at hF
  split at hF
  · rename_i x
    cases hF
    exact one (by kernel_rfl)
  · cases hF
theorem okr_size' : SpecOk Try.prog 124 (specV (fSz rawSz)) := by
  refine mkV (n := 100) g0_ok Try.func124 rfl fun vs x ob hF ho => ?_
  unfold fSz at hF
  split at hF
  · rename_i x
    cases hF
    exact one (by kernel_rfl)
  · cases hF
theorem okr_sq : SpecOk Try.prog 123 (specV (fSq rawTop rawLo)) := by
  refine mkV (n := 100) g0_ok Try.func123 rfl fun vs x ob hF ho => ?_
  unfold fSq at hF
  split at hF
  · rename_i x
    cases hF
    have e : execF Try.prog g0 noLam 100 Try.f123 ([.int .u64 x].map .v) [] valK = cond (decide (U (U (maskU x * maskU x) + U (U (maskU x * shrU x 32) * 8589934592)) < U (maskU x * maskU x)))
        (rt [.v (.int .u64 (U (U (U (shrU x 32 * shrU x 32) + shrU (U (maskU x * shrU x 32)) 31) + 1))), .v (.int .u64 (rawLo x))])
        (rt [.v (.int .u64 (U (U (shrU x 32 * shrU x 32) + shrU (U (maskU x * shrU x 32)) 31))), .v (.int .u64 (rawLo x))]) := by kernel_rfl
    rw [e]
    unfold rawTop
    generalize hb : decide (U (U (maskU x * maskU x) + U (U (maskU x * shrU x 32) * 8589934592)) < U (maskU x * maskU x)) = b
    cases b
    · exact one rfl
    · exact one rfl
  · cases hF
theorem okr_sg : SpecOk Try.prog 126 (specV (fSg fun x => sgZ x 0)) := by
  refine mkV (n := 100) gm_cmpU_ok Try.func126 rfl fun vs x ob hF ho => ?_
  unfold fSg at hF
  split at hF
  · rename_i x
    cases hF
    exact one (by kernel_rfl)
  · cases hF
theorem okr_cu : SpecOk Try.prog 130 (specV (fCu sgZ)) := by
  refine mkV (n := 100) gm_nanU_ok Try.func130 rfl fun vs x ob hF ho => ?_
  unfold fCu at hF
  split at hF
  · rename_i x y
    cases hF
    have e : execF Try.prog gm_nanU noLam 100 Try.f130 ([.int .u64 x, .int .u64 y].map .v) [] valK = cond (decide (x < y)) (rv (.int .i64 (-1))) (cond (decide (x > y)) (rv (.int .i64 1)) (rv (.int .i64 0))) := by kernel_rfl
    rw [e]
    exact gives_of (by simp only [outV_cond, outV_rv, cond_some, cond_int, sgZ])
  · cases hF

/-- The tables, with what the callees return left open. -/
def gmA (hi cu : Int → Int → Int) (sg sz : Int → Int) : Gam := ext (ext (ext (ext g0 127 (specV (fMul hi))) 128 (specV (fSz sz))) 126 (specV (fSg sg))) 130 (specV (fCu cu))
def gmB (hi lo sz : Int → Int) : Gam := ext (ext g0 123 (specV (fSq hi lo))) 124 (specV (fSz sz))
theorem gmA_ok : GamOk Try.prog (gmA rawHi sgZ (fun x => sgZ x 0) rawSz) := ext_ok (ext_ok (ext_ok (ext_ok g0_ok okr_mul) okr_size) okr_sg) okr_cu
theorem gmB_ok : GamOk Try.prog (gmB rawTop rawLo rawSz) := ext_ok (ext_ok g0_ok okr_sq) okr_size'

abbrev ri (x : Int) : Res := rv (.int .i64 x)
theorem treeA (x y : Int) (hi cu : Int → Int → Int) (sg sz : Int → Int) : execF Try.prog (gmA hi cu sg sz) noLam 100 Try.f95 ([.int .i64 x, .int .i64 y].map .v) [] valK
    = cond (sg x == sg y) (ri (sg x)) (cond (sg y == 0) (ri (sg x)) (cond (sg x == 0) (ri (sg y))
      (cond (cu (hi (sz x) (sz x)) (topU (hi (sz y) (sz y)) (U (sz y * sz y))) != 0)
        (cond (cu (hi (sz x) (sz x)) (topU (hi (sz y) (sz y)) (U (sz y * sz y))) == 1) (ri (sg x)) (cond (cu (hi (sz x) (sz x)) (topU (hi (sz y) (sz y)) (U (sz y * sz y))) == -1) (ri (sg y)) (ri 0)))
        (cond (cu (U (sz x * sz x)) (U (U (sz y * sz y) * 2)) != 0)
          (cond (cu (U (sz x * sz x)) (U (U (sz y * sz y) * 2)) == 1) (ri (sg x)) (cond (cu (U (sz x * sz x)) (U (U (sz y * sz y) * 2)) == -1) (ri (sg y)) (ri 0))) (ri 0))))) := by kernel_rfl

abbrev mnI (a : Int) : Int := if a < 1 then a else 1
abbrev mxI (a : Int) : Int := if a > -1 then a else -1
abbrev flatI (x y : Int) : Int := mnI (mxI (IntKind.i64.wrap (mxI (mnI x) + mxI (mnI y))))
abbrev cmpB (x y : Int) (hi lo sz : Int → Int) (s : Int) : Res := cond (decide (hi (sz x) > topU (hi (sz y)) (lo (sz y)))) (ri s) (cond (hi (sz x) == topU (hi (sz y)) (lo (sz y))) (cond (decide (lo (sz x) > U (lo (sz y) * 2))) (ri s) (ri (IntKind.i64.wrap (0 - s)))) (ri (IntKind.i64.wrap (0 - s))))
abbrev tailB (x y : Int) (hi lo sz : Int → Int) : Res := cond (decide (x < 0)) (cmpB x y hi lo sz (-1)) (cmpB x y hi lo sz 1)
theorem treeB (x y : Int) (hi lo sz : Int → Int) : execF Try.prog (gmB hi lo sz) noLam 100 Try.f91 ([.int .i64 x, .int .i64 y].map .v) [] valK
    = cond (decide (x ≥ 0)) (cond (decide (y ≥ 0)) (ri (flatI x y)) (cond (decide (x ≤ 0)) (cond (decide (y ≤ 0)) (ri (flatI x y)) (tailB x y hi lo sz)) (tailB x y hi lo sz)))
      (cond (decide (x ≤ 0)) (cond (decide (y ≤ 0)) (ri (flatI x y)) (tailB x y hi lo sz)) (tailB x y hi lo sz)) := by kernel_rfl

theorem topU_raw {x y : Int} (hx : inR x (-9223372036854775808) 9223372036854775807 = true) (hy : inR y (-9223372036854775808) 9223372036854775807 = true) {u1 v1 u2 v2 : Int}
    (e1 : u1 = (x.natAbs : Int) * x.natAbs / 18446744073709551616) (e2 : v1 = topU ((y.natAbs : Int) * y.natAbs / 18446744073709551616) ((y.natAbs : Int) * y.natAbs % 18446744073709551616)) (e3 : u2 = (x.natAbs : Int) * x.natAbs % 18446744073709551616) (e4 : v2 = U ((y.natAbs : Int) * y.natAbs % 18446744073709551616 * 2)) :
    (u1 > v1 ∨ (u1 = v1 ∧ u2 > v2) ↔ x * x > 2 * (y * y)) ∧ (u1 = v1 ∧ u2 = v2 ↔ x * x = 2 * (y * y)) := by
  have hx := inR_iff.1 hx
  have hy := inR_iff.1 hy
  subst e1 e2 e3 e4
  exact sq_cmp hx.1 hx.2 hy.1 hy.2

def f_two : List Value → Option (Value × List Bool)
  | [.int .i64 x, .int .i64 y] => some (.int .i64 (sg2 x y), [inR x (-9223372036854775808) 9223372036854775807, inR y (-9223372036854775808) 9223372036854775807])
  | _ => none

theorem nat_in {x : Int} (hx : inR x (-9223372036854775808) 9223372036854775807 = true) : (0 : Int) ≤ (x.natAbs : Int) ∧ (x.natAbs : Int) < 18446744073709551616 := by
  have hx := inR_iff.1 hx
  omega

theorem ok_sign2 : SpecOk Try.prog 95 (specV f_two) := by
  refine mkV (n := 100) gmA_ok Try.func95 rfl fun vs v ob hF ho => ?_
  unfold f_two at hF
  split at hF
  · rename_i x y
    cases hF
    obtain ⟨hx, hy⟩ := obl2 ho
    have hx' := inR_iff.1 hx
    have hy' := inR_iff.1 hy
    rw [treeA x y rawHi sgZ (fun x => sgZ x 0) rawSz]
    refine gives_of ?_
    simp only [outV_cond, outV_rv, cond_some, cond_int]
    congr 2
    obtain ⟨h1, h2⟩ := topU_raw hx hy (u1 := rawHi (rawSz x) (rawSz x)) (v1 := topU (rawHi (rawSz y) (rawSz y)) (U (rawSz y * rawSz y))) (u2 := U (rawSz x * rawSz x)) (v2 := U (U (rawSz y * rawSz y) * 2))
      (by rw [rawSz_eq hx'.1 hx'.2, rawHi_eq (nat_in hx).1 (nat_in hx).2]) (by rw [rawSz_eq hy'.1 hy'.2, rawHi_eq (nat_in hy).1 (nat_in hy).2, u64_mod (_ * _)]) (by rw [rawSz_eq hx'.1 hx'.2, u64_mod]) (by rw [rawSz_eq hy'.1 hy'.2, u64_mod ((y.natAbs : Int) * (y.natAbs : Int))])
    exact signA_eq h1 h2
  · cases hF

theorem two_eq {x y : Int} {u1 u2 v1 v2 : Int} (h1 : u1 > v1 ∨ (u1 = v1 ∧ u2 > v2) ↔ x * x > 2 * (y * y)) (s : Int) (hs : s = 1 ∨ s = -1) :
    (bif decide (u1 > v1) then s else bif u1 == v1 then (bif decide (u2 > v2) then s else IntKind.i64.wrap (0 - s)) else IntKind.i64.wrap (0 - s)) = if x * x > 2 * (y * y) then s else 0 - s := by
  have hw : IntKind.i64.wrap (0 - s) = 0 - s := by rcases hs with rfl | rfl <;> rfl
  rw [hw, beqI]
  generalize x * x = P at *
  generalize y * y = R at *
  simp only [Bool.cond_decide]
  repeat' split
  all_goals first | rfl | (exfalso; omega)

theorem ok_l3Two : SpecOk Try.prog 91 (specV f_two) := by
  refine mkV (n := 100) gmB_ok Try.func91 rfl fun vs v ob hF ho => ?_
  unfold f_two at hF
  split at hF
  · rename_i x y
    cases hF
    obtain ⟨hx, hy⟩ := obl2 ho
    have hx' := inR_iff.1 hx
    have hy' := inR_iff.1 hy
    rw [treeB x y rawTop rawLo rawSz]
    refine gives_of ?_
    obtain ⟨h1, h2⟩ := topU_raw hx hy (u1 := rawTop (rawSz x)) (v1 := topU (rawTop (rawSz y)) (rawLo (rawSz y))) (u2 := rawLo (rawSz x)) (v2 := U (rawLo (rawSz y) * 2))
      (by rw [rawSz_eq hx'.1 hx'.2, rawTop_eq (nat_in hx).1 (nat_in hx).2]) (by rw [rawSz_eq hy'.1 hy'.2, rawTop_eq (nat_in hy).1 (nat_in hy).2, rawLo_eq (nat_in hy).1 (nat_in hy).2]) (by rw [rawSz_eq hx'.1 hx'.2, rawLo_eq (nat_in hx).1 (nat_in hx).2]) (by rw [rawSz_eq hy'.1 hy'.2, rawLo_eq (nat_in hy).1 (nat_in hy).2])
    have t1 := two_eq h1 1 (.inl rfl)
    have t2 := two_eq h1 (-1) (.inr rfl)
    simp only [outV_cond, outV_rv, cond_some, cond_int]
    rw [t1, t2]
    have fl := @flat_eq x y
    congr 2
    by_cases c : (0 ≤ x ∧ 0 ≤ y) ∨ (x ≤ 0 ∧ y ≤ 0)
    · have fl := fl c
      simp only [flatI, mnI, mxI]
      rw [fl]
      simp only [Bool.cond_decide]
      repeat' split
      all_goals first | rfl | (exfalso; omega)
    · clear fl
      unfold sg2
      generalize x * x = P at *
      generalize y * y = R at *
      simp only [Bool.cond_decide]
      repeat' split
      all_goals first | rfl | (exfalso; omega)
  · cases hF

end Go.Proofs.Ytoligfhcogligaa

/- The sign of a surd, by the program and by the reference. No conditions but bounds. -/
namespace Go.Proofs.Ytoligfhcogligaa
open Go.RowKit
set_option maxRecDepth 100000

def fTwo (two : Int → Int → Int) (ob : Int → Bool) : List Value → Option (Value × List Bool)
  | [.int .i64 x, .int .i64 y] => some (.int .i64 (two x y), [ob x, ob y])
  | _ => none
abbrev i64B (x : Int) : Bool := inR x (-9223372036854775808) 9223372036854775807
theorem fTwo_eq : fTwo sg2 i64B = f_two := by
  funext vs
  unfold fTwo f_two
  rfl
theorem i64B_W (x : Int) : i64B (W x) = true := inR_iff.2 (w64_range x)

def gmT (two : Int → Int → Int) (ob : Int → Bool) (f : FuncId) : Gam := ext g0 f (specV (fTwo two ob))
abbrev xq (s : Nat → Int) : Int := W (W (W (W (s 0 * s 0) + W (W (2 * s 1) * s 1)) - W (W (3 * s 2) * s 2)) - W (W (6 * s 3) * s 3))
abbrev yq (s : Nat → Int) : Int := W (W (W (2 * s 0) * s 1) - W (W (6 * s 2) * s 3))
theorem treeS (s : Nat → Int) (two : Int → Int → Int) (ob : Int → Bool) : execF Try.prog (gmT two ob 95) noLam 100 Try.f51 ([sdv s].map .v) [] valK
    = needs [ob (s 0), ob (s 1), ob (s 2), ob (s 3)] (cond (two (s 0) (s 1) == two (s 2) (s 3)) (ri (two (s 0) (s 1))) (cond (two (s 2) (s 3) == 0) (ri (two (s 0) (s 1))) (cond (two (s 0) (s 1) == 0) (ri (two (s 2) (s 3)))
      (needs [ob (xq s), ob (yq s)] (ri (W (two (s 0) (s 1) * two (xq s) (yq s)))))))) := by kernel_rfl
theorem treeS' (s : Nat → Int) (two : Int → Int → Int) (ob : Int → Bool) : execF Try.prog (gmT two ob 91) noLam 100 Try.f44 ([sdv s].map .v) [] valK
    = needs [ob (s 0), ob (s 1), ob (s 2), ob (s 3)] (cond (decide (W (two (s 0) (s 1) * two (s 2) (s 3)) ≥ 0)) (ri (mnI (mxI (W (two (s 0) (s 1) + two (s 2) (s 3))))))
      (needs [ob (xq s), ob (yq s)] (ri (W (two (s 0) (s 1) * two (xq s) (yq s)))))) := by kernel_rfl

theorem gmT_ok {f : FuncId} (h : SpecOk Try.prog f (specV f_two)) : GamOk Try.prog (gmT sg2 i64B f) := ext_ok g0_ok (fTwo_eq ▸ h)

theorem sg2_range (x y : Int) : sg2 x y = -1 ∨ sg2 x y = 0 ∨ sg2 x y = 1 := by
  unfold sg2
  repeat' split
  all_goals omega

/-- The sign of a surd. -/
def sgn4 (s : Nat → Int) : Int := if sg2 (s 0) (s 1) = sg2 (s 2) (s 3) ∨ sg2 (s 2) (s 3) = 0 then sg2 (s 0) (s 1) else if sg2 (s 0) (s 1) = 0 then sg2 (s 2) (s 3) else sg2 (s 0) (s 1) * sg2 (xq s) (yq s)
theorem sgn4_range (s : Nat → Int) : sgn4 s = -1 ∨ sgn4 s = 0 ∨ sgn4 s = 1 := by
  have h1 := sg2_range (s 0) (s 1)
  have h2 := sg2_range (s 2) (s 3)
  have h3 := sg2_range (xq s) (yq s)
  unfold sgn4
  generalize sg2 (s 0) (s 1) = p at *
  generalize sg2 (s 2) (s 3) = q at *
  generalize sg2 (xq s) (yq s) = r at *
  rcases h1 with rfl | rfl | rfl <;> rcases h2 with rfl | rfl | rfl <;> rcases h3 with rfl | rfl | rfl <;> decide

theorem good_needsV {bs : List Bool} {r : Res} {x : Value} (h : obls bs = true) (k : Good r x) : Good (needs bs r) x := by
  induction bs with
  | nil => exact k
  | cons b bs ih =>
    have : b = true ∧ obls bs = true := by simpa [obls] using h
    rw [this.1]
    exact ⟨(ih this.2).out⟩

def f_sgn : List Value → Option (Value × List Bool)
  | [.agg ⟨[.int .i64 s0, .int .i64 s1, .int .i64 s2, .int .i64 s3]⟩] => some (.int .i64 (sgn4 (v4 s0 s1 s2 s3)), [i64B s0, i64B s1, i64B s2, i64B s3])
  | _ => none

theorem ok_sign : SpecOk Try.prog 51 (specV f_sgn) := by
  refine mkV (n := 100) (gmT_ok ok_sign2) Try.func51 rfl fun vs v ob hF ho => ?_
  unfold f_sgn at hF
  split at hF
  · rename_i s0 s1 s2 s3
    cases hF
    show Good (execF Try.prog (gmT sg2 i64B 95) noLam 100 Try.f51 ([sdv (v4 s0 s1 s2 s3)].map .v) [] valK) _
    rw [treeS]
    generalize hs : v4 s0 s1 s2 s3 = s
    have e0 : s 0 = s0 := by rw [← hs]; rfl
    have e1 : s 1 = s1 := by rw [← hs]; rfl
    have e2 : s 2 = s2 := by rw [← hs]; rfl
    have e3 : s 3 = s3 := by rw [← hs]; rfl
    refine good_needsV (by rw [e0, e1, e2, e3]; exact ho) ?_
    have ho2 : obls [i64B (xq s), i64B (yq s)] = true := by simp [obls, i64B_W]
    have h1 := sg2_range (s 0) (s 1)
    have h2 := sg2_range (s 2) (s 3)
    have h3 := sg2_range (xq s) (yq s)
    unfold sgn4
    generalize sg2 (s 0) (s 1) = p at *
    generalize sg2 (s 2) (s 3) = q at *
    generalize hr : sg2 (xq s) (yq s) = r at *
    rcases h1 with rfl | rfl | rfl <;> rcases h2 with rfl | rfl | rfl <;> first | exact one rfl | exact good_needsV ho2 (by rcases h3 with rfl | rfl | rfl <;> exact one rfl)
  · cases hF

theorem ok_l3Sign : SpecOk Try.prog 44 (specV f_sgn) := by
  refine mkV (n := 100) (gmT_ok ok_l3Two) Try.func44 rfl fun vs v ob hF ho => ?_
  unfold f_sgn at hF
  split at hF
  · rename_i s0 s1 s2 s3
    cases hF
    show Good (execF Try.prog (gmT sg2 i64B 91) noLam 100 Try.f44 ([sdv (v4 s0 s1 s2 s3)].map .v) [] valK) _
    rw [treeS']
    generalize hs : v4 s0 s1 s2 s3 = s
    have e0 : s 0 = s0 := by rw [← hs]; rfl
    have e1 : s 1 = s1 := by rw [← hs]; rfl
    have e2 : s 2 = s2 := by rw [← hs]; rfl
    have e3 : s 3 = s3 := by rw [← hs]; rfl
    refine good_needsV (by rw [e0, e1, e2, e3]; exact ho) ?_
    have ho2 : obls [i64B (xq s), i64B (yq s)] = true := by simp [obls, i64B_W]
    have h1 := sg2_range (s 0) (s 1)
    have h2 := sg2_range (s 2) (s 3)
    have h3 := sg2_range (xq s) (yq s)
    unfold sgn4
    generalize sg2 (s 0) (s 1) = p at *
    generalize sg2 (s 2) (s 3) = q at *
    generalize hr : sg2 (xq s) (yq s) = r at *
    rcases h1 with rfl | rfl | rfl <;> rcases h2 with rfl | rfl | rfl <;> first | exact one rfl | exact good_needsV ho2 (by rcases h3 with rfl | rfl | rfl <;> exact one rfl)
  · cases hF

def gm_sign : Gam := ext gm_l3Sum 51 (specV f_sgn)
theorem gm_sign_ok : GamOk Try.prog gm_sign := ext_ok gm_l3Sum_ok ok_sign
def gm_l3Sign : Gam := ext gm_sign 44 (specV f_sgn)
theorem gm_l3Sign_ok : GamOk Try.prog gm_l3Sign := ext_ok gm_sign_ok ok_l3Sign

end Go.Proofs.Ytoligfhcogligaa
