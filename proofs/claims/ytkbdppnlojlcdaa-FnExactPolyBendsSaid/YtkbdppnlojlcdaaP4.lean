/- The sign of a surd, by the program and by the reference. No conditions but bounds. -/
import Derived.Test.YtkbdppnlojlcdaaP3
namespace Go.Proofs.Ytkbdppnlojlcdaa
open Go.RowKit
set_option maxRecDepth 100000

def fTwo (two : Int → Int → Int) (ob : Int → Bool) : List Value → Option (Value × List Bool)
  | [.int .i64 x, .int .i64 y] => some (.int .i64 (two x y), [ob x, ob y])
  | _ => none
abbrev i64B (x : Int) : Bool := inR x (-9223372036854775808) 9223372036854775807
theorem fTwo_eq : fTwo sg2 i64B = f_two := by
  funext vs
  unfold fTwo f_two
  rfl
theorem i64B_W (x : Int) : i64B (W x) = true := inR_iff.2 (w64_range x)

def gmT (two : Int → Int → Int) (ob : Int → Bool) (f : FuncId) : Gam := ext g0 f (specV (fTwo two ob))
abbrev xq (s : Nat → Int) : Int := W (W (W (W (s 0 * s 0) + W (W (2 * s 1) * s 1)) - W (W (3 * s 2) * s 2)) - W (W (6 * s 3) * s 3))
abbrev yq (s : Nat → Int) : Int := W (W (W (2 * s 0) * s 1) - W (W (6 * s 2) * s 3))
theorem treeS (s : Nat → Int) (two : Int → Int → Int) (ob : Int → Bool) : execF Try.prog (gmT two ob 95) noLam 100 Try.f57 ([sdv s].map .v) [] valK
    = needs [ob (s 0), ob (s 1), ob (s 2), ob (s 3)] (cond (two (s 0) (s 1) == two (s 2) (s 3)) (ri (two (s 0) (s 1))) (cond (two (s 2) (s 3) == 0) (ri (two (s 0) (s 1))) (cond (two (s 0) (s 1) == 0) (ri (two (s 2) (s 3)))
      (needs [ob (xq s), ob (yq s)] (ri (W (two (s 0) (s 1) * two (xq s) (yq s)))))))) := by kernel_rfl
theorem treeS' (s : Nat → Int) (two : Int → Int → Int) (ob : Int → Bool) : execF Try.prog (gmT two ob 86) noLam 100 Try.f46 ([sdv s].map .v) [] valK
    = needs [ob (s 0), ob (s 1), ob (s 2), ob (s 3)] (cond (decide (W (two (s 0) (s 1) * two (s 2) (s 3)) ≥ 0)) (ri (mnI (mxI (W (two (s 0) (s 1) + two (s 2) (s 3))))))
      (needs [ob (xq s), ob (yq s)] (ri (W (two (s 0) (s 1) * two (xq s) (yq s)))))) := by kernel_rfl

theorem gmT_ok {f : FuncId} (h : SpecOk Try.prog f (specV f_two)) : GamOk Try.prog (gmT sg2 i64B f) := ext_ok g0_ok (fTwo_eq ▸ h)

theorem sg2_range (x y : Int) : sg2 x y = -1 ∨ sg2 x y = 0 ∨ sg2 x y = 1 := by
  unfold sg2
  repeat' split
  all_goals omega

/-- The sign of a surd. -/
def sgn4 (s : Nat → Int) : Int := if sg2 (s 0) (s 1) = sg2 (s 2) (s 3) ∨ sg2 (s 2) (s 3) = 0 then sg2 (s 0) (s 1) else if sg2 (s 0) (s 1) = 0 then sg2 (s 2) (s 3) else sg2 (s 0) (s 1) * sg2 (xq s) (yq s)
theorem sgn4_range (s : Nat → Int) : sgn4 s = -1 ∨ sgn4 s = 0 ∨ sgn4 s = 1 := by
  have h1 := sg2_range (s 0) (s 1)
  have h2 := sg2_range (s 2) (s 3)
  have h3 := sg2_range (xq s) (yq s)
  unfold sgn4
  generalize sg2 (s 0) (s 1) = p at *
  generalize sg2 (s 2) (s 3) = q at *
  generalize sg2 (xq s) (yq s) = r at *
  rcases h1 with rfl | rfl | rfl <;> rcases h2 with rfl | rfl | rfl <;> rcases h3 with rfl | rfl | rfl <;> decide

theorem good_needsV {bs : List Bool} {r : Res} {x : Value} (h : obls bs = true) (k : Good r x) : Good (needs bs r) x := by
  induction bs with
  | nil => exact k
  | cons b bs ih =>
    have : b = true ∧ obls bs = true := by simpa [obls] using h
    rw [this.1]
    exact ⟨(ih this.2).out⟩

def f_sgn : List Value → Option (Value × List Bool)
  | [.agg ⟨[.int .i64 s0, .int .i64 s1, .int .i64 s2, .int .i64 s3]⟩] => some (.int .i64 (sgn4 (v4 s0 s1 s2 s3)), [i64B s0, i64B s1, i64B s2, i64B s3])
  | _ => none

theorem ok_sign : SpecOk Try.prog 57 (specV f_sgn) := by
  refine mkV (n := 100) (gmT_ok ok_sign2) Try.func57 rfl fun vs v ob hF ho => ?_
  unfold f_sgn at hF
  split at hF
  · rename_i s0 s1 s2 s3
    cases hF
    show Good (execF Try.prog (gmT sg2 i64B 95) noLam 100 Try.f57 ([sdv (v4 s0 s1 s2 s3)].map .v) [] valK) _
    rw [treeS]
    generalize hs : v4 s0 s1 s2 s3 = s
    have e0 : s 0 = s0 := by rw [← hs]; rfl
    have e1 : s 1 = s1 := by rw [← hs]; rfl
    have e2 : s 2 = s2 := by rw [← hs]; rfl
    have e3 : s 3 = s3 := by rw [← hs]; rfl
    refine good_needsV (by rw [e0, e1, e2, e3]; exact ho) ?_
    have ho2 : obls [i64B (xq s), i64B (yq s)] = true := by simp [obls, i64B_W]
    have h1 := sg2_range (s 0) (s 1)
    have h2 := sg2_range (s 2) (s 3)
    have h3 := sg2_range (xq s) (yq s)
    unfold sgn4
    generalize sg2 (s 0) (s 1) = p at *
    generalize sg2 (s 2) (s 3) = q at *
    generalize hr : sg2 (xq s) (yq s) = r at *
    rcases h1 with rfl | rfl | rfl <;> rcases h2 with rfl | rfl | rfl <;> first | exact one rfl | exact good_needsV ho2 (by rcases h3 with rfl | rfl | rfl <;> exact one rfl)
  · cases hF

theorem ok_l3Sign : SpecOk Try.prog 46 (specV f_sgn) := by
  refine mkV (n := 100) (gmT_ok ok_l3Two) Try.func46 rfl fun vs v ob hF ho => ?_
  unfold f_sgn at hF
  split at hF
  · rename_i s0 s1 s2 s3
    cases hF
    show Good (execF Try.prog (gmT sg2 i64B 86) noLam 100 Try.f46 ([sdv (v4 s0 s1 s2 s3)].map .v) [] valK) _
    rw [treeS']
    generalize hs : v4 s0 s1 s2 s3 = s
    have e0 : s 0 = s0 := by rw [← hs]; rfl
    have e1 : s 1 = s1 := by rw [← hs]; rfl
    have e2 : s 2 = s2 := by rw [← hs]; rfl
    have e3 : s 3 = s3 := by rw [← hs]; rfl
    refine good_needsV (by rw [e0, e1, e2, e3]; exact ho) ?_
    have ho2 : obls [i64B (xq s), i64B (yq s)] = true := by simp [obls, i64B_W]
    have h1 := sg2_range (s 0) (s 1)
    have h2 := sg2_range (s 2) (s 3)
    have h3 := sg2_range (xq s) (yq s)
    unfold sgn4
    generalize sg2 (s 0) (s 1) = p at *
    generalize sg2 (s 2) (s 3) = q at *
    generalize hr : sg2 (xq s) (yq s) = r at *
    rcases h1 with rfl | rfl | rfl <;> rcases h2 with rfl | rfl | rfl <;> first | exact one rfl | exact good_needsV ho2 (by rcases h3 with rfl | rfl | rfl <;> exact one rfl)
  · cases hF

def gm_sign : Gam := ext gm_l3Sum 57 (specV f_sgn)
theorem gm_sign_ok : GamOk Try.prog gm_sign := ext_ok gm_l3Sum_ok ok_sign
def gm_l3Sign : Gam := ext gm_sign 46 (specV f_sgn)
theorem gm_l3Sign_ok : GamOk Try.prog gm_l3Sign := ext_ok gm_sign_ok ok_l3Sign

end Go.Proofs.Ytkbdppnlojlcdaa
