/- Signs: the functions on words of 64 bits. No conditions but bounds. -/
import Derived.Test.YtkbdppnlojlcdaaP1
import Derived.Test.YtkbdppnlojlcdaaMath3
namespace Go.Proofs.Ytkbdppnlojlcdaa
open Go.RowKit
set_option maxRecDepth 100000

theorem f_bool {v : Value} {x y : Bool} (h : outV (rv (.bool x)) = some v) (e : x = y) : outV (rv (.bool y)) = some v := e ▸ h

def f_nanI : List Value → Option (Value × List Bool)
  | [.int .i64 x] => some (.bool false, [])
  | _ => none

theorem ok_nanI : SpecOk Try.prog 134 (specV f_nanI) := by
  refine mkV (n := 100) gm_l3Sum_ok Try.func134 rfl fun vs x ob hF ho => ?_
  unfold f_nanI at hF
  split at hF
  · rename_i x
    simp only [Option.some.injEq, Prod.mk.injEq] at hF
    obtain ⟨rfl, rfl⟩ := hF
    have e : getV (execF Try.prog gm_l3Sum noLam 100 Try.f134 ([.int .i64 x].map .v) [] valK) = some (.bool (bif x == x then false else true)) := by kernel_rfl
    rw [show (bif x == x then false else true) = false by simp] at e
    exact one e
  · cases hF

def gm_nanI : Gam := ext gm_l3Sum 134 (specV f_nanI)
theorem gm_nanI_ok : GamOk Try.prog gm_nanI := ext_ok gm_l3Sum_ok ok_nanI

def f_nanU : List Value → Option (Value × List Bool)
  | [.int .u64 x] => some (.bool false, [])
  | _ => none

theorem ok_nanU : SpecOk Try.prog 126 (specV f_nanU) := by
  refine mkV (n := 100) gm_nanI_ok Try.func126 rfl fun vs x ob hF ho => ?_
  unfold f_nanU at hF
  split at hF
  · rename_i x
    simp only [Option.some.injEq, Prod.mk.injEq] at hF
    obtain ⟨rfl, rfl⟩ := hF
    have e : getV (execF Try.prog gm_nanI noLam 100 Try.f126 ([.int .u64 x].map .v) [] valK) = some (.bool (bif x == x then false else true)) := by kernel_rfl
    rw [show (bif x == x then false else true) = false by simp] at e
    exact one e
  · cases hF

def gm_nanU : Gam := ext gm_nanI 126 (specV f_nanU)
theorem gm_nanU_ok : GamOk Try.prog gm_nanU := ext_ok gm_nanI_ok ok_nanU

def f_cmpI : List Value → Option (Value × List Bool)
  | [.int .i64 x, .int .i64 y] => some (.int .i64 (sgZ x y), [])
  | _ => none

theorem ok_cmpI : SpecOk Try.prog 125 (specV f_cmpI) := by
  refine mkV (n := 100) gm_nanU_ok Try.func125 rfl fun vs x ob hF ho => ?_
  unfold f_cmpI at hF
  split at hF
  · rename_i x y
    simp only [Option.some.injEq, Prod.mk.injEq] at hF
    obtain ⟨rfl, rfl⟩ := hF
    have e : execF Try.prog gm_nanU noLam 100 Try.f125 ([.int .i64 x, .int .i64 y].map .v) [] valK = cond (decide (x < y)) (rv (.int .i64 (-1))) (cond (decide (x > y)) (rv (.int .i64 1)) (rv (.int .i64 0))) := by kernel_rfl
    rw [e]
    exact gives_of (by simp only [outV_cond, outV_rv, cond_some, cond_int, sgZ])
  · cases hF

def gm_cmpI : Gam := ext gm_nanU 125 (specV f_cmpI)
theorem gm_cmpI_ok : GamOk Try.prog gm_cmpI := ext_ok gm_nanU_ok ok_cmpI

def f_cmpU : List Value → Option (Value × List Bool)
  | [.int .u64 x, .int .u64 y] => some (.int .i64 (sgZ x y), [])
  | _ => none

theorem ok_cmpU : SpecOk Try.prog 119 (specV f_cmpU) := by
  refine mkV (n := 100) gm_cmpI_ok Try.func119 rfl fun vs x ob hF ho => ?_
  unfold f_cmpU at hF
  split at hF
  · rename_i x y
    simp only [Option.some.injEq, Prod.mk.injEq] at hF
    obtain ⟨rfl, rfl⟩ := hF
    have e : execF Try.prog gm_cmpI noLam 100 Try.f119 ([.int .u64 x, .int .u64 y].map .v) [] valK = cond (decide (x < y)) (rv (.int .i64 (-1))) (cond (decide (x > y)) (rv (.int .i64 1)) (rv (.int .i64 0))) := by kernel_rfl
    rw [e]
    exact gives_of (by simp only [outV_cond, outV_rv, cond_some, cond_int, sgZ])
  · cases hF

def gm_cmpU : Gam := ext gm_cmpI 119 (specV f_cmpU)
theorem gm_cmpU_ok : GamOk Try.prog gm_cmpU := ext_ok gm_cmpI_ok ok_cmpU

def f_size : List Value → Option (Value × List Bool)
  | [.int .i64 x] => some (.int .u64 (x.natAbs : Int), [inR x (-9223372036854775808) 9223372036854775807])
  | _ => none

theorem ok_size : SpecOk Try.prog 117 (specV f_size) := by
  refine mkV (n := 100) gm_cmpU_ok Try.func117 rfl fun vs x ob hF ho => ?_
  unfold f_size at hF
  split at hF
  · rename_i x
    simp only [Option.some.injEq, Prod.mk.injEq] at hF
    obtain ⟨rfl, rfl⟩ := hF
    have hb := inR_iff.1 (show inR x (-9223372036854775808) 9223372036854775807 = true by simpa [obls] using ho)
    have e : getV (execF Try.prog gm_cmpU noLam 100 Try.f117 ([.int .i64 x].map .v) [] valK) = some (.int .u64 (U (if W (0 - x) > x then W (0 - x) else x))) := by kernel_rfl
    rw [size_eq hb.1 hb.2] at e
    exact one e
  · cases hF

def gm_size : Gam := ext gm_cmpU 117 (specV f_size)
theorem gm_size_ok : GamOk Try.prog gm_size := ext_ok gm_cmpU_ok ok_size

def f_l3Size : List Value → Option (Value × List Bool)
  | [.int .i64 x] => some (.int .u64 (x.natAbs : Int), [inR x (-9223372036854775808) 9223372036854775807])
  | _ => none

theorem ok_l3Size : SpecOk Try.prog 111 (specV f_l3Size) := by
  refine mkV (n := 100) gm_size_ok Try.func111 rfl fun vs x ob hF ho => ?_
  unfold f_l3Size at hF
  split at hF
  · rename_i x
    simp only [Option.some.injEq, Prod.mk.injEq] at hF
    obtain ⟨rfl, rfl⟩ := hF
    have hb := inR_iff.1 (show inR x (-9223372036854775808) 9223372036854775807 = true by simpa [obls] using ho)
    have e : getV (execF Try.prog gm_size noLam 100 Try.f111 ([.int .i64 x].map .v) [] valK) = some (.int .u64 (U (if W (0 - x) > x then W (0 - x) else x))) := by kernel_rfl
    rw [size_eq hb.1 hb.2] at e
    exact one e
  · cases hF

def gm_l3Size : Gam := ext gm_size 111 (specV f_l3Size)
theorem gm_l3Size_ok : GamOk Try.prog gm_l3Size := ext_ok gm_size_ok ok_l3Size

def f_l3Square : List Value → Option (Value × List Bool)
  | [.int .u64 x] => some (.tuple #[.int .u64 (x * x / 18446744073709551616), .int .u64 (x * x % 18446744073709551616)], [decide (0 ≤ x), decide (x < 18446744073709551616)])
  | _ => none

theorem ok_l3Square : SpecOk Try.prog 110 (specV f_l3Square) := by
  refine mkV (n := 100) gm_l3Size_ok Try.func110 rfl fun vs x ob hF ho => ?_
  unfold f_l3Square at hF
  split at hF
  · rename_i x
    simp only [Option.some.injEq, Prod.mk.injEq] at hF
    obtain ⟨rfl, rfl⟩ := hF
    obtain ⟨h0, h1⟩ := obl2 ho
    have h0 := of_decide_eq_true h0
    have h1 := of_decide_eq_true h1
    have e : execF Try.prog gm_l3Size noLam 100 Try.f110 ([.int .u64 x].map .v) [] valK = cond (decide (U (U (maskU x * maskU x) + U (U (maskU x * shrU x 32) * 8589934592)) < U (maskU x * maskU x)))
      (rt [.v (.int .u64 (U (U (U (shrU x 32 * shrU x 32) + shrU (U (maskU x * shrU x 32)) 31) + 1))), .v (.int .u64 (U (U (maskU x * maskU x) + U (U (maskU x * shrU x 32) * 8589934592))))])
      (rt [.v (.int .u64 (U (U (shrU x 32 * shrU x 32) + shrU (U (maskU x * shrU x 32)) 31))), .v (.int .u64 (U (U (maskU x * maskU x) + U (U (maskU x * shrU x 32) * 8589934592))))]) := by kernel_rfl
    rw [e, maskU_eq h0 h1, shr32, shr31]
    obtain ⟨p1, p2⟩ := sq_parts h0 h1
    clear e
    rw [p1]
    rw [p1] at p2
    by_cases hc : x * x % 18446744073709551616 < U (x % 4294967296 * (x % 4294967296))
    · rw [if_pos hc] at p2
      rw [decide_eq_true hc, cond_true, p2]
      exact one rfl
    · rw [if_neg hc] at p2
      rw [decide_eq_false hc, cond_false, p2]
      exact one rfl
  · cases hF

def gm_l3Square : Gam := ext gm_l3Size 110 (specV f_l3Square)
theorem gm_l3Square_ok : GamOk Try.prog gm_l3Square := ext_ok gm_l3Size_ok ok_l3Square

def f_mul64 : List Value → Option (Value × List Bool)
  | [.int .u64 x, .int .u64 y] => some (.tuple #[.int .u64 (x * y / 18446744073709551616), .int .u64 (U (x * y))], [decide (0 ≤ x), decide (x < 18446744073709551616), decide (0 ≤ y), decide (y < 18446744073709551616)])
  | _ => none

theorem ok_mul64 : SpecOk Try.prog 116 (specV f_mul64) := by
  refine mkV (n := 100) gm_l3Square_ok Try.func116 rfl fun vs x ob hF ho => ?_
  unfold f_mul64 at hF
  split at hF
  · rename_i x y
    simp only [Option.some.injEq, Prod.mk.injEq] at hF
    obtain ⟨rfl, rfl⟩ := hF
    simp only [obls, List.all_cons, List.all_nil, Bool.and_true, Bool.and_eq_true, id, decide_eq_true_eq] at ho
    obtain ⟨h0, h1, k0, k1⟩ := ho
    have e : getV (execF Try.prog gm_l3Square noLam 100 Try.f116 ([.int .u64 x, .int .u64 y].map .v) [] valK) = some (.tuple #[.int .u64 (U (U (U (shrU x 32 * shrU y 32) + shrU (U (U (shrU x 32 * maskU y) + shrU (U (maskU x * maskU y)) 32)) 32) + shrU (U (maskU (U (U (shrU x 32 * maskU y) + shrU (U (maskU x * maskU y)) 32)) + U (maskU x * shrU y 32))) 32)), .int .u64 (U (x * y))]) := by kernel_rfl
    obtain ⟨p1, p2, p3⟩ := mul_parts h0 h1 k0 k1
    simp only [shr32] at e
    rw [maskU_eq h0 h1, maskU_eq k0 k1, maskU_eq p2 p3, p1] at e
    exact one e
  · cases hF

def gm_mul64 : Gam := ext gm_l3Square 116 (specV f_mul64)
theorem gm_mul64_ok : GamOk Try.prog gm_mul64 := ext_ok gm_l3Square_ok ok_mul64

end Go.Proofs.Ytkbdppnlojlcdaa
