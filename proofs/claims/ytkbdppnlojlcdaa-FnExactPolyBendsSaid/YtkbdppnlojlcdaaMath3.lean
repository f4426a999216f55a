/- Squares in two parts of 64 bits; signs. Plain numbers. -/
import Derived.Test.YtkbdppnlojlcdaaMath2
namespace Go.Proofs.Ytkbdppnlojlcdaa
open Go.RowKit

abbrev U (n : Int) : Int := IntKind.u64.wrap n
theorem u64_in {n : Int} (h0 : 0 ≤ n) (h1 : n < 18446744073709551616) : U n = n := by
  have : U n = n % 18446744073709551616 := by simp [U, IntKind.wrap, IntKind.signed, IntKind.bits]
  rw [this]; omega
theorem u64_mod (n : Int) : U n = n % 18446744073709551616 := by simp [U, IntKind.wrap, IntKind.signed, IntKind.bits]

abbrev maskU (x : Int) : Int := U ↑(BitVec.ofInt IntKind.u64.bits x &&& BitVec.ofInt IntKind.u64.bits 4294967295).toNat
theorem maskU_eq {x : Int} (h0 : 0 ≤ x) (h1 : x < 18446744073709551616) : maskU x = x % 4294967296 := by
  obtain ⟨k, rfl⟩ := Int.eq_ofNat_of_zero_le h0
  have e : (BitVec.ofInt IntKind.u64.bits (k : Int) &&& BitVec.ofInt IntKind.u64.bits 4294967295).toNat = k % 4294967296 := by
    rw [BitVec.toNat_and]
    simp only [BitVec.toNat_ofInt, IntKind.bits]
    have e1 : ((k : Int) % ((2 ^ 64 : Nat) : Int)).toNat = k := by omega
    have e2 : ((4294967295 : Int) % ((2 ^ 64 : Nat) : Int)).toNat = 2 ^ 32 - 1 := by decide
    rw [e1, e2, Nat.and_two_pow_sub_one_eq_mod]
  show U _ = _
  rw [e, u64_in (by omega) (by omega)]
  omega

abbrev shrU (x : Int) (n : Int) : Int := x.fdiv (2 ^ min n.toNat IntKind.u64.bits)
theorem shr32 (x : Int) : shrU x 32 = x / 4294967296 := by
  show x.fdiv 4294967296 = _
  rw [Int.fdiv_eq_ediv_of_nonneg _ (by decide)]
theorem shr31 (x : Int) : shrU x 31 = x / 2147483648 := by
  show x.fdiv 2147483648 = _
  rw [Int.fdiv_eq_ediv_of_nonneg _ (by decide)]
theorem shr63 (x : Int) : shrU x 63 = x / 9223372036854775808 := by
  show x.fdiv 9223372036854775808 = _
  rw [Int.fdiv_eq_ediv_of_nonneg _ (by decide)]

theorem mul_bound {a b : Int} {m : Int} (ha : 0 ≤ a) (hb : 0 ≤ b) (ha1 : a ≤ m) (hb1 : b ≤ m) : 0 ≤ a * b ∧ a * b ≤ m * m :=
  ⟨Int.mul_nonneg ha hb, Int.mul_le_mul ha1 hb1 hb (by omega)⟩

/-- The square, by halves. -/
theorem sq_parts {x : Int} (h0 : 0 ≤ x) (h1 : x < 18446744073709551616) :
    let lo := x % 4294967296
    let hi := x / 4294967296
    let mid := U (lo * hi)
    let out := U (lo * lo)
    let sum := U (out + U (mid * 8589934592))
    let top := U (U (hi * hi) + mid / 2147483648)
    sum = x * x % 18446744073709551616 ∧ (if sum < out then U (top + 1) else top) = x * x / 18446744073709551616 := by
  intro lo hi mid out sum top
  have hlo0 : 0 ≤ lo := Int.emod_nonneg _ (by decide)
  have hlo1 : lo ≤ 4294967295 := by show x % 4294967296 ≤ _; omega
  have hhi0 : 0 ≤ hi := by show 0 ≤ x / 4294967296; omega
  have hhi1 : hi ≤ 4294967295 := by show x / 4294967296 ≤ _; omega
  have hx : x = hi * 4294967296 + lo := by show x = x / 4294967296 * 4294967296 + x % 4294967296; omega
  have hxx : x * x = (hi * hi) * 18446744073709551616 + (lo * hi) * 8589934592 + lo * lo := by
    rw [hx]
    simp only [Int.add_mul, Int.mul_add]
    rw [Int.mul_comm (hi * 4294967296) lo, ← Int.mul_assoc lo hi, show hi * 4294967296 * (hi * 4294967296) = hi * hi * 18446744073709551616 by
      rw [Int.mul_assoc, Int.mul_left_comm 4294967296 hi 4294967296, ← Int.mul_assoc]; rfl]
    omega
  obtain ⟨A0, A1⟩ := mul_bound hlo0 hlo0 hlo1 hlo1
  obtain ⟨B0, B1⟩ := mul_bound hlo0 hhi0 hlo1 hhi1
  obtain ⟨C0, C1⟩ := mul_bound hhi0 hhi0 hhi1 hhi1
  have hmid : mid = lo * hi := u64_in B0 (by omega)
  have hout : out = lo * lo := u64_in A0 (by omega)
  have hC : U (hi * hi) = hi * hi := u64_in C0 (by omega)
  have hsum : sum = (lo * lo + lo * hi * 8589934592 % 18446744073709551616) % 18446744073709551616 := by
    show U (out + U (mid * 8589934592)) = _
    rw [hout, hmid, u64_mod, u64_mod]
  have htop : top = hi * hi + lo * hi / 2147483648 := by
    show U (U (hi * hi) + mid / 2147483648) = _
    rw [hC, hmid]
    exact u64_in (by omega) (by omega)
  rw [htop, hsum, hout, hxx, u64_mod]
  generalize lo * lo = A at *
  generalize lo * hi = B at *
  generalize hi * hi = C at *
  clear hxx hmid hout hC hsum htop
  constructor
  · omega
  · split <;> omega

/-- The product, by halves. -/
theorem mul_parts {x y : Int} (h0 : 0 ≤ x) (h1 : x < 18446744073709551616) (k0 : 0 ≤ y) (k1 : y < 18446744073709551616) :
    let x0 := x % 4294967296
    let x1 := x / 4294967296
    let y0 := y % 4294967296
    let y1 := y / 4294967296
    let t := U (U (x1 * y0) + U (x0 * y0) / 4294967296)
    U (U (U (x1 * y1) + t / 4294967296) + U (t % 4294967296 + U (x0 * y1)) / 4294967296) = x * y / 18446744073709551616 ∧ 0 ≤ t ∧ t < 18446744073709551616 := by
  intro x0 x1 y0 y1 t
  have a0 : 0 ≤ x0 := Int.emod_nonneg _ (by decide)
  have a1 : x0 ≤ 4294967295 := by show x % 4294967296 ≤ _; omega
  have b0 : 0 ≤ x1 := by show 0 ≤ x / 4294967296; omega
  have b1 : x1 ≤ 4294967295 := by show x / 4294967296 ≤ _; omega
  have c0 : 0 ≤ y0 := Int.emod_nonneg _ (by decide)
  have c1 : y0 ≤ 4294967295 := by show y % 4294967296 ≤ _; omega
  have d0 : 0 ≤ y1 := by show 0 ≤ y / 4294967296; omega
  have d1 : y1 ≤ 4294967295 := by show y / 4294967296 ≤ _; omega
  have hx : x = x1 * 4294967296 + x0 := by show x = x / 4294967296 * 4294967296 + x % 4294967296; omega
  have hy : y = y1 * 4294967296 + y0 := by show y = y / 4294967296 * 4294967296 + y % 4294967296; omega
  have hxy : x * y = (x1 * y1) * 18446744073709551616 + (x1 * y0 + x0 * y1) * 4294967296 + x0 * y0 := by
    rw [hx, hy]
    simp only [Int.add_mul, Int.mul_add]
    rw [show x1 * 4294967296 * (y1 * 4294967296) = x1 * y1 * 18446744073709551616 by
      rw [Int.mul_assoc, Int.mul_left_comm 4294967296 y1 4294967296, ← Int.mul_assoc]; rfl, show x1 * 4294967296 * y0 = x1 * y0 * 4294967296 by rw [Int.mul_assoc, Int.mul_comm 4294967296 y0, Int.mul_assoc], ← Int.mul_assoc x0 y1]
    omega
  obtain ⟨A0, A1⟩ := mul_bound a0 c0 a1 c1
  obtain ⟨B0, B1⟩ := mul_bound b0 c0 b1 c1
  obtain ⟨C0, C1⟩ := mul_bound a0 d0 a1 d1
  obtain ⟨D0, D1⟩ := mul_bound b0 d0 b1 d1
  have ht : t = x1 * y0 + x0 * y0 / 4294967296 := by
    show U (U (x1 * y0) + U (x0 * y0) / 4294967296) = _
    rw [u64_in B0 (by omega), u64_in A0 (by omega), u64_in (by omega) (by omega)]
  rw [ht, hxy, u64_in C0 (by omega), u64_in D0 (by omega)]
  generalize x0 * y0 = A at *
  generalize x1 * y0 = B at *
  generalize x0 * y1 = C at *
  generalize x1 * y1 = D at *
  clear hxy ht t
  refine ⟨?_, by omega, by omega⟩
  rw [u64_in (n := (B + A / 4294967296) % 4294967296 + C) (by omega) (by omega), u64_in (n := D + (B + A / 4294967296) / 4294967296) (by omega) (by omega), u64_in (by omega) (by omega)]
  omega

theorem size_eq {x : Int} (h0 : -9223372036854775808 ≤ x) (h1 : x ≤ 9223372036854775807) : U (if W (0 - x) > x then W (0 - x) else x) = (x.natAbs : Int) := by
  by_cases hx : x = -9223372036854775808
  · subst hx; rfl
  · rw [w64_in (x := 0 - x) (by omega) (by omega)]
    split
    · rw [u64_in (by omega) (by omega)]; omega
    · rw [u64_in (by omega) (by omega)]; omega

end Go.Proofs.Ytkbdppnlojlcdaa
