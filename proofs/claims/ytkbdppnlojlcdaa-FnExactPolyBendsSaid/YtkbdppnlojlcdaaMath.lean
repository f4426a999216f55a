/- Plain algebra: exact points over the 24th roots as eight integers, their products, mirrors, real and imaginary parts, and signs of surds, all in wrapped 64-bit integers. No program, no conditions. -/
import Derived.RowKit
import Derived.Laws.BitsLemmas
namespace Go.Proofs.Ytkbdppnlojlcdaa
open Go.RowKit

/-- The wrap of a 64-bit integer. -/
def W (n : Int) : Int := IntKind.i64.wrap n

theorem W_eq (x : Int) : W x = (x + 9223372036854775808) % 18446744073709551616 - 9223372036854775808 := by
  exact IntKind.wrap_i64 x
theorem w64_ex (x : Int) : ∃ q, W x = x + 18446744073709551616 * q := by
  refine ⟨-((x + 9223372036854775808) / 18446744073709551616), ?_⟩
  simp only [W_eq]
  omega

theorem w64_add_mul (x q : Int) : W (x + 18446744073709551616 * q) = W x := by
  simp only [W_eq]
  omega

theorem w64_add_l (x y : Int) : W (W x + y) = W (x + y) := by
  obtain ⟨q, h⟩ := w64_ex x
  rw [h, show x + 18446744073709551616 * q + y = x + y + 18446744073709551616 * q from by omega, w64_add_mul]

theorem w64_add_r (x y : Int) : W (x + W y) = W (x + y) := by
  rw [Int.add_comm, w64_add_l, Int.add_comm]

theorem w64_sub_l (x y : Int) : W (W x - y) = W (x - y) := by
  obtain ⟨q, h⟩ := w64_ex x
  rw [h, show x + 18446744073709551616 * q - y = x - y + 18446744073709551616 * q from by omega, w64_add_mul]

theorem w64_sub_r (x y : Int) : W (x - W y) = W (x - y) := by
  obtain ⟨q, h⟩ := w64_ex y
  rw [h, show x - (y + 18446744073709551616 * q) = x - y + 18446744073709551616 * (-q) from by omega, w64_add_mul]

theorem w64_neg (x : Int) : W (-W x) = W (-x) := by
  have := w64_sub_r 0 x
  simpa using this

theorem w64_mul_l (x y : Int) : W (W x * y) = W (x * y) := by
  obtain ⟨q, h⟩ := w64_ex x
  rw [h, Int.add_mul, Int.mul_assoc, w64_add_mul]

theorem w64_mul_r (x y : Int) : W (x * W y) = W (x * y) := by
  rw [Int.mul_comm, w64_mul_l, Int.mul_comm]

theorem w64_add_mul_r (x y z : Int) : W (x + y * W z) = W (x + y * z) := by
  rw [← w64_add_r, w64_mul_r, w64_add_r]

theorem w64_w64 (x : Int) : W (W x) = W x := by
  have := w64_add_l x 0
  simpa using this

theorem w64_in {x : Int} (h1 : -9223372036854775808 ≤ x) (h2 : x ≤ 9223372036854775807) : W x = x := by
  simp only [W_eq]
  omega

theorem w64_range (x : Int) : -9223372036854775808 ≤ W x ∧ W x ≤ 9223372036854775807 := by
  simp only [W_eq]
  omega

def plusF (a b : Nat → Int) : Nat → Int := fun k => W (a k + b k)
def minusF (a b : Nat → Int) : Nat → Int := fun k => W (a k - b k)
def scaledF (a : Nat → Int) (n : Int) : Nat → Int := fun k => W (a k * n)
def sumF (a : Nat → Int) (n : Int) (b : Nat → Int) : Nat → Int := fun k => W (a k + n * b k)

/-- The coefficients of the product before they are reduced. -/
def convF (a b : Nat → Int) : Nat → Int
  | 0 => a 0 * b 0
  | 1 => a 0 * b 1 + a 1 * b 0
  | 2 => a 0 * b 2 + a 1 * b 1 + a 2 * b 0
  | 3 => a 0 * b 3 + a 1 * b 2 + a 2 * b 1 + a 3 * b 0
  | 4 => a 0 * b 4 + a 1 * b 3 + a 2 * b 2 + a 3 * b 1 + a 4 * b 0
  | 5 => a 0 * b 5 + a 1 * b 4 + a 2 * b 3 + a 3 * b 2 + a 4 * b 1 + a 5 * b 0
  | 6 => a 0 * b 6 + a 1 * b 5 + a 2 * b 4 + a 3 * b 3 + a 4 * b 2 + a 5 * b 1 + a 6 * b 0
  | 7 => a 0 * b 7 + a 1 * b 6 + a 2 * b 5 + a 3 * b 4 + a 4 * b 3 + a 5 * b 2 + a 6 * b 1 + a 7 * b 0
  | 8 => a 1 * b 7 + a 2 * b 6 + a 3 * b 5 + a 4 * b 4 + a 5 * b 3 + a 6 * b 2 + a 7 * b 1
  | 9 => a 2 * b 7 + a 3 * b 6 + a 4 * b 5 + a 5 * b 4 + a 6 * b 3 + a 7 * b 2
  | 10 => a 3 * b 7 + a 4 * b 6 + a 5 * b 5 + a 6 * b 4 + a 7 * b 3
  | 11 => a 4 * b 7 + a 5 * b 6 + a 6 * b 5 + a 7 * b 4
  | 12 => a 5 * b 7 + a 6 * b 6 + a 7 * b 5
  | 13 => a 6 * b 7 + a 7 * b 6
  | 14 => a 7 * b 7
  | _ => 0

/-- The product, in whole numbers. -/
def mulZ (a b : Nat → Int) : Nat → Int
  | 0 => convF a b 0 - convF a b 8 - convF a b 12
  | 1 => convF a b 1 - convF a b 9 - convF a b 13
  | 2 => convF a b 2 - convF a b 10 - convF a b 14
  | 3 => convF a b 3 - convF a b 11
  | 4 => convF a b 4 + convF a b 8
  | 5 => convF a b 5 + convF a b 9
  | 6 => convF a b 6 + convF a b 10
  | 7 => convF a b 7 + convF a b 11
  | _ => 0

def mulF (a b : Nat → Int) : Nat → Int := fun k => W (mulZ a b k)

/-- The mirrored point, in whole numbers. -/
def mirZ (a : Nat → Int) : Nat → Int
  | 0 => a 0 + a 4
  | 1 => a 3
  | 2 => a 2
  | 3 => a 1
  | 4 => -a 4
  | 5 => -a 3 - a 7
  | 6 => -a 2 - a 6
  | 7 => -a 1 - a 5
  | _ => 0

def mirF (a : Nat → Int) : Nat → Int := fun k => W (mirZ a k)

def reZ (c : Nat → Int) : Nat → Int
  | 0 => 4 * c 0 + 2 * c 4
  | 1 => c 1 + 2 * c 3 - c 5 + c 7
  | 2 => 2 * c 2
  | 3 => c 1 + c 5 - c 7
  | _ => 0

def imZ (c : Nat → Int) : Nat → Int
  | 0 => 2 * c 2 + 4 * c 6
  | 1 => -c 1 + 2 * c 3 + c 5 + c 7
  | 2 => 2 * c 4
  | 3 => c 1 + c 5 + c 7
  | _ => 0

def reF (c : Nat → Int) : Nat → Int := fun k => W (reZ c k)
def imF (c : Nat → Int) : Nat → Int := fun k => W (imZ c k)

/-- Times the root. -/
def stepF (a : Nat → Int) : Nat → Int
  | 0 => W (0 - a 7)
  | 4 => W (a 3 + a 7)
  | k + 1 => a k

def turnedF (a : Nat → Int) : Nat → Nat → Int
  | 0 => a
  | n + 1 => stepF (turnedF a n)

@[reducible] def zeroF : Nat → Int := fun _ => 0
/-- The number one. -/
def oneF : Nat → Int
  | 0 => 1
  | _ + 1 => 0
def rootF (t : Nat) : Nat → Int := turnedF oneF t

/-- The reference's product and mirrored point, in the order of its text. -/
def timesO (a b : Nat → Int) : Nat → Nat → Int
  | 0 => zeroF
  | k + 1 => sumF (timesO a b k) (a k) (turnedF b k)
def timesS (a b : Nat → Int) : Nat → Int := timesO a b 8

def mirrorO (a : Nat → Int) : Nat → Nat → Int
  | 0 => zeroF
  | k + 1 => sumF (mirrorO a k) (a k) (rootF ((24 - k) % 24))
def mirrorS (a : Nat → Int) : Nat → Int := mirrorO a 8

theorem forall8 {p : Nat → Prop} (h0 : p 0) (h1 : p 1) (h2 : p 2) (h3 : p 3) (h4 : p 4) (h5 : p 5) (h6 : p 6) (h7 : p 7) : ∀ k, k < 8 → p k := by
  intro k hk
  match k, hk with
  | 0, _ => exact h0
  | 1, _ => exact h1
  | 2, _ => exact h2
  | 3, _ => exact h3
  | 4, _ => exact h4
  | 5, _ => exact h5
  | 6, _ => exact h6
  | 7, _ => exact h7

theorem forall_succ {p : Nat → Prop} {n : Nat} (h : ∀ j, j < n → p j) (hn : p n) : ∀ j, j < n + 1 → p j := by
  intro j hj
  rcases Nat.lt_succ_iff_lt_or_eq.1 hj with h1 | h1
  · exact h j h1
  · subst h1; exact hn

theorem forall_zero {p : Nat → Prop} : ∀ j, j < 0 → p j := fun j hj => absurd hj (Nat.not_lt_zero j)

theorem timesS_eq (a b : Nat → Int) : ∀ k, k < 8 → timesS a b k = mulF a b k := by
  refine forall8 ?_ ?_ ?_ ?_ ?_ ?_ ?_ ?_ <;>
    (simp only [timesS, timesO, turnedF, sumF, stepF, zeroF, mulF, mulZ, convF, w64_add_l, w64_add_r, w64_add_mul_r, w64_sub_r, Int.zero_sub, w64_neg]
     congr 1
     grind)

theorem root0 : rootF 0 0 = 1 ∧ rootF 0 1 = 0 ∧ rootF 0 2 = 0 ∧ rootF 0 3 = 0 ∧ rootF 0 4 = 0 ∧ rootF 0 5 = 0 ∧ rootF 0 6 = 0 ∧ rootF 0 7 = 0 := by decide +kernel
theorem root17 : rootF 17 0 = 0 ∧ rootF 17 1 = 0 ∧ rootF 17 2 = 0 ∧ rootF 17 3 = 0 ∧ rootF 17 4 = 0 ∧ rootF 17 5 = -1 ∧ rootF 17 6 = 0 ∧ rootF 17 7 = 0 := by decide +kernel
theorem root18 : rootF 18 0 = 0 ∧ rootF 18 1 = 0 ∧ rootF 18 2 = 0 ∧ rootF 18 3 = 0 ∧ rootF 18 4 = 0 ∧ rootF 18 5 = 0 ∧ rootF 18 6 = -1 ∧ rootF 18 7 = 0 := by decide +kernel
theorem root19 : rootF 19 0 = 0 ∧ rootF 19 1 = 0 ∧ rootF 19 2 = 0 ∧ rootF 19 3 = 0 ∧ rootF 19 4 = 0 ∧ rootF 19 5 = 0 ∧ rootF 19 6 = 0 ∧ rootF 19 7 = -1 := by decide +kernel
theorem root20 : rootF 20 0 = 1 ∧ rootF 20 1 = 0 ∧ rootF 20 2 = 0 ∧ rootF 20 3 = 0 ∧ rootF 20 4 = -1 ∧ rootF 20 5 = 0 ∧ rootF 20 6 = 0 ∧ rootF 20 7 = 0 := by decide +kernel
theorem root21 : rootF 21 0 = 0 ∧ rootF 21 1 = 1 ∧ rootF 21 2 = 0 ∧ rootF 21 3 = 0 ∧ rootF 21 4 = 0 ∧ rootF 21 5 = -1 ∧ rootF 21 6 = 0 ∧ rootF 21 7 = 0 := by decide +kernel
theorem root22 : rootF 22 0 = 0 ∧ rootF 22 1 = 0 ∧ rootF 22 2 = 1 ∧ rootF 22 3 = 0 ∧ rootF 22 4 = 0 ∧ rootF 22 5 = 0 ∧ rootF 22 6 = -1 ∧ rootF 22 7 = 0 := by decide +kernel
theorem root23 : rootF 23 0 = 0 ∧ rootF 23 1 = 0 ∧ rootF 23 2 = 0 ∧ rootF 23 3 = 1 ∧ rootF 23 4 = 0 ∧ rootF 23 5 = 0 ∧ rootF 23 6 = 0 ∧ rootF 23 7 = -1 := by decide +kernel

theorem mirrorS_eq (a : Nat → Int) : ∀ k, k < 8 → mirrorS a k = mirF a k := by
  refine forall8 ?_ ?_ ?_ ?_ ?_ ?_ ?_ ?_ <;>
    (simp only [mirrorS, mirrorO, Nat.reduceSub, Nat.reduceMod, sumF, zeroF, mirF, mirZ, w64_add_l, root0, root17, root18, root19, root20, root21, root22, root23]
     congr 1
     omega)

/-- The real part of a power of the root, times four, over 1 and the roots of 2, 3 and 6. -/
def cosT : Nat → Nat → Int
  | 0, 0 => 4
  | 1, 1 => 1
  | 1, 3 => 1
  | 2, 2 => 2
  | 3, 1 => 2
  | 4, 0 => 2
  | 5, 1 => -1
  | 5, 3 => 1
  | 7, 1 => 1
  | 7, 3 => -1
  | 8, 0 => -2
  | 9, 1 => -2
  | 10, 2 => -2
  | 11, 1 => -1
  | 11, 3 => -1
  | 12, 0 => -4
  | 13, 1 => -1
  | 13, 3 => -1
  | 14, 2 => -2
  | 15, 1 => -2
  | 16, 0 => -2
  | 17, 1 => 1
  | 17, 3 => -1
  | 19, 1 => -1
  | 19, 3 => 1
  | 20, 0 => 2
  | 21, 1 => 2
  | 22, 2 => 2
  | 23, 1 => 1
  | 23, 3 => 1
  | _, _ => 0

/-- The program's imaginary and real part, in the order of its text. -/
def imO (a : Nat → Int) : Nat → Nat → Int
  | 0 => zeroF
  | k + 1 => fun j => W (imO a k j + W (a k * cosT ((k + 18) % 24) j))
def reO (a : Nat → Int) : Nat → Nat → Int
  | 0 => zeroF
  | k + 1 => fun j => W (reO a k j + W (a k * cosT k j))

theorem forall4 {p : Nat → Prop} (h0 : p 0) (h1 : p 1) (h2 : p 2) (h3 : p 3) : ∀ k, k < 4 → p k := by
  intro k hk
  match k, hk with
  | 0, _ => exact h0
  | 1, _ => exact h1
  | 2, _ => exact h2
  | 3, _ => exact h3

theorem imO_eq (a : Nat → Int) : ∀ j, j < 4 → imO a 8 j = imF a j := by
  refine forall4 ?_ ?_ ?_ ?_ <;>
    (simp only [imO, Nat.reduceAdd, Nat.reduceMod, cosT, zeroF, imF, imZ, w64_add_l, w64_add_r]
     congr 1
     omega)

theorem reO_eq (a : Nat → Int) : ∀ j, j < 4 → reO a 8 j = reF a j := by
  refine forall4 ?_ ?_ ?_ ?_ <;>
    (simp only [reO, cosT, zeroF, reF, reZ, w64_add_l, w64_add_r]
     congr 1
     omega)

/-- 'low ≤ n and n ≤ high' -/
def inR (n lo hi : Int) : Bool := decide (lo ≤ n) && decide (n ≤ hi)

theorem inR_iff {n lo hi : Int} : inR n lo hi = true ↔ lo ≤ n ∧ n ≤ hi := by simp [inR]

/-- 'small', in the order of the text. -/
def smallF (a : Nat → Int) (lo hi : Int) : Bool :=
  bif !inR (a 0) lo hi then false else bif !inR (a 1) lo hi then false else bif !inR (a 2) lo hi then false else bif !inR (a 3) lo hi then false else
  bif !inR (a 4) lo hi then false else bif !inR (a 5) lo hi then false else bif !inR (a 6) lo hi then false else bif !inR (a 7) lo hi then false else true

theorem smallF_iff {a : Nat → Int} {lo hi : Int} : smallF a lo hi = true ↔ ∀ k, k < 8 → lo ≤ a k ∧ a k ≤ hi := by
  constructor
  · intro h
    have key : ∀ (b : Bool) (c : Bool), (bif !b then false else c) = true → b = true ∧ c = true := by intro b c; cases b <;> simp
    unfold smallF at h
    obtain ⟨h0, h⟩ := key _ _ h
    obtain ⟨h1, h⟩ := key _ _ h
    obtain ⟨h2, h⟩ := key _ _ h
    obtain ⟨h3, h⟩ := key _ _ h
    obtain ⟨h4, h⟩ := key _ _ h
    obtain ⟨h5, h⟩ := key _ _ h
    obtain ⟨h6, h⟩ := key _ _ h
    obtain ⟨h7, h⟩ := key _ _ h
    exact forall8 (inR_iff.1 h0) (inR_iff.1 h1) (inR_iff.1 h2) (inR_iff.1 h3) (inR_iff.1 h4) (inR_iff.1 h5) (inR_iff.1 h6) (inR_iff.1 h7)
  · intro h
    simp [smallF, inR_iff.2 (h 0 (by decide)), inR_iff.2 (h 1 (by decide)), inR_iff.2 (h 2 (by decide)), inR_iff.2 (h 3 (by decide)), inR_iff.2 (h 4 (by decide)), inR_iff.2 (h 5 (by decide)), inR_iff.2 (h 6 (by decide)), inR_iff.2 (h 7 (by decide))]

theorem emod_tmod {n : Int} (h0 : -9223372036854775808 ≤ n) (h1 : n ≤ 9223372036854775807) : (W (n.tmod 24 + 24)).tmod 24 = n % 24 := by
  have h : n.tmod 24 = n % 24 ∨ n.tmod 24 = n % 24 - 24 := by
    rcases Int.le_total 0 n with h | h
    · left; exact Int.tmod_eq_emod_of_nonneg h
    · have e1 : n.tmod 24 = -((-n) % 24) := by
        rw [← Int.neg_neg n, Int.neg_tmod, Int.tmod_eq_emod_of_nonneg (by omega)]
        simp
      omega
  rw [w64_in (by omega) (by omega), Int.tmod_eq_emod_of_nonneg (by omega)]
  omega
theorem modZ_eq {n : Int} : (bif decide (n.tmod 24 < 0) then W (n.tmod 24 + 24) else n.tmod 24) = n % 24 := by
  have h : (n.tmod 24 = n % 24 ∧ 0 ≤ n) ∨ (n.tmod 24 = -((-n) % 24) ∧ n ≤ 0) := by
    rcases Int.le_total 0 n with h | h
    · left; exact ⟨Int.tmod_eq_emod_of_nonneg h, h⟩
    · right
      refine ⟨?_, h⟩
      rw [← Int.neg_neg n, Int.neg_tmod, Int.tmod_eq_emod_of_nonneg (by omega)]
      simp
  by_cases hn : n.tmod 24 < 0
  · rw [decide_eq_true hn, cond_true, w64_in (by omega) (by omega)]
    omega
  · rw [decide_eq_false hn, cond_false]
    omega

/-- Eight numbers as a function. -/
def v8 (a0 a1 a2 a3 a4 a5 a6 a7 : Int) : Nat → Int
  | 0 => a0
  | 1 => a1
  | 2 => a2
  | 3 => a3
  | 4 => a4
  | 5 => a5
  | 6 => a6
  | 7 => a7
  | _ => 0
/-- Four numbers as a function. -/
def v4 (a0 a1 a2 a3 : Int) : Nat → Int
  | 0 => a0
  | 1 => a1
  | 2 => a2
  | 3 => a3
  | _ => 0

end Go.Proofs.Ytkbdppnlojlcdaa
