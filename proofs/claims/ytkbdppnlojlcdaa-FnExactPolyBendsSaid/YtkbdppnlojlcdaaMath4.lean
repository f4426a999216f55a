/- The sign of x + y root 2. Plain numbers. -/
import Derived.Test.YtkbdppnlojlcdaaMath3
namespace Go.Proofs.Ytkbdppnlojlcdaa
open Go.RowKit

theorem no_root : ∀ (n x y : Nat), x ≤ n → x * x = 2 * (y * y) → x = 0
  | 0, x, y, h, _ => by omega
  | n + 1, x, y, h, e => by
    rcases Nat.eq_zero_or_pos x with hx | hx
    · exact hx
    · exfalso
      have h2 : x % 2 = 0 := by
        have : (x * x) % 2 = 0 := by omega
        rw [Nat.mul_mod] at this
        rcases Nat.mod_two_eq_zero_or_one x with h | h
        · exact h
        · rw [h] at this; simp at this
      obtain ⟨a, rfl⟩ : ∃ a, x = 2 * a := ⟨x / 2, by omega⟩
      have e1 : y * y = 2 * (a * a) := by
        have : 2 * a * (2 * a) = 4 * (a * a) := by rw [Nat.mul_mul_mul_comm]
        omega
      have ha : a * a < y * y := by
        have : 0 < a * a := Nat.mul_pos (by omega) (by omega)
        omega
      have hy : y * y < 2 * a * (2 * a) := by
        have : 2 * a * (2 * a) = 4 * (a * a) := by rw [Nat.mul_mul_mul_comm]
        have : 0 < a * a := Nat.mul_pos (by omega) (by omega)
        omega
      have hlt : y < 2 * a := by
        rcases Nat.lt_or_ge y (2 * a) with h | h
        · exact h
        · have := Nat.mul_le_mul h h; omega
      have := no_root n y a (by omega) e1
      subst this
      omega

/-- The sign of x + y root 2. -/
def sg2 (x y : Int) : Int :=
  if 0 ≤ x ∧ 0 ≤ y then (if x = 0 ∧ y = 0 then 0 else 1)
  else if x ≤ 0 ∧ y ≤ 0 then -1
  else if x < 0 then (if x * x > 2 * (y * y) then -1 else 1)
  else (if x * x > 2 * (y * y) then 1 else -1)

abbrev topU (h l : Int) : Int := U ↑(BitVec.ofInt IntKind.u64.bits (U (h * 2)) ||| BitVec.ofInt IntKind.u64.bits (shrU l 63)).toNat
theorem topU_eq {h l : Int} (h0 : 0 ≤ h) (h1 : h * 2 < 18446744073709551616) (l0 : 0 ≤ l) (l1 : l < 18446744073709551616) : topU h l = h * 2 + l / 9223372036854775808 := by
  obtain ⟨a, rfl⟩ := Int.eq_ofNat_of_zero_le h0
  obtain ⟨b, hb⟩ := Int.eq_ofNat_of_zero_le (a := l / 9223372036854775808) (by omega)
  have hb2 : b < 2 := by omega
  show U _ = _
  rw [shr63, u64_in (n := (a : Int) * 2) (by omega) h1, hb]
  have e : (BitVec.ofInt IntKind.u64.bits ((a : Int) * 2) ||| BitVec.ofInt IntKind.u64.bits (b : Int)).toNat = a * 2 + b := by
    rw [BitVec.toNat_or]
    simp only [BitVec.toNat_ofInt, IntKind.bits]
    have e1 : (((a : Int) * 2) % ((2 ^ 64 : Nat) : Int)).toNat = a * 2 := by omega
    have e2 : ((b : Int) % ((2 ^ 64 : Nat) : Int)).toNat = b := by omega
    rw [e1, e2]
    have := Nat.shiftLeft_add_eq_or_of_lt (i := 1) (b := b) (by omega) a
    rw [Nat.shiftLeft_eq] at this
    simpa using this.symm
  rw [e, u64_in (by omega) (by omega)]
  omega

/-- Squares of 64 bits against twice squares. -/
theorem sq_cmp {x y : Int} (hx0 : -9223372036854775808 ≤ x) (hx1 : x ≤ 9223372036854775807) (hy0 : -9223372036854775808 ≤ y) (hy1 : y ≤ 9223372036854775807) :
    let X : Int := x.natAbs
    let Y : Int := y.natAbs
    let hx := X * X / 18446744073709551616
    let lx := X * X % 18446744073709551616
    let hy := Y * Y / 18446744073709551616
    let ly := Y * Y % 18446744073709551616
    let top := topU hy ly
    let rest := U (ly * 2)
    (hx > top ∨ (hx = top ∧ lx > rest) ↔ x * x > 2 * (y * y)) ∧ (hx = top ∧ lx = rest ↔ x * x = 2 * (y * y)) := by
  intro X Y hx lx hy ly top rest
  have eX : X * X = x * x := by show (x.natAbs : Int) * x.natAbs = _; exact Int.natAbs_mul_self
  have eY : Y * Y = y * y := by show (y.natAbs : Int) * y.natAbs = _; exact Int.natAbs_mul_self
  have bY : 0 ≤ Y * Y ∧ Y * Y ≤ 9223372036854775808 * 9223372036854775808 := mul_bound (by show (0 : Int) ≤ (y.natAbs : Int); omega) (by show (0 : Int) ≤ (y.natAbs : Int); omega) (by show (y.natAbs : Int) ≤ _; omega) (by show (y.natAbs : Int) ≤ _; omega)
  have bX : 0 ≤ X * X ∧ X * X ≤ 9223372036854775808 * 9223372036854775808 := mul_bound (by show (0 : Int) ≤ (x.natAbs : Int); omega) (by show (0 : Int) ≤ (x.natAbs : Int); omega) (by show (x.natAbs : Int) ≤ _; omega) (by show (x.natAbs : Int) ≤ _; omega)
  have ht : top = hy * 2 + ly / 9223372036854775808 := topU_eq (by show 0 ≤ Y * Y / _; omega) (by show Y * Y / 18446744073709551616 * 2 < _; omega) (by show 0 ≤ Y * Y % _; omega) (by show Y * Y % 18446744073709551616 < _; omega)
  have hr : rest = (ly * 2) % 18446744073709551616 := u64_mod _
  rw [ht, hr, ← eX, ← eY]
  simp only [hx, lx, hy, ly]
  generalize X * X = P at *
  generalize Y * Y = R at *
  clear ht hr eX eY
  omega

theorem no_root_int {x y : Int} (h : x * x = 2 * (y * y)) : x = 0 := by
  have e : x.natAbs * x.natAbs = 2 * (y.natAbs * y.natAbs) := by
    have h1 : ((x.natAbs * x.natAbs : Nat) : Int) = ((2 * (y.natAbs * y.natAbs) : Nat) : Int) := by
      push_cast
      rw [Int.natAbs_mul_self', Int.natAbs_mul_self']
      exact h
    exact_mod_cast h1
  have := no_root _ _ _ (Nat.le_refl _) e
  omega

theorem sgZ_cases (a b : Int) : (a < b ∧ sgZ a b = -1) ∨ (a = b ∧ sgZ a b = 0) ∨ (a > b ∧ sgZ a b = 1) := by
  unfold sgZ
  by_cases h1 : a < b
  · exact .inl ⟨h1, by rw [decide_eq_true h1]; rfl⟩
  · by_cases h2 : a > b
    · exact .inr (.inr ⟨h2, by rw [decide_eq_false h1, decide_eq_true h2]; rfl⟩)
    · exact .inr (.inl ⟨by omega, by rw [decide_eq_false h1, decide_eq_false h2]; rfl⟩)

theorem beqI (a b : Int) : (a == b) = decide (a = b) := by
  by_cases h : a = b
  · subst h; simp
  · simp [h]

/-- By the signs of both, and then by the squares. -/
theorem signA_eq {x y : Int} {u1 u2 v1 v2 : Int} (h1 : u1 > v1 ∨ (u1 = v1 ∧ u2 > v2) ↔ x * x > 2 * (y * y)) (h2 : u1 = v1 ∧ u2 = v2 ↔ x * x = 2 * (y * y)) :
    (bif sgZ x 0 == sgZ y 0 then sgZ x 0 else bif sgZ y 0 == 0 then sgZ x 0 else bif sgZ x 0 == 0 then sgZ y 0 else
      bif sgZ u1 v1 != 0 then (bif sgZ u1 v1 == 1 then sgZ x 0 else bif sgZ u1 v1 == -1 then sgZ y 0 else 0) else
      bif sgZ u2 v2 != 0 then (bif sgZ u2 v2 == 1 then sgZ x 0 else bif sgZ u2 v2 == -1 then sgZ y 0 else 0) else 0) = sg2 x y := by
  have h3 : x * x = 2 * (y * y) → x = 0 := no_root_int
  unfold sg2
  generalize x * x = P at *
  generalize y * y = R at *
  rcases sgZ_cases x 0 with ⟨a1, a2⟩ | ⟨a1, a2⟩ | ⟨a1, a2⟩ <;> rcases sgZ_cases y 0 with ⟨b1, b2⟩ | ⟨b1, b2⟩ | ⟨b1, b2⟩ <;> rw [a2, b2] <;>
    first
      | (simp only [show ((-1 : Int) == -1) = true from rfl, show ((0 : Int) == 0) = true from rfl, show ((1 : Int) == 1) = true from rfl, show ((-1 : Int) == 0) = false from rfl, show ((-1 : Int) == 1) = false from rfl, show ((1 : Int) == 0) = false from rfl, show ((1 : Int) == -1) = false from rfl, show ((0 : Int) == 1) = false from rfl, show ((0 : Int) == -1) = false from rfl, cond_true, cond_false]
         repeat' split
         all_goals omega)
      | (rcases sgZ_cases u1 v1 with ⟨c1, c2⟩ | ⟨c1, c2⟩ | ⟨c1, c2⟩ <;> rcases sgZ_cases u2 v2 with ⟨d1, d2⟩ | ⟨d1, d2⟩ | ⟨d1, d2⟩ <;> rw [c2, d2] <;>
          simp only [bne, show ((-1 : Int) == -1) = true from rfl, show ((0 : Int) == 0) = true from rfl, show ((1 : Int) == 1) = true from rfl, show ((-1 : Int) == 0) = false from rfl, show ((-1 : Int) == 1) = false from rfl, show ((1 : Int) == 0) = false from rfl, show ((1 : Int) == -1) = false from rfl, show ((0 : Int) == 1) = false from rfl, show ((0 : Int) == -1) = false from rfl, cond_true, cond_false, Bool.not_true, Bool.not_false] <;>
          (repeat' split) <;> omega)

theorem flat_eq {x y : Int} (h : 0 ≤ x ∧ 0 ≤ y ∨ x ≤ 0 ∧ y ≤ 0) :
    (if (if IntKind.i64.wrap ((if (if x < 1 then x else 1) > -1 then (if x < 1 then x else 1) else -1) + (if (if y < 1 then y else 1) > -1 then (if y < 1 then y else 1) else -1)) > -1 then IntKind.i64.wrap ((if (if x < 1 then x else 1) > -1 then (if x < 1 then x else 1) else -1) + (if (if y < 1 then y else 1) > -1 then (if y < 1 then y else 1) else -1)) else -1) < 1 then
      (if IntKind.i64.wrap ((if (if x < 1 then x else 1) > -1 then (if x < 1 then x else 1) else -1) + (if (if y < 1 then y else 1) > -1 then (if y < 1 then y else 1) else -1)) > -1 then IntKind.i64.wrap ((if (if x < 1 then x else 1) > -1 then (if x < 1 then x else 1) else -1) + (if (if y < 1 then y else 1) > -1 then (if y < 1 then y else 1) else -1)) else -1) else 1) = sg2 x y := by
  have e : ∀ z : Int, (if (if z < 1 then z else 1) > -1 then (if z < 1 then z else 1) else -1) = (if z < 0 then -1 else if z = 0 then 0 else 1) := by
    intro z
    repeat' split
    all_goals omega
  rw [e x, e y]
  have w : ∀ n : Int, -2 ≤ n → n ≤ 2 → IntKind.i64.wrap n = n := fun n h1 h2 => w64_in (by omega) (by omega)
  rw [w _ (by repeat' split; all_goals omega) (by repeat' split; all_goals omega)]
  unfold sg2
  generalize x * x = P at *
  generalize y * y = R at *
  repeat' split
  all_goals omega

end Go.Proofs.Ytkbdppnlojlcdaa
