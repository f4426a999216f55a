/- Plain algebra: the program's own ways to the product, the mirrored point, and the signs. No program, no conditions. -/
import Derived.Test.YtkbdppnlojlcdaaMath
namespace Go.Proofs.Ytkbdppnlojlcdaa
open Go.RowKit

/-- One step of the reduction: the power k is written in lower ones. -/
def redStep (p : Nat → Int) (k : Nat) : Nat → Int := fun m => if m = k then 0 else if m + 4 = k then W (p m + p k) else if m + 8 = k then W (p m - p k) else p m
/-- d steps, from the power n - 1 on. -/
def redD (p : Nat → Int) (n : Nat) : Nat → Nat → Int
  | 0 => p
  | d + 1 => redStep (redD p n d) (n - 1 - d)

/-- The powers ahead of the reduction, of the mirrored point. -/
def mirP (a : Nat → Int) (m : Nat) : Int := if m = 0 then W (0 + a 0) else if 17 ≤ m ∧ m ≤ 23 then W (0 + a (24 - m)) else 0

set_option maxRecDepth 100000 in
set_option maxHeartbeats 4000000 in
theorem mir_eq (a : Nat → Int) : ∀ k, k < 8 → redD (mirP a) 25 17 k = mirF a k := by
  refine forall8 ?_ ?_ ?_ ?_ ?_ ?_ ?_ ?_ <;>
    simp [redD, redStep, mirP, mirF, mirZ, w64_w64, w64_neg, w64_add_l, w64_add_r, w64_sub_l, w64_sub_r] <;> (congr 1; omega)

/-- The powers ahead of the reduction, of the product, behind s of the sixty-four rounds. -/
def tP (a b : Nat → Int) : Nat → Nat → Int
  | 0 => zeroF
  | s + 1 => fun m => if m = s / 8 + s % 8 then W (tP a b s m + W (a (s / 8) * b (s % 8))) else tP a b s m

set_option maxRecDepth 100000 in
set_option maxHeartbeats 8000000 in
theorem tP_eq (a b : Nat → Int) : ∀ m, m < 15 → tP a b 64 m = W (convF a b m) := by
  iterate 15 refine forall_succ ?_ ?_
  · exact forall_zero
  all_goals
    simp [tP, convF, w64_w64, w64_add_l, w64_add_r]

set_option maxRecDepth 100000 in
set_option maxHeartbeats 4000000 in
theorem red15_eq (p q : Nat → Int) (h : ∀ m, m < 15 → p m = W (q m)) : redD p 15 7 0 = W (q 0 - q 8 - q 12) ∧ redD p 15 7 1 = W (q 1 - q 9 - q 13) ∧ redD p 15 7 2 = W (q 2 - q 10 - q 14) ∧
    redD p 15 7 3 = W (q 3 - q 11) ∧ redD p 15 7 4 = W (q 4 + q 8) ∧ redD p 15 7 5 = W (q 5 + q 9) ∧ redD p 15 7 6 = W (q 6 + q 10) ∧ redD p 15 7 7 = W (q 7 + q 11) := by
  refine ⟨?_, ?_, ?_, ?_, ?_, ?_, ?_, ?_⟩ <;>
    simp [redD, redStep, h, w64_w64, w64_neg, w64_add_l, w64_add_r, w64_sub_l, w64_sub_r] <;> (congr 1; omega)

theorem times_eq (a b : Nat → Int) : ∀ k, k < 8 → redD (tP a b 64) 15 7 k = mulF a b k := by
  obtain ⟨h0, h1, h2, h3, h4, h5, h6, h7⟩ := red15_eq _ _ (tP_eq a b)
  exact forall8 h0 h1 h2 h3 h4 h5 h6 h7


/-- The sign of a - b. -/
def sgZ (a b : Int) : Int := bif decide (a < b) then -1 else bif decide (a > b) then 1 else 0

end Go.Proofs.Ytkbdppnlojlcdaa
