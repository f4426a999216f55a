/- PolyBends of both, in each case. Conditions: a list of points. -/
import Derived.Test.YtkbdppnlojlcdaaL5
namespace Go.Proofs.Ytkbdppnlojlcdaa
open Go.RowKit
set_option maxRecDepth 100000

def gm_yb : Gam := ext gm_y 49 (specR md_list F_bends)
theorem gm_yb_ok : GamOk Try.prog gm_yb := ext_ok gm_y_ok ok_bends

theorem ok_bendsY : SpecOk Try.prog 16 (specR md_list F_bendsY) := by
  refine mkR (n := 100) (Λ := noLam) gm_yb_ok Try.func16 rfl fun sas fr hF ho => ?_
  unfold F_bendsY at hF
  split at hF
  · rename_i m g
    cases hF
    simp only [ob_cons] at ho
    obtain ⟨h1, h2, h3, _⟩ := ho
    refine ⟨[.row false m 8 (rowC (itC g)) 46], .cons (ABeq.row fun j hj => allC_get h1 j hj) .nil, noLam' _, ?_⟩
    have e : execF Try.prog gm_yb noLam 100 Try.f16 (avC 0 md_list [.row m g]) [.row false m 8 (rowC (itC g)) 46] (packK 1)
      = needs [Nat.ble (0 + m) m, allC m (fun q => rowC (itC g) (0 + q)), decide (m ≤ 2 ^ 38), f_valid (itC fun q => rowC (itC g) (0 + q)) m == true, Nat.ble (0 + m) m, allC m (fun q => rowC (itC g) (0 + q)), decide (0 < m), decide (m ≤ 2 ^ 38)]
        (.out .ret [.tup [.own 1 m, .v (.bool true)]] [.row false m 8 (rowC (itC g)) 46, .row true m 1 (rowI (bendsF (stepsF (itC fun q => rowC (itC g) (0 + q)) m) m)) 3]) := by kernel_rfl
    rw [show ([AB.row false m 8 (rowC (itC g)) 46]).length = 1 from rfl, e, zero_row]
    have hpos := valid_pos h3
    refine good_needs ?_ (good_out ⟨_, rfl, rfl, .cons (ABeq.row fun j hj => (allC_get h1 j hj).symm) (.cons (ABeq.row fun j hj => ?_) .nil)⟩)
    · simp only [ob_cons, ob_nil, allC_of (m := m) (a := itC g) fun j _ => rfl, h2, beq_me, and_self, and_true, true_and, Nat.zero_add, Nat.ble_eq, Nat.le_refl, decide_eq_true_eq]
      exact ⟨h3, hpos⟩
    · kernel_rfl
  · cases hF

/-- Not a polygon: the reference's. -/
def F_bendsSN : List SA → Option FR
  | [.row m g] => some { val := .tup [.own 0 0, .v (.bool false)], new := [.row true 0 1 (fun _ => []) 3], obl := [allC m g, decide (m ≤ 2 ^ 38), f_valid (itC g) m == false] }
  | _ => none
/-- Not a polygon: the program's. -/
def F_bendsN : List SA → Option FR
  | [.row m g] => some { val := .tup [.v (.slice none 0 0), .v (.bool false)], obl := [allC m g, decide (m ≤ 2 ^ 38), f_valid (itC g) m == false] }
  | _ => none

theorem ok_bendsSN : SpecOk Try.prog 14 (specR md_list F_bendsSN) := by
  refine mkR (n := 100) (Λ := noLam) gm_n_ok Try.func14 rfl fun sas fr hF ho => ?_
  unfold F_bendsSN at hF
  split at hF
  · rename_i m g
    cases hF
    simp only [ob_cons] at ho
    obtain ⟨h1, h2, h3, _⟩ := ho
    refine ⟨[.row false m 8 (rowC (itC g)) 46], .cons (ABeq.row fun j hj => allC_get h1 j hj) .nil, noLam' _, ?_⟩
    have e : execF Try.prog gm_n noLam 100 Try.f14 (avC 0 md_list [.row m g]) [.row false m 8 (rowC (itC g)) 46] (packK 1)
      = needs [Nat.ble (0 + m) m, allC m (fun q => rowC (itC g) (0 + q)), decide (m ≤ 2 ^ 38), f_valid (itC fun q => rowC (itC g) (0 + q)) m == false]
        (.out .ret [.tup [.own 1 0, .v (.bool false)]] [.row false m 8 (rowC (itC g)) 46, .row true 0 1 (fun _ => []) 3]) := by kernel_rfl
    rw [show ([AB.row false m 8 (rowC (itC g)) 46]).length = 1 from rfl, e, zero_row]
    refine good_needs ?_ (good_out ⟨_, rfl, rfl, .cons (ABeq.row fun j hj => (allC_get h1 j hj).symm) (.cons (ABeq.refl _) .nil)⟩)
    simp only [ob_cons, ob_nil, allC_of (m := m) (a := itC g) fun j _ => rfl, h2, and_self, and_true, true_and, Nat.zero_add, Nat.ble_eq, Nat.le_refl]
    exact h3
  · cases hF

theorem ok_bendsN : SpecOk Try.prog 16 (specR md_list F_bendsN) := by
  refine mkR (n := 100) (Λ := noLam) gm_n_ok Try.func16 rfl fun sas fr hF ho => ?_
  unfold F_bendsN at hF
  split at hF
  · rename_i m g
    cases hF
    simp only [ob_cons] at ho
    obtain ⟨h1, h2, h3, _⟩ := ho
    refine ⟨[.row false m 8 (rowC (itC g)) 46], .cons (ABeq.row fun j hj => allC_get h1 j hj) .nil, noLam' _, ?_⟩
    have e : execF Try.prog gm_n noLam 100 Try.f16 (avC 0 md_list [.row m g]) [.row false m 8 (rowC (itC g)) 46] (packK 1)
      = needs [Nat.ble (0 + m) m, allC m (fun q => rowC (itC g) (0 + q)), decide (m ≤ 2 ^ 38), f_valid (itC fun q => rowC (itC g) (0 + q)) m == false]
        (.out .ret [.tup [.v (.slice none 0 0), .v (.bool false)]] [.row false m 8 (rowC (itC g)) 46]) := by kernel_rfl
    rw [show ([AB.row false m 8 (rowC (itC g)) 46]).length = 1 from rfl, e, zero_row]
    refine good_needs ?_ (good_out ⟨_, rfl, rfl, .cons (ABeq.row fun j hj => (allC_get h1 j hj).symm) .nil⟩)
    simp only [ob_cons, ob_nil, allC_of (m := m) (a := itC g) fun j _ => rfl, h2, and_self, and_true, true_and, Nat.zero_add, Nat.ble_eq, Nat.le_refl]
    exact h3
  · cases hF

end Go.Proofs.Ytkbdppnlojlcdaa
