/- FnExactPolyBends: the whole. -/
import Derived.Test.YtkbdppnlojlcdaaL11
import Derived.Test.YtkbdppnlojlcdaaFR
namespace Go.Proofs.Ytkbdppnlojlcdaa
open Go.RowKit
set_option maxRecDepth 100000

def gm_h : Gam := ext (ext (ext (ext (ext (ext g0 17 (specR md_eqIntS F_eqIntS)) 18 (specR md_eqCycS F_eqCycS)) 19 (specR md_markCycS F_markCycS)) 20 (specR md_markIntS F_markIntS)) 21 (specR md_heldIntS F_heldIntS)) 15 (specR md_toCycS F_toCycS)
theorem gm_h_ok : GamOk Try.prog gm_h := ext_ok (ext_ok (ext_ok (ext_ok (ext_ok (ext_ok g0_ok ok_eqIntS) ok_eqCycS) ok_markCycS) ok_markIntS) ok_heldIntS) ok_toCycS
def gm_Y : Gam := ext (ext gm_h 14 (specR md_list F_bendsY)) 16 (specR md_list F_bendsY)
theorem gm_Y_ok : GamOk Try.prog gm_Y := ext_ok (ext_ok gm_h_ok ok_bendsSY) ok_bendsY
def gm_N : Gam := ext (ext gm_h 14 (specR md_list F_bendsSN)) 16 (specR md_list F_bendsN)
theorem gm_N_ok : GamOk Try.prog gm_N := ext_ok (ext_ok gm_h_ok ok_bendsSN) ok_bendsN

theorem treeBendsY (m : Nat) (a : Nat → Nat → Int) (t : TypeId) : execF Try.prog gm_Y noLam 100 Try.f3 [.sl 0 8 0 0 m none] [.row false m 8 (rowC a) t] (packK 1)
    = bif decide (IntKind.wrap IntKind.i64 ((1048576 : Int) - (↑m : Int)) < (0 : Int)) then Res.out Ex.ret [AV.v (Value.bool true)] [AB.row false m (8 : Nat) (rowC a) t] else bif decide (IntKind.wrap IntKind.i64 ((1048576 : Int) - (↑m : Int)) < (0 : Int)) then Res.out Ex.ret [AV.v (Value.bool true)] [AB.row false m (8 : Nat) (rowC a) t] else needs [Nat.ble ((0 : Nat) + m) m, allC m fun q ↦ rowC a ((0 : Nat) + q), decide (m ≤ (1099511627776 : Nat)), Nat.ble m m, allC m (rowC (itC fun q ↦ rowC a ((0 : Nat) + q))), decide (m ≤ (274877906944 : Nat)), f_valid (itC (rowC (itC fun q ↦ rowC a ((0 : Nat) + q)))) m == true, Nat.ble ((0 : Nat) + m) m, allC m fun q ↦ rowC a ((0 : Nat) + q), decide (m ≤ (1099511627776 : Nat)), Nat.ble m m, allC m (rowC (itC fun q ↦ rowC a ((0 : Nat) + q))), decide (m ≤ (274877906944 : Nat)), f_valid (itC (rowC (itC fun q ↦ rowC a ((0 : Nat) + q)))) m == true, Nat.ble m m, Nat.ble m m, Nat.beq m m, allI m (rowI (bendsF (stepsF (itC (rowC (itC fun q ↦ rowC a ((0 : Nat) + q)))) m) m)), allI m (rowI (bendsF (stepsF (itC (rowC (itC fun q ↦ rowC a ((0 : Nat) + q)))) m) m)), sameI m (itI (rowI (bendsF (stepsF (itC (rowC (itC fun q ↦ rowC a ((0 : Nat) + q)))) m) m))) (itI (rowI (bendsF (stepsF (itC (rowC (itC fun q ↦ rowC a ((0 : Nat) + q)))) m) m))), decide (m ≤ (1099511627776 : Nat)), Nat.ble ((0 : Nat) + m) m, allC m fun q ↦ rowC a ((0 : Nat) + q), decide (m ≤ (1099511627776 : Nat)), Nat.ble m m, Nat.ble m m, Nat.beq m m, allC m (rowC (itC fun q ↦ rowC a ((0 : Nat) + q))), allC m (rowC (itC fun q ↦ rowC a ((0 : Nat) + q))), sameL m (itC (rowC (itC fun q ↦ rowC a ((0 : Nat) + q)))) (itC (rowC (itC fun q ↦ rowC a ((0 : Nat) + q)))), decide (m ≤ (1099511627776 : Nat)), Nat.ble m m, Nat.beq m m, allC m (rowC (itC fun q ↦ rowC a ((0 : Nat) + q))), decide (m ≤ (1099511627776 : Nat)), Nat.ble m m, Nat.ble m m, Nat.beq m m, allI m (rowI (bendsF (stepsF (itC (rowC (itC fun q ↦ rowC a ((0 : Nat) + q)))) m) m)), allI m (rowI (bendsF (stepsF (itC (rowC (itC fun q ↦ rowC a ((0 : Nat) + q)))) m) m)), sameI m (itI (rowI (bendsF (stepsF (itC (rowC (itC fun q ↦ rowC a ((0 : Nat) + q)))) m) m))) (itI (rowI (bendsF (stepsF (itC (rowC (itC fun q ↦ rowC a ((0 : Nat) + q)))) m) m))), decide (m ≤ (1099511627776 : Nat)), Nat.ble m m, Nat.beq m m, allI m (rowI (bendsF (stepsF (itC (rowC (itC fun q ↦ rowC a ((0 : Nat) + q)))) m) m)), decide (m ≤ (1099511627776 : Nat)), Nat.ble m m, allI m fun j ↦ bif Nat.blt j m then [Value.int IntKind.i64 ((1 : Int) + (↑j : Int))] else rowI (bendsF (stepsF (itC (rowC (itC fun q ↦ rowC a ((0 : Nat) + q)))) m) m) j, decide (m ≤ (1099511627776 : Nat))] (bif decide ((bif upB (itI fun j ↦ bif Nat.blt j m then [Value.int IntKind.i64 ((1 : Int) + (↑j : Int))] else rowI (bendsF (stepsF (itC (rowC (itC fun q ↦ rowC a ((0 : Nat) + q)))) m) m) j) (1 : Int) m then (1 : Int) + (↑m : Int) else (-1 : Int)) < (0 : Int)) then Res.out Ex.ret [AV.v (Value.bool false)] [AB.row false m (8 : Nat) (rowC a) t] else bif (bif upB (itI fun j ↦ bif Nat.blt j m then [Value.int IntKind.i64 ((1 : Int) + (↑j : Int))] else rowI (bendsF (stepsF (itC (rowC (itC fun q ↦ rowC a ((0 : Nat) + q)))) m) m) j) (1 : Int) m then (1 : Int) + (↑m : Int) else (-1 : Int)) != (1 : Int) + (↑m : Int) then Res.out Ex.ret [AV.v (Value.bool false)] [AB.row false m (8 : Nat) (rowC a) t] else needs [Nat.ble ((0 : Nat) + m) m, allC m fun q ↦ rowC a ((0 : Nat) + q), decide (m ≤ (1099511627776 : Nat)), Nat.ble m m, allC m (rowC (itC fun q ↦ rowC a ((0 : Nat) + q))), decide (m ≤ (274877906944 : Nat)), f_valid (itC (rowC (itC fun q ↦ rowC a ((0 : Nat) + q)))) m == true, Nat.ble m m, Nat.ble m m, Nat.beq m m, allI m (rowI (bendsF (stepsF (itC (rowC (itC fun q ↦ rowC a ((0 : Nat) + q)))) m) m)), allI m (rowI (bendsF (stepsF (itC (rowC (itC fun q ↦ rowC a ((0 : Nat) + q)))) m) m)), sameI m (itI (rowI (bendsF (stepsF (itC (rowC (itC fun q ↦ rowC a ((0 : Nat) + q)))) m) m))) (itI (rowI (bendsF (stepsF (itC (rowC (itC fun q ↦ rowC a ((0 : Nat) + q)))) m) m))), decide (m ≤ (1099511627776 : Nat)), Nat.ble m m, allI m fun j ↦ bif Nat.blt j m then [Value.int IntKind.i64 ((1 : Int) + (↑j : Int))] else rowI (bendsF (stepsF (itC (rowC (itC fun q ↦ rowC a ((0 : Nat) + q)))) m) m) j, decide (m ≤ (1099511627776 : Nat))] (bif decide ((bif upB (itI fun j ↦ bif Nat.blt j m then [Value.int IntKind.i64 ((1 : Int) + (↑j : Int))] else rowI (bendsF (stepsF (itC (rowC (itC fun q ↦ rowC a ((0 : Nat) + q)))) m) m) j) (1 : Int) m then (1 : Int) + (↑m : Int) else (-1 : Int)) < (0 : Int)) then Res.out Ex.ret [AV.v (Value.bool false)] [AB.row false m (8 : Nat) (rowC a) t] else bif (bif upB (itI fun j ↦ bif Nat.blt j m then [Value.int IntKind.i64 ((1 : Int) + (↑j : Int))] else rowI (bendsF (stepsF (itC (rowC (itC fun q ↦ rowC a ((0 : Nat) + q)))) m) m) j) (1 : Int) m then (1 : Int) + (↑m : Int) else (-1 : Int)) != (1 : Int) + (↑m : Int) then Res.out Ex.ret [AV.v (Value.bool false)] [AB.row false m (8 : Nat) (rowC a) t] else Res.out Ex.ret [AV.v (Value.bool true)] [AB.row false m (8 : Nat) (rowC a) t])) := by kernel_rfl

theorem treeBendsN (m : Nat) (a : Nat → Nat → Int) (t : TypeId) : execF Try.prog gm_N noLam 100 Try.f3 [.sl 0 8 0 0 m none] [.row false m 8 (rowC a) t] (packK 1)
    = bif decide (IntKind.wrap IntKind.i64 ((1048576 : Int) - (↑m : Int)) < (0 : Int)) then Res.out Ex.ret [AV.v (Value.bool true)] [AB.row false m (8 : Nat) (rowC a) t] else bif decide (IntKind.wrap IntKind.i64 ((1048576 : Int) - (↑m : Int)) < (0 : Int)) then Res.out Ex.ret [AV.v (Value.bool true)] [AB.row false m (8 : Nat) (rowC a) t] else needs [Nat.ble ((0 : Nat) + m) m, allC m fun q ↦ rowC a ((0 : Nat) + q), decide (m ≤ (1099511627776 : Nat)), Nat.ble m m, allC m (rowC (itC fun q ↦ rowC a ((0 : Nat) + q))), decide (m ≤ (274877906944 : Nat)), f_valid (itC (rowC (itC fun q ↦ rowC a ((0 : Nat) + q)))) m == false, Nat.ble ((0 : Nat) + m) m, allC m fun q ↦ rowC a ((0 : Nat) + q), decide (m ≤ (1099511627776 : Nat)), Nat.ble m m, allC m (rowC (itC fun q ↦ rowC a ((0 : Nat) + q))), decide (m ≤ (274877906944 : Nat)), f_valid (itC (rowC (itC fun q ↦ rowC a ((0 : Nat) + q)))) m == false, Nat.ble ((0 : Nat) + m) m, allC m fun q ↦ rowC a ((0 : Nat) + q), decide (m ≤ (1099511627776 : Nat)), Nat.ble m m, Nat.ble m m, Nat.beq m m, allC m (rowC (itC fun q ↦ rowC a ((0 : Nat) + q))), allC m (rowC (itC fun q ↦ rowC a ((0 : Nat) + q))), sameL m (itC (rowC (itC fun q ↦ rowC a ((0 : Nat) + q)))) (itC (rowC (itC fun q ↦ rowC a ((0 : Nat) + q)))), decide (m ≤ (1099511627776 : Nat)), Nat.ble m m, Nat.beq m m, allC m (rowC (itC fun q ↦ rowC a ((0 : Nat) + q))), decide (m ≤ (1099511627776 : Nat)), Nat.ble ((0 : Nat) + m) m, allC m fun q ↦ rowC a ((0 : Nat) + q), decide (m ≤ (1099511627776 : Nat)), Nat.ble m m, allC m (rowC (itC fun q ↦ rowC a ((0 : Nat) + q))), decide (m ≤ (274877906944 : Nat)), f_valid (itC (rowC (itC fun q ↦ rowC a ((0 : Nat) + q)))) m == false] (Res.out Ex.ret [AV.v (Value.bool true)] [AB.row false m (8 : Nat) (rowC a) t]) := by kernel_rfl

theorem rowC_itC (x : Nat → Nat → Int) : rowC (itC (rowC x)) = rowC x := rfl
theorem valid_itC (a : Nat → Nat → Int) (m : Nat) : f_valid (itC (rowC a)) m = f_valid a m := by kernel_rfl
theorem sameI_self (m : Nat) (a : Nat → Int) : sameI m a a = true := by simp [sameI]
theorem sameL_self (m : Nat) (a : Nat → Nat → Int) : sameL m a a = true := by simp [sameL, sameC]
theorem allC_row (m : Nat) (a : Nat → Nat → Int) : allC m (rowC a) = true := allC_of (a := a) fun j _ => rfl
theorem allI_row (m : Nat) (a : Nat → Int) : allI m (rowI a) = true := allI_of (a := a) fun j _ => rfl
theorem blt_of {j m : Nat} (h : j < m) : Nat.blt j m = true := by rw [Nat.blt_eq]; exact h
theorem marked_all (m : Nat) (k : Int) (G : Nat → List Value) : allI m (fun j => bif Nat.blt j m then [Value.int .i64 (k + (j : Int))] else G j) = true :=
  allI_of (a := fun j => k + (j : Int)) fun j hj => by rw [blt_of hj]; rfl
theorem marked_up (m : Nat) (k : Int) (G : Nat → List Value) : upB (itI fun j => bif Nat.blt j m then [Value.int .i64 (k + (j : Int))] else G j) k m = true := by
  simp only [upB, List.all_eq_true, List.mem_range, decide_eq_true_eq]
  intro j hj
  simp only [itI, blt_of hj, cond_true]
  rfl
theorem ble_me (n : Nat) : Nat.ble n n = true := by simp
theorem needs_nil (r : Res) : needs [] r = r := rfl
theorem needs_t (l : List Bool) (r : Res) : needs (true :: l) r = needs l r := rfl
theorem le_b {m n : Nat} (h : m ≤ n) : decide (m ≤ n) = true := decide_eq_true h


theorem yes_bends (m : Nat) (a : Nat → Nat → Int) (t : TypeId) (hm : m ≤ 9223372036854775807) : ∃ Γ, GamOk Try.prog Γ ∧ GoodQ (execF Try.prog Γ noLam 100 Try.f3 [.sl 0 8 0 0 m none] [.row false m 8 (rowC a) t] (packK 1)) SaysYes := by
  have e1 : IntKind.wrap IntKind.i64 ((1048576 : Int) - (m : Int)) = 1048576 - m := by
    rw [show IntKind.wrap IntKind.i64 ((1048576 : Int) - (m : Int)) = W ((1048576 : Int) - (m : Int)) from rfl, w64_in (by omega) (by omega)]
  by_cases hb : m ≤ 1048576
  · have c1 : decide ((1048576 : Int) - m < 0) = false := decide_eq_false (by omega)
    have b40 : decide (m ≤ 1099511627776) = true := decide_eq_true (by omega)
    have b38 : decide (m ≤ 274877906944) = true := decide_eq_true (by omega)
    have c2 : decide ((1 : Int) + m < 0) = false := decide_eq_false (by omega)
    cases hv : f_valid a m with
    | true =>
      refine ⟨gm_Y, gm_Y_ok, ?_⟩
      rw [treeBendsY]
      simp only [zero_row, rowC_itC, valid_itC, hv, e1, c1, c2, b40, b38, allC_row, allI_row, sameI_self, sameL_self, marked_all, marked_up, ble_me, beq_me, needs_t, needs_nil, cond_true, cond_false, Nat.zero_add, bne_self_eq_false, beq_self_eq_true]
      exact good_out rfl
    | false =>
      refine ⟨gm_N, gm_N_ok, ?_⟩
      rw [treeBendsN]
      simp only [zero_row, rowC_itC, valid_itC, hv, e1, c1, c2, b40, b38, allC_row, allI_row, sameI_self, sameL_self, marked_all, marked_up, ble_me, beq_me, needs_t, needs_nil, cond_true, cond_false, Nat.zero_add, bne_self_eq_false, beq_self_eq_true]
      exact good_out rfl
  · refine ⟨gm_N, gm_N_ok, ?_⟩
    rw [treeBendsN, e1, show decide ((1048576 : Int) - m < 0) = true from decide_eq_true (by omega)]
    exact good_out rfl

end Go.Proofs.Ytkbdppnlojlcdaa
