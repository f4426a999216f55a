/- What is on a polygon is not wound around: FnOn returns true, whatever the bytes are, and they read as before. No conditions. -/
import Derived.Test.YtoligfhcogligaaZD0
import Derived.Test.YtoligfhcogligaaZD1
import Derived.Test.YtoligfhcogligaaZD2
import Derived.Test.YtoligfhcogligaaZD3
import Derived.Test.YtoligfhcogligaaZD4
import Derived.Test.YtoligfhcogligaaZD5
import Derived.Test.YtoligfhcogligaaZD6
import Derived.Test.YtoligfhcogligaaZD7
import Derived.Test.YtoligfhcogligaaZD8
import Derived.Test.YtoligfhcogligaaZKPe50
/- FnOn: its trees. Conditions: bytes. -/
namespace Go.Proofs.Ytoligfhcogligaa
open Go.RowKit
set_option maxRecDepth 100000

noncomputable abbrev fOnL : Func := Try.f7
def gmOl (nn : Nat → (Nat → Int) → Nat) (gg : Nat → (Nat → Int) → Nat → Nat → Int) (cc : Nat → (Nat → Int) → Nat → Int) (va : (Nat → Nat → Int) → Nat → Bool) (bk : (Nat → Nat → Int) → Nat → Nat → Nat → Int) (po : (Nat → Nat → Int) → Nat → (Nat → Int) → Bool) (wn : (Nat → Nat → Int) → Nat → (Nat → Int) → Int) (wk : (Nat → Nat → Int) → Nat → (Nat → Int) → Bool) : Gam :=
  ext (ext (ext (ext (ext g0 27 (specR md_co (FdrO fun m b => frCC (nn m b) (gg m b) (cc m b)))) 26 (specR md_lc (FpoO po))) 28 (specR md_lc (FpoO po))) 15 (specR md_list (FbkY va bk))) 29 (specR md_lc (FwnO wn wk))
theorem lawOl (nn : Nat → (Nat → Int) → Nat) (gg : Nat → (Nat → Int) → Nat → Nat → Int) (cc : Nat → (Nat → Int) → Nat → Int) (va : (Nat → Nat → Int) → Nat → Bool) (bk : (Nat → Nat → Int) → Nat → Nat → Nat → Int) (po : (Nat → Nat → Int) → Nat → (Nat → Int) → Bool) (wn : (Nat → Nat → Int) → Nat → (Nat → Int) → Int) (wk : (Nat → Nat → Int) → Nat → (Nat → Int) → Bool) (m : Nat) (b : Nat → Int) : execF Try.prog (gmOl nn gg cc va bk po wn wk) noLam 100 fOnL [.sl 0 1 0 0 m none] [.row false m 1 (rowB b) 5] (packK 1)
    = bif decide ((↑m : Int) > (1048576 : Int)) then Res.out Ex.ret [AV.v (Value.bool true)] [AB.row false m (1 : Nat) (rowB b) (5 : TypeId)] else needs [Nat.ble ((0 : Nat) + m) m, okB m fun q ↦ rowB b ((0 : Nat) + q), decide (m ≤ (2097152 : Nat)), Nat.ble (nn m (itB fun q ↦ rowB b ((0 : Nat) + q))) (nn m (itB fun q ↦ rowB b ((0 : Nat) + q))), allC (nn m (itB fun q ↦ rowB b ((0 : Nat) + q))) (row8 (gg m (itB fun q ↦ rowB b ((0 : Nat) + q)))), decide (nn m (itB fun q ↦ rowB b ((0 : Nat) + q)) ≤ (274877906944 : Nat)), Nat.ble (nn m (itB fun q ↦ rowB b ((0 : Nat) + q))) (nn m (itB fun q ↦ rowB b ((0 : Nat) + q))), allC (nn m (itB fun q ↦ rowB b ((0 : Nat) + q))) (row8 (gg m (itB fun q ↦ rowB b ((0 : Nat) + q)))), decide (nn m (itB fun q ↦ rowB b ((0 : Nat) + q)) ≤ (274877906944 : Nat))] (bif !po (itC (row8 (gg m (itB fun q ↦ rowB b ((0 : Nat) + q))))) (nn m (itB fun q ↦ rowB b ((0 : Nat) + q))) (w8 (cc m (itB fun q ↦ rowB b ((0 : Nat) + q)))) == po (itC (row8 (gg m (itB fun q ↦ rowB b ((0 : Nat) + q))))) (nn m (itB fun q ↦ rowB b ((0 : Nat) + q))) (w8 (cc m (itB fun q ↦ rowB b ((0 : Nat) + q)))) then Res.out Ex.ret [AV.v (Value.bool (po (itC (row8 (gg m (itB fun q ↦ rowB b ((0 : Nat) + q))))) (nn m (itB fun q ↦ rowB b ((0 : Nat) + q))) (w8 (cc m (itB fun q ↦ rowB b ((0 : Nat) + q)))) == po (itC (row8 (gg m (itB fun q ↦ rowB b ((0 : Nat) + q))))) (nn m (itB fun q ↦ rowB b ((0 : Nat) + q))) (w8 (cc m (itB fun q ↦ rowB b ((0 : Nat) + q))))))] [AB.row false m (1 : Nat) (rowB b) (5 : TypeId)] else bif !po (itC (row8 (gg m (itB fun q ↦ rowB b ((0 : Nat) + q))))) (nn m (itB fun q ↦ rowB b ((0 : Nat) + q))) (w8 (cc m (itB fun q ↦ rowB b ((0 : Nat) + q)))) then Res.out Ex.ret [AV.v (Value.bool (po (itC (row8 (gg m (itB fun q ↦ rowB b ((0 : Nat) + q))))) (nn m (itB fun q ↦ rowB b ((0 : Nat) + q))) (w8 (cc m (itB fun q ↦ rowB b ((0 : Nat) + q)))) == po (itC (row8 (gg m (itB fun q ↦ rowB b ((0 : Nat) + q))))) (nn m (itB fun q ↦ rowB b ((0 : Nat) + q))) (w8 (cc m (itB fun q ↦ rowB b ((0 : Nat) + q))))))] [AB.row false m (1 : Nat) (rowB b) (5 : TypeId)] else needs [Nat.ble (nn m (itB fun q ↦ rowB b ((0 : Nat) + q))) (nn m (itB fun q ↦ rowB b ((0 : Nat) + q))), allC (nn m (itB fun q ↦ rowB b ((0 : Nat) + q))) (row8 (gg m (itB fun q ↦ rowB b ((0 : Nat) + q)))), decide (nn m (itB fun q ↦ rowB b ((0 : Nat) + q)) ≤ (274877906944 : Nat)), va (itC (row8 (gg m (itB fun q ↦ rowB b ((0 : Nat) + q))))) (nn m (itB fun q ↦ rowB b ((0 : Nat) + q))), Nat.ble (nn m (itB fun q ↦ rowB b ((0 : Nat) + q))) (nn m (itB fun q ↦ rowB b ((0 : Nat) + q))), allC (nn m (itB fun q ↦ rowB b ((0 : Nat) + q))) (row8 (gg m (itB fun q ↦ rowB b ((0 : Nat) + q)))), decide (nn m (itB fun q ↦ rowB b ((0 : Nat) + q)) ≤ (274877906944 : Nat))] (bif !wk (itC (row8 (gg m (itB fun q ↦ rowB b ((0 : Nat) + q))))) (nn m (itB fun q ↦ rowB b ((0 : Nat) + q))) (w8 (cc m (itB fun q ↦ rowB b ((0 : Nat) + q)))) then needs [Nat.ble ((0 : Nat) + nn m (itB fun q ↦ rowB b ((0 : Nat) + q))) (nn m (itB fun q ↦ rowB b ((0 : Nat) + q))), allC (nn m (itB fun q ↦ rowB b ((0 : Nat) + q))) fun q ↦ row8 (bk (itC (row8 (gg m (itB fun q ↦ rowB b ((0 : Nat) + q))))) (nn m (itB fun q ↦ rowB b ((0 : Nat) + q)))) ((0 : Nat) + q), decide (nn m (itB fun q ↦ rowB b ((0 : Nat) + q)) ≤ (274877906944 : Nat))] (Res.out Ex.ret [AV.v (Value.bool (po (itC fun q ↦ row8 (bk (itC (row8 (gg m (itB fun q ↦ rowB b ((0 : Nat) + q))))) (nn m (itB fun q ↦ rowB b ((0 : Nat) + q)))) ((0 : Nat) + q)) (nn m (itB fun q ↦ rowB b ((0 : Nat) + q))) (w8 (cc m (itB fun q ↦ rowB b ((0 : Nat) + q))))))] [AB.row false m (1 : Nat) (rowB b) (5 : TypeId)]) else Res.out Ex.ret [AV.v (Value.bool false)] [AB.row false m (1 : Nat) (rowB b) (5 : TypeId)])) := by kernel_rfl

end Go.Proofs.Ytoligfhcogligaa

/- Plain laws of polygons: convex ones are wound around at most once. No program, no conditions. -/
namespace Go.Proofs.Ytoligfhcogligaa
open Go.RowKit
set_option maxRecDepth 100000

theorem sumZ_next (g : Nat → Int) : ∀ n : Nat, sumZ (fun i => g ((i + 1) % n)) n = sumZ g n
  | 0 => rfl
  | n + 1 => by
    rw [sumZ, sumZ_first g n, Nat.mod_self, sumZ_congr (h := fun i => g (i + 1)) fun i hi => by rw [Nat.mod_eq_of_lt (show i + 1 < n + 1 by omega)]]
    omega
theorem pass_next (f : Nat → Bool) (n : Nat) : sumZ (fun i => b2i (f i && !f ((i + 1) % n))) n = sumZ (fun i => b2i (!f i && f ((i + 1) % n))) n := by
  have e : sumZ (fun i => b2i (f i) + -b2i (f ((i + 1) % n))) n = 0 := by
    rw [sumZ_add, sumZ_neg, sumZ_next (fun i => b2i (f i))]
    omega
  have e2 : sumZ (fun i => b2i (f i && !f ((i + 1) % n)) + -b2i (!f i && f ((i + 1) % n))) n = 0 := by
    refine Eq.trans (sumZ_congr fun i _ => ?_) e
    cases f i <;> cases f ((i + 1) % n) <;> decide
  rw [sumZ_add, sumZ_neg] at e2
  omega
theorem sumZ_le {g h : Nat → Int} : ∀ {n : Nat}, (∀ i, i < n → g i ≤ h i) → sumZ g n ≤ sumZ h n
  | 0, _ => Int.le_refl _
  | n + 1, e => by
    have := sumZ_le (n := n) fun i hi => e i (by omega)
    have := e n (by omega)
    rw [sumZ, sumZ]
    omega
/-- A corner above a height. -/
noncomputable def abV (a : Nat → Nat → Int) (y : Sd) (i : Nat) : Bool := decide (SG (IM (a i) + -y) > 0)
theorem pass_turns {a : Nat → Nat → Int} {m : Nat} (h : f_valid a m = true) (y : Sd) : sumZ (fun i => b2i (!abV a y i && abV a y ((i + 1) % m))) m ≤ sumZ (fun i => b2i (!upV a m ((i + m - 1) % m) && upV a m i)) m := by
  refine pass_le (fun i hi hu hf => ?_) fun i hi hu hf => ?_
  · have hs := up_nn hu
    have e := (sub_pt (step_at h hi)).2
    have hf := of_decide_eq_true hf
    have := SG_add hs hf
    rw [show IM (stepsF a m i) + (IM (a i) + -y) = IM (a ((i + 1) % m)) + -y by rw [e]; grind] at this
    exact decide_eq_true (by omega)
  · have hs := up_no hu
    have e := (sub_pt (step_at h hi)).2
    have hf := of_decide_eq_true hf
    have := SG_add (z := -IM (stepsF a m i)) (by rw [SG_neg]; omega) hf
    rw [show -IM (stepsF a m i) + (IM (a ((i + 1) % m)) + -y) = IM (a i) + -y by rw [e]; grind] at this
    exact decide_eq_true (by omega)
/-- Equal bends and one turn: one passage up of the direction. -/
theorem one_up {a : Nat → Nat → Int} {m : Nat} (h : f_valid a m = true) (ht : turnsOk a m = true) (h1 : turnsN a m = 1 ∨ turnsN a m = -1) (hb : ∀ i, i < m → bendsF (stepsF a m) m i = turnsN a m) : sumZ (fun i => b2i (!upV a m ((i + m - 1) % m) && upV a m i)) m = 1 := by
  have e : turnsN a m = sumZ (fun i => cT (decide (crV a m i > 0)) (decide (crV a m i < 0)) (upV a m ((i + m - 1) % m)) (upV a m i)) m := by
    rw [turnsN, ht, cond_true, sumTo_Z, sumZ_congr fun i hi => con_SG h hi]
  have hc : ∀ i, i < m → crV a m i = turnsN a m := fun i hi => by rw [← bend_SG h hi, hb i hi]
  rcases h1 with h1 | h1
  · rw [h1] at e hc
    rw [e]
    refine sumZ_congr fun i hi => ?_
    rw [hc i hi]
    cases upV a m ((i + m - 1) % m) <;> cases upV a m i <;> decide
  · rw [h1] at e hc
    have s := pass_same (upV a m) m
    have e2 : sumZ (fun i => b2i (!upV a m i && upV a m ((i + m - 1) % m))) m = 1 := by
      have e3 : -sumZ (fun i => b2i (!upV a m i && upV a m ((i + m - 1) % m))) m = -1 := by
        rw [e, ← sumZ_neg]
        refine sumZ_congr fun i hi => ?_
        rw [hc i hi]
        cases upV a m ((i + m - 1) % m) <;> cases upV a m i <;> decide
      omega
    rw [e2] at s
    rw [← s]
    refine sumZ_congr fun i _ => ?_
    rw [Bool.and_comm]
/-- How often a polygon winds, by sides: never more than the passages of a height. -/
theorem law_wind {a : Nat → Nat → Int} {m : Nat} (h : f_valid a m = true) (ht : turnsOk a m = true) (h1 : turnsN a m = 1 ∨ turnsN a m = -1) (hb : ∀ i, i < m → bendsF (stepsF a m) m i = turnsN a m) (y : Sd) (s : Nat → Int) :
    -1 ≤ sumZ (fun i => cT (decide (s i > 0)) (decide (s i < 0)) (abV a y i) (abV a y ((i + 1) % m))) m ∧ sumZ (fun i => cT (decide (s i > 0)) (decide (s i < 0)) (abV a y i) (abV a y ((i + 1) % m))) m ≤ 1 := by
  have p := pass_turns h y
  rw [one_up h ht h1 hb] at p
  have q := pass_next (abV a y) m
  have hi : sumZ (fun i => cT (decide (s i > 0)) (decide (s i < 0)) (abV a y i) (abV a y ((i + 1) % m))) m ≤ sumZ (fun i => b2i (!abV a y i && abV a y ((i + 1) % m))) m := sumZ_le fun i _ => by
    cases decide (s i > 0) <;> cases decide (s i < 0) <;> cases abV a y i <;> cases abV a y ((i + 1) % m) <;> decide
  have lo : sumZ (fun i => -b2i (abV a y i && !abV a y ((i + 1) % m))) m ≤ sumZ (fun i => cT (decide (s i > 0)) (decide (s i < 0)) (abV a y i) (abV a y ((i + 1) % m))) m := sumZ_le fun i _ => by
    cases decide (s i > 0) <;> cases decide (s i < 0) <;> cases abV a y i <;> cases abV a y ((i + 1) % m) <;> decide
  rw [sumZ_neg] at lo
  omega
/-- Windings are opposite the other way round. -/
theorem law_windback {a : Nat → Nat → Int} {m : Nat} (y : Sd) (s s' : Nat → Int) (hs : ∀ j, j < m → s' j = -s ((m - 1 - j + m - 1) % m)) :
    sumZ (fun j => cT (decide (s' j > 0)) (decide (s' j < 0)) (abV (bkC a m) y j) (abV (bkC a m) y ((j + 1) % m))) m = -sumZ (fun i => cT (decide (s i > 0)) (decide (s i < 0)) (abV a y i) (abV a y ((i + 1) % m))) m := by
  rw [← sumZ_neg, ← sumZ_prev (fun i => -cT (decide (s i > 0)) (decide (s i < 0)) (abV a y i) (abV a y ((i + 1) % m))) m]
  rw [← sumZ_rev (fun i => -cT (decide (s ((i + m - 1) % m) > 0)) (decide (s ((i + m - 1) % m) < 0)) (abV a y ((i + m - 1) % m)) (abV a y (((i + m - 1) % m + 1) % m))) m]
  refine sumZ_congr fun j hj => ?_
  rw [hs j hj, ← wind_one]
  have e1 : ((m - 1 - j + m - 1) % m + 1) % m = m - 1 - j := by
    by_cases h0 : m - 1 - j = 0
    · rw [h0, show 0 + m - 1 = m - 1 by omega, Nat.mod_eq_of_lt (show m - 1 < m by omega), show m - 1 + 1 = m by omega, Nat.mod_self]
    · rw [show m - 1 - j + m - 1 = m - 1 - j - 1 + m by omega, Nat.add_mod_right, Nat.mod_eq_of_lt (show m - 1 - j - 1 < m by omega), show m - 1 - j - 1 + 1 = m - 1 - j by omega, Nat.mod_eq_of_lt (by omega)]
  have e2 : m - 1 - (j + 1) % m = (m - 1 - j + m - 1) % m := by
    by_cases hl : j + 1 = m
    · rw [hl, Nat.mod_self, show m - 1 - j = 0 by omega, show 0 + m - 1 = m - 1 by omega, Nat.mod_eq_of_lt (show m - 1 < m by omega)]
      omega
    · rw [Nat.mod_eq_of_lt (show j + 1 < m by omega), show m - 1 - j + m - 1 = m - 2 - j + m by omega, Nat.add_mod_right, Nat.mod_eq_of_lt (by omega)]
      omega
  rw [e1]
  show cT _ _ (decide (SG (IM (a (m - 1 - j)) + -y) > 0)) (decide (SG (IM (a (m - 1 - (j + 1) % m)) + -y) > 0)) = _
  rw [e2]
  rfl

end Go.Proofs.Ytoligfhcogligaa

/- Being on a polygon, winding around a point: the other way round. No program, no conditions. -/
namespace Go.Proofs.Ytoligfhcogligaa
open Go.RowKit
set_option maxRecDepth 100000

theorem po_parts {a : Nat → Nat → Int} {m : Nat} {c : Nat → Int} (h : poV a m c = true) : f_valid a m = true ∧ smN c 100 = true ∧ onV a m c = true := by
  rw [poV, Bool.and_eq_true, Bool.and_eq_true] at h
  exact ⟨h.1, h.2.1, h.2.2⟩
/-- The side before, seen from the other way round. -/
theorem bk_idx {m j : Nat} (hj : j < m) : ((m - 1 - j + m - 1) % m + 1) % m = m - 1 - j ∧ m - 1 - (j + 1) % m = (m - 1 - j + m - 1) % m := by
  constructor
  · by_cases h0 : m - 1 - j = 0
    · rw [h0, show 0 + m - 1 = m - 1 by omega, Nat.mod_eq_of_lt (show m - 1 < m by omega), show m - 1 + 1 = m by omega, Nat.mod_self]
    · rw [show m - 1 - j + m - 1 = m - 1 - j - 1 + m by omega, Nat.add_mod_right, Nat.mod_eq_of_lt (show m - 1 - j - 1 < m by omega), show m - 1 - j - 1 + 1 = m - 1 - j by omega, Nat.mod_eq_of_lt (by omega)]
  · by_cases hl : j + 1 = m
    · rw [hl, Nat.mod_self, show m - 1 - j = 0 by omega, show 0 + m - 1 = m - 1 by omega, Nat.mod_eq_of_lt (show m - 1 < m by omega)]
      omega
    · rw [Nat.mod_eq_of_lt (show j + 1 < m by omega), show m - 1 - j + m - 1 = m - 2 - j + m by omega, Nat.add_mod_right, Nat.mod_eq_of_lt (by omega)]
      omega
theorem sd_back {a : Nat → Nat → Int} {m : Nat} {c : Nat → Int} {j : Nat} (hj : j < m) : sdZ (bkC a m) m c j = -sdZ a m c ((m - 1 - j + m - 1) % m) := by
  obtain ⟨e1, e2⟩ := bk_idx hj
  unfold sdZ
  rw [e1]
  show SG ((RE (a (m - 1 - (j + 1) % m)) + -RE (a (m - 1 - j))) * (IM c + -IM (a (m - 1 - j))) - (IM (a (m - 1 - (j + 1) % m)) + -IM (a (m - 1 - j))) * (RE c + -RE (a (m - 1 - j)))) = _
  rw [e2, ← SG_neg]
  congr 1
  grind
theorem onZ_back {a : Nat → Nat → Int} {m : Nat} {c : Nat → Int} {j : Nat} (hj : j < m) : onZ (bkC a m) m c j = onZ a m c ((m - 1 - j + m - 1) % m) := by
  obtain ⟨e1, e2⟩ := bk_idx hj
  have s := sd_back (a := a) (c := c) hj
  have d : ∀ (b : Nat → Nat → Int) (i : Nat), onZ b m c i = ((sdZ b m c i == 0) && decide (SG ((RE c + -RE (b i)) * (RE c + -RE (b ((i + 1) % m))) + (IM c + -IM (b i)) * (IM c + -IM (b ((i + 1) % m)))) ≤ 0)) := fun b i => rfl
  rw [d, d, s, e1]
  have x : (RE c + -RE (bkC a m j)) * (RE c + -RE (bkC a m ((j + 1) % m))) + (IM c + -IM (bkC a m j)) * (IM c + -IM (bkC a m ((j + 1) % m))) = (RE c + -RE (a ((m - 1 - j + m - 1) % m))) * (RE c + -RE (a (m - 1 - j))) + (IM c + -IM (a ((m - 1 - j + m - 1) % m))) * (IM c + -IM (a (m - 1 - j))) := by
    show (RE c + -RE (a (m - 1 - j))) * (RE c + -RE (a (m - 1 - (j + 1) % m))) + (IM c + -IM (a (m - 1 - j))) * (IM c + -IM (a (m - 1 - (j + 1) % m))) = _
    rw [e2]
    grind
  rw [x]
  congr 1
  generalize sdZ a m c ((m - 1 - j + m - 1) % m) = t
  by_cases h : t = 0
  · rw [h]; rfl
  · rw [beq_eq_false_iff_ne.2 h, beq_eq_false_iff_ne.2 (by omega)]
theorem on_back_iff {a : Nat → Nat → Int} {m : Nat} {c : Nat → Int} (h : f_valid a m = true) (hv : f_valid (bkC a m) m = true) (hc : bd8 100 c) : (∀ i, i < m → onT (bkC a m) m c i = false) ↔ ∀ i, i < m → onT a m c i = false := by
  refine ⟨fun k i hi => ?_, fun k j hj => ?_⟩
  · have hj : m - 1 - (i + 1) % m < m := by omega
    have := k (m - 1 - (i + 1) % m) hj
    rw [onT_Z hv hc hj, onZ_back hj] at this
    have hlt := Nat.mod_lt (i + 1) (show 0 < m by omega)
    rw [show m - 1 - (m - 1 - (i + 1) % m) = (i + 1) % m by omega] at this
    have e : ((i + 1) % m + m - 1) % m = i := by
      by_cases hl : i + 1 = m
      · rw [hl, Nat.mod_self, show 0 + m - 1 = m - 1 by omega, Nat.mod_eq_of_lt (show m - 1 < m by omega)]
        omega
      · rw [Nat.mod_eq_of_lt (show i + 1 < m by omega), show i + 1 + m - 1 = i + m by omega, Nat.add_mod_right, Nat.mod_eq_of_lt hi]
    rw [e] at this
    rw [onT_Z h hc hi]
    exact this
  · rw [onT_Z hv hc hj, onZ_back hj, ← onT_Z h hc (Nat.mod_lt _ (by omega))]
    exact k _ (Nat.mod_lt _ (by omega))
/-- What is on a polygon is on it the other way round too. -/
theorem on_back {a : Nat → Nat → Int} {m : Nat} {c : Nat → Int} (h : f_valid a m = true) (hc : bd8 100 c) : onV (bkC a m) m c = onV a m c := by
  have hv := valid_bk h
  have key : (∀ i, i < m → onT (bkC a m) m c i = false) ↔ ∀ i, i < m → onT a m c i = false := on_back_iff h hv hc
  exact congrArg (fun b => !b) (Bool.eq_iff_iff.2 (noneTo_iff.trans (key.trans noneTo_iff.symm)))
/-- The count of windings, side by side. -/
noncomputable def wdZ (a : Nat → Nat → Int) (m : Nat) (c : Nat → Int) (i : Nat) : Int := cT (decide (sdZ a m c i > 0)) (decide (sdZ a m c i < 0)) (abV a (IM c) i) (abV a (IM c) ((i + 1) % m))
theorem wdZ_in (a : Nat → Nat → Int) (m : Nat) (c : Nat → Int) (i : Nat) : -1 ≤ wdZ a m c i ∧ wdZ a m c i ≤ 1 := by
  unfold wdZ
  generalize decide (sdZ a m c i > 0) = p
  generalize decide (sdZ a m c i < 0) = q
  generalize abV a (IM c) i = r
  generalize abV a (IM c) ((i + 1) % m) = s
  cases p <;> cases q <;> cases r <;> cases s <;> decide
theorem sum_in {g : Nat → Int} (hg : ∀ i, -1 ≤ g i ∧ g i ≤ 1) : ∀ n : Nat, -(n : Int) ≤ sumZ g n ∧ sumZ g n ≤ n
  | 0 => ⟨by show _ ≤ (0 : Int); omega, by show (0 : Int) ≤ _; omega⟩
  | n + 1 => by
    have := hg n
    have := sum_in hg n
    show -((n + 1 : Nat) : Int) ≤ sumZ g n + g n ∧ sumZ g n + g n ≤ ((n + 1 : Nat) : Int)
    omega
theorem wnF_Z {a : Nat → Nat → Int} {m : Nat} {c : Nat → Int} (h : f_valid a m = true) (hc : bd8 100 c) {j : Nat} (hj : j < m) : wnF a c j = SG (IM (a j) + -IM c) := by
  have hp := corner_bd h hj
  have d := mn_at hp hc
  have hi := im_bd (bd_sub hp hc d)
  unfold wnF
  have e1 : sgn4 (w4 (imF (mnF (w8 (a j)) (w8 c)))) = SG (IM (mnF (w8 (a j)) (w8 c))) := by
    rw [sgn4_w4, sgn4_congr (s := imF (mnF (w8 (a j)) (w8 c))) (s' := imZ (mnF (w8 (a j)) (w8 c))) fun k hk => W4 hi (by omega) k hk, sgn4_SG fun k hk => by have := hi k hk; omega]
    rfl
  have e2 : sgn4 (w4 (imF (w8 (mnF (w8 (a j)) (w8 c))))) = sgn4 (w4 (imF (mnF (w8 (a j)) (w8 c)))) := rfl
  rw [e2, e1, (sub_pt d).2]
theorem stp_cT {f l s x : Int} (hx : -1000 ≤ x ∧ x ≤ 1000) : stpB f l s x = x + cT (decide (s > 0)) (decide (s < 0)) (decide (f > 0)) (decide (l > 0)) := by
  unfold stpB stpN
  rw [← not_gt f, ← not_gt l, w64_in (x := x + 1) (by omega) (by omega), w64_in (x := x - 1) (by omega) (by omega)]
  have hs : (decide (s > 0) && decide (s < 0)) = false := by
    cases h : decide (s > 0) with
    | false => rfl
    | true =>
      have := of_decide_eq_true h
      rw [Bool.true_and]
      exact decide_eq_false (by omega)
  generalize decide (s > 0) = p at *
  generalize decide (s < 0) = q at *
  generalize decide (f > 0) = u
  generalize decide (l > 0) = v
  cases p <;> cases q <;> cases u <;> cases v <;> first | (cases hs; done) | (show x = x + 0; omega) | rfl
theorem wnS_sum {a : Nat → Nat → Int} {m : Nat} {c : Nat → Int} (h : f_valid a m = true) (hc : bd8 100 c) : ∀ i, i ≤ m → wnS a m c i = sumZ (wdZ a m c) i
  | 0, _ => by simp only [wnS, List.range_zero, List.foldl_nil]; rfl
  | i + 1, hi => by
    have hm := (valid_m h).2
    have e : wnS a m c (i + 1) = wnT a m c (wnS a m c i) i := by
      unfold wnS
      rw [List.range_succ, List.foldl_append]
      rfl
    have hb := sum_in (wdZ_in a m c) i
    rw [e, wnS_sum h hc i (by omega)]
    have f1 := wnF_Z h hc (show i < m by omega)
    have f2 := wnF_Z h hc (Nat.mod_lt (i + 1) (show 0 < m by omega))
    have f3 := wnL_Z h hc (show i < m by omega)
    rw [show wnT a m c (sumZ (wdZ a m c) i) i = stpB (SG (IM (a i) + -IM c)) (SG (IM (a ((i + 1) % m)) + -IM c)) (sdZ a m c i) (sumZ (wdZ a m c) i) from stp_congr f1 f2 f3, stp_cT (by omega)]
    rfl
theorem wn_in {a : Nat → Nat → Int} {m : Nat} {c : Nat → Int} (h : wkV a m c = true) : -48 ≤ wnV a m c ∧ wnV a m c ≤ 48 := by
  obtain ⟨hv, hs, _⟩ := wk_parts h
  have hm := (valid_m hv).2
  have := sum_in (wdZ_in a m c) m
  rw [wnV, h, cond_true, wnS_sum hv (small_bd hs) m (Nat.le_refl _)]
  omega
theorem wk_back {a : Nat → Nat → Int} {m : Nat} {c : Nat → Int} (h : wkV a m c = true) : wkV (bkC a m) m c = true ∧ wnV (bkC a m) m c = -wnV a m c := by
  obtain ⟨hv, hs, hn⟩ := wk_parts h
  have hc := small_bd hs
  have k : wkV (bkC a m) m c = true := by rw [wkV, valid_bk hv, hs, on_back hv hc, hn]; rfl
  refine ⟨k, ?_⟩
  rw [wnV, wnV, h, k, cond_true, cond_true, wnS_sum hv hc m (Nat.le_refl _), wnS_sum (valid_bk hv) hc m (Nat.le_refl _)]
  exact law_windback (a := a) (IM c) (sdZ a m c) (sdZ (bkC a m) m c) fun j hj => sd_back hj
theorem wn_convex {a : Nat → Nat → Int} {m : Nat} {c : Nat → Int} (h : wkV a m c = true) (ht : turnsOk a m = true) (h1 : turnsN a m = 1 ∨ turnsN a m = -1) (hb : ∀ i, i < m → bendsF (stepsF a m) m i = turnsN a m) : -1 ≤ wnV a m c ∧ wnV a m c ≤ 1 := by
  obtain ⟨hv, hs, _⟩ := wk_parts h
  rw [wnV, h, cond_true, wnS_sum hv (small_bd hs) m (Nat.le_refl _)]
  exact law_wind hv ht h1 hb (IM c) (sdZ a m c)

end Go.Proofs.Ytoligfhcogligaa

/- FnOn returns true, whatever the bytes are. Conditions: bytes. -/
namespace Go.Proofs.Ytoligfhcogligaa
open Go.RowKit
set_option maxRecDepth 100000

theorem gmOl_ok : GamOk Try.prog (gmOl bPN bPG bPC f_valid bkC poV wnV wkV) := ext_ok (ext_ok (ext_ok (ext_ok (ext_ok g0_ok ok_drPOn) ok_poI) ok_poS) ok_bkY) ok_wnI
theorem yes_pon (m : Nat) (b : Nat → Int) (_ : m ≤ 9223372036854775807) (hb : okB m (rowB b) = true) : ∃ Γ n Λ, GamOk Try.prog Γ ∧ (∀ cc, fOnL.body = some cc → LamOk Try.prog 1 Λ cc) ∧ GoodQ (execF Try.prog Γ Λ n fOnL [.sl 0 1 0 0 m none] [.row false m 1 (rowB b) 5] (packK 1)) SaysYes := by
  have hl := bPN_le m b
  refine ⟨_, 100, _, gmOl_ok, noLam' _, ?_⟩
  rw [lawOl]
  refine good_cond (fun _ => good_out rfl) fun c => ?_
  have c := of_decide_eq_false c
  have b21 : decide (m ≤ 2097152) = true := decide_eq_true (by omega)
  have b38 := p38 (n := bPN m b) (by omega)
  simp only [Nat.zero_add, itB_row]
  generalize bPN m b = k at *
  generalize bPG m b = a at *
  generalize w8 (bPC m b) = p
  have e1 : poV (itC (row8 a)) k p = poV a k p := rfl
  have e2 : poV (itC (row8 (bkC (itC (row8 a)) k))) k p = poV (bkC a k) k p := rfl
  have e3 : wkV (itC (row8 a)) k p = wkV a k p := rfl
  simp only [hb, b21, b38, bleP, allC_r8, validP, itC_eta, e1, e2, e3, needs_t, needs_nil]
  rw [show (!poV a k p == poV a k p) = false by cases poV a k p <;> rfl, cond_false]
  cases hp : poV a k p with
  | false => exact good_out rfl
  | true =>
    obtain ⟨hv, hs, hn⟩ := po_parts hp
    have hk : wkV a k p = false := by rw [wkV, hn, Bool.not_true, Bool.and_false, Bool.and_false]
    refine good_false rfl (good_needs ?_ (good_true (by rw [hk]; rfl) (sayP ?_)))
    · simp only [ob_cons, ob_nil, and_true]
      exact hv
    · rw [poV, valid_bk hv, hs, on_back hv (small_bd hs), hn]
      rfl

end Go.Proofs.Ytoligfhcogligaa

/- What is on a polygon is not wound around: FnOn returns true, whatever the bytes are, and they read as before. No conditions. -/
namespace Go.Proofs.Ytoligfhcogligaa
open Go.ChangeShapes Go.WideShapes Go.ChangeAt Go.RowKit

set_option maxRecDepth 100000 in
theorem pon_lifted (os : Os) (started : os.Started) (H : Type) (enc : TypeId × Value → H) :
    ReturnsInHanded {} Try.checked os 7 .any (Rows.fnOnSpec.pre6 enc Try.prog Try.f7 Rows.fnOnRow.domain false) (Rows.fnOnSpec.post enc Try.prog Try.f7 false true false false) := by
  refine returnsInHanded_of_change (C := Try.checked) own started (by kernel_rfl) Try.func7
    (ChangeSpec.witness6 (enc := enc) (C := Try.checked) false ⟨#[], #[.slice none 0 0], []⟩ 8 (by kernel_rfl) (by kernel_rfl) (by kernel_rfl) (by kernel_rfl)) ?_
  intro W base args ds gs before hval hW _ _
  exact contractB (spec := Rows.fnOnSpec) Try.func7 rfl rfl rfl (fun _ _ => rfl) (fun m b hm hb => yes_pon m b hm hb) H enc W base args ds gs before hval hW

set_option maxRecDepth 100000 in
theorem pon_f1 : Rows.fnOnRow.wf (OpenSpec.ofChange Rows.fnOnSpec) = true := by kernel_rfl
set_option maxRecDepth 100000 in
theorem pon_f2 : (Rows.fnOnRow.inPlace == Try.prog.inPlace 7) = true := by kernel_rfl
set_option maxRecDepth 100000 in
theorem pon_f3 : (Rows.fnOnRow.unfollowed == Try.prog.unfollowed 7) = true := by kernel_rfl
set_option maxRecDepth 100000 in
theorem pon_f4 : (Rows.fnOnRow.recurses == Try.prog.recurses 7) = true := by kernel_rfl
set_option maxRecDepth 100000 in
theorem pon_f5 : (Rows.fnOnRow.named == Try.prog.varsNamed 7) = true := by kernel_rfl
set_option maxRecDepth 100000 in
theorem pon_f6 : Try.prog.funcNamed Rows.fnOnRow.func = some 7 := by kernel_rfl
theorem pon_f7 : (Rows.fnOnRow.lifted == Try.prog.liftsFinal) = true := jfG
theorem pon_f8 : (Try.prog.make == some Rows.fnOnRow.make) = true := jfH
theorem pon_f9 : (Rows.fnOnRow.plainKeys == Try.prog.plainKeys) = true := jfI
set_option maxRecDepth 100000 in
theorem pon_joined : joinedFacts Try.prog 7 Try.f7 Rows.fnOnSpec Rows.fnOnRow = true := by
  unfold joinedFacts
  rw [jfA, jfB, jfC, jfD, jfE, jfF, pon_f1, pon_f2, pon_f3, pon_f4, pon_f5, pon_f7, pon_f8, pon_f9]
  kernel_rfl

theorem pon_holds : Rows.FnOnSaid :=
  OpenClaim.holds_of_wide 7 Try.f7 rfl rfl rfl rfl rfl rfl rfl ⟨rfl, rfl, rfl, rfl, rfl⟩ rfl rfl rfl rfl rfl pon_f6 Try.func7 pon_joined
    (of_decide_eq_true (by kernel_rfl)) (by unfold Func.isWrapper; first | (rw [if_pos (by decide +kernel)]; kernel_rfl) | (rw [if_neg (by decide +kernel)]; exact ⟨rfl, rfl⟩))
    (fun os started H enc _ => pon_lifted os started H enc)
#print axioms pon_holds
end Go.Proofs.Ytoligfhcogligaa
