/- bends; PolyBends of both, where the list is a polygon. Conditions: a list of points. -/
import Derived.Test.YtkbdppnlojlcdaaL4
namespace Go.Proofs.Ytkbdppnlojlcdaa
open Go.RowKit
set_option maxRecDepth 100000
abbrev lvA : Ex → List Nat := lv3 [3, 4, 12, 13, 14] [4] []
def stA (s : PB) (i : Nat) : List (Nat × AV) := [(3, .own 1 s.m), (4, .own 2 i), (12, .own 1 s.m), (13, .v (i64 s.m)), (14, .v (i64 i))]
def hpA (s : PB) (i : Nat) : List AB := [.row false s.n 8 s.g s.t, .row true s.m 8 (rowC (itC s.gb)) 46, .row true i 1 (rowI (bendsF (itC s.gb) s.m)) 3]
def decA : List AV → List AB → Option (PB × Nat)
  | [.own 1 m, .own 2 0, .own 1 k', .v (.int .i64 (.ofNat k)), .v (.int .i64 0)], [.row false n 8 g t, .row true m' 8 gb 46, .row true 0 1 _ 3] => some (⟨m, m', k, gb, n, g, t⟩, k')
  | _, _ => none
def preA (s : PB × Nat) : List Bool := Nat.beq s.2 s.1.m :: preB s.1
def outA (s : PB × Nat) (K : Kont) : Res := K .normal (mkT 0 38 [(4, .own 1 s.1.m)]) [.row false s.1.n 8 s.1.g s.1.t, .row true s.1.m 1 (rowI (bendsF (itC s.1.gb) s.1.m)) 3]
theorem rndA (m : Nat) (b : Nat → Nat → Int) (n : Nat) (g : Nat → List Value) (t : TypeId) (G : Nat → List Value) (i : Nat) : execC Try.prog gm_y 100 noLam (loopAt 0 Try.f49) (mkT 0 38 [(3, .own 1 m), (4, .own 2 i), (12, .own 1 m), (13, .v (i64 m)), (14, .v (i64 i))]) [.row false n 8 g t, .row true m 8 (rowC b) 46, .row true i 1 G 3] (leafK lvA 1)
    = cond (decide ((i : Int) < m)) (needs [decide ((i : Int) < m), decide (i < m), !decide ((m : Int) = 0), decide (0 ≤ prI i m), decide (prI i m < m), decide ((prI i m).toNat < m), i64B (crossW (b (prI i m).toNat) (b i) 0), i64B (crossW (b (prI i m).toNat) (b i) 1), i64B (crossW (b (prI i m).toNat) (b i) 2), i64B (crossW (b (prI i m).toNat) (b i) 3), Nat.ble i i, Nat.ble (i + 1) 549755813888]
        (.out .normal (mkT 0 38 [(3, .own 1 m), (4, .own 2 (i + 1)), (12, .own 1 m), (13, .v (i64 m)), (14, .v (i64 (IntKind.i64.wrap ((i : Int) + 1))))]) [.row false n 8 g t, .row true m 8 (rowC b) 46, .row true (i + 1) 1 (snocR G i 1 [i64 (bendV (b (prI i m).toNat) (b i))]) 3]))
      (.out (.exit 0) (mkT 0 38 [(4, .own 1 i)]) [.row false n 8 g t, .row true i 1 G 3]) := by kernel_rfl

theorem sumA : SumOk Try.prog 1 (.block 0 (.loop (loopAt 0 Try.f49))) (loopS 38 [3, 4, 12, 13, 14] decA preA outA) := by
  refine mkFor gm_y_ok (n := 100) (m := 1) (lv := lvA) (Λ := noLam) (fun s => stA s.1) (fun s => hpA s.1) (fun _ _ => True) (fun s => s.1.m) rfl (noLam_ok _ _ _) (Nat.le_refl _) ?_ ?_
  · intro avs H s hd ho
    unfold decA at hd
    split at hd
    · rename_i m k' k n g t m' gb G
      cases hd
      simp only [preA, preB, ob_cons, decide_eq_true_eq] at ho
      obtain ⟨h0, h1, h2, h3, h4, _⟩ := ho
      have h0 := Nat.eq_of_beq_eq_true h0
      have h1 := Nat.eq_of_beq_eq_true h1
      have h2 := Nat.eq_of_beq_eq_true h2
      subst h0 h1 h2
      exact ⟨[.row false n 8 g t, .row true _ 8 gb 46, .row true 0 1 G 3], by kernel_rfl, .cons (ABeq.refl _) (.cons (ABeq.row fun j hj => allC_get h3 j hj) (.cons (ABeq.row fun j hj => by omega) .nil)), trivial⟩
    · cases hd
  · rintro ⟨s, k'⟩ K Q ho hk i _ him
    simp only [preA, preB, ob_cons, decide_eq_true_eq] at ho
    obtain ⟨_, _, _, _, hm, _⟩ := ho
    simp only at him
    show GoodQ (execC Try.prog gm_y 100 noLam (loopAt 0 Try.f49) (mkT 0 38 [(3, .own 1 s.m), (4, .own 2 i), (12, .own 1 s.m), (13, .v (i64 s.m)), (14, .v (i64 i))]) [.row false s.n 8 s.g s.t, .row true s.m 8 (rowC (itC s.gb)) 46, .row true i 1 (rowI (bendsF (itC s.gb) s.m)) 3] (leafK lvA 1)) _
    rw [rndA]
    refine good_cond (fun h1 => ?_) fun h1 => ?_
    · have h1 := of_decide_eq_true h1
      have h1' : i < s.m := by omega
      have hml : (i + s.m - 1) % s.m < s.m := Nat.mod_lt _ (by omega)
      rw [show prI (i : Int) s.m = _ from prev_at h1' hm]
      simp only [Int.toNat_natCast]
      refine good_needs (by simp only [ob_cons, ob_nil, cross_in, and_true, true_and, decide_eq_true_eq, Bool.not_eq_true', decide_eq_false_iff_not, Nat.ble_eq]; omega) (good_out ⟨h1', ?_, ?_, trivial⟩)
      · rw [show IntKind.i64.wrap ((i : Int) + 1) = W ((i : Int) + 1) from rfl, w64_in (x := (i : Int) + 1) (by omega) (by omega)]
        rfl
      · refine .cons (ABeq.refl _) (.cons (ABeq.refl _) (.cons (ABeq.row fun j hj => ?_) .nil))
        rcases Nat.lt_or_ge j i with h | h
        · rw [snocR_lt h]
        · have : j = i := by omega
          subst this
          rw [snocR_eq (by simp)]
          rfl
    · have h1 := of_decide_eq_false h1
      have : i = s.m := by omega
      subst this
      refine good_out ⟨_, Hsim.refl _, ?_⟩
      rw [if_pos rfl]
      exact hk

/-- The bends of a list. -/
def F_bends : List SA → Option FR
  | [.row m g] => some { val := .own 0 m, new := [.row true m 1 (rowI (bendsF (stepsF (itC g) m) m)) 3], obl := [allC m g, decide (0 < m), decide (m ≤ 2 ^ 38)] }
  | _ => none
theorem ok_bends : SpecOk Try.prog 49 (specR md_list F_bends) := by
  refine mkR (n := 100) (Λ := oneL 0 (loopS 38 [3, 4, 12, 13, 14] decA preA outA)) gm_y_ok Try.func49 rfl fun sas fr hF ho => ?_
  unfold F_bends at hF
  split at hF
  · rename_i m g
    cases hF
    simp only [ob_cons] at ho
    obtain ⟨h1, h3, h2, _⟩ := ho
    have h2' := of_decide_eq_true h2
    refine ⟨[.row false m 8 (rowC (itC g)) 46], .cons (ABeq.row fun j hj => allC_get h1 j hj) .nil, lam1 (by kernel_rfl) sumA, ?_⟩
    have e : execF Try.prog gm_y (oneL 0 (loopS 38 [3, 4, 12, 13, 14] decA preA outA)) 100 Try.f49 (avC 0 md_list [.row m g]) [.row false m 8 (rowC (itC g)) 46] (packK 1)
      = needs [Nat.ble (0 + m) m, allC m (fun q => rowC (itC g) (0 + q)), decide (0 < m), decide (m ≤ 2 ^ 38), decide ((m : Int) ≤ 1099511627776),
          Nat.beq m m, Nat.beq m m, Nat.beq m m, allC m (rowC (stepsF (itC fun q => rowC (itC g) (0 + q)) m)), decide (m ≤ 2 ^ 38)]
        (.out .ret [.own 1 m] [.row false m 8 (rowC (itC g)) 46, .row true m 1 (rowI (bendsF (itC (rowC (stepsF (itC fun q => rowC (itC g) (0 + q)) m))) m)) 3]) := by kernel_rfl
    rw [show ([AB.row false m 8 (rowC (itC g)) 46]).length = 1 from rfl, e, zero_row]
    refine good_needs ?_ (good_out ⟨_, rfl, rfl, .cons (ABeq.row fun j hj => (allC_get h1 j hj).symm) (.cons (ABeq.row fun j hj => ?_) .nil)⟩)
    · simp only [ob_cons, ob_nil, allC_of (m := m) (a := itC g) fun j _ => rfl, allC_of (m := m) (a := stepsF (itC (rowC (itC g))) m) fun j _ => rfl, h2, h3, beq_me, and_self, and_true, true_and, Nat.zero_add, Nat.ble_eq, Nat.le_refl, decide_eq_true_eq]
      omega
    · kernel_rfl
  · cases hF

end Go.Proofs.Ytkbdppnlojlcdaa
