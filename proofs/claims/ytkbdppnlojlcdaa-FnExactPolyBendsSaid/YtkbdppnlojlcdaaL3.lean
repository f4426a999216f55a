/- l8Steps: the steps of a polygon, by the reference. Conditions: a list of points. -/
import Derived.Test.YtkbdppnlojlcdaaL2
namespace Go.Proofs.Ytkbdppnlojlcdaa
open Go.RowKit
set_option maxRecDepth 100000

theorem steps_alike (a : Nat → Nat → Int) (m j : Nat) : rowC (fun j => sumF (a ((j + 1) % m)) (-1) (a j)) j = rowC (stepsF a m) j := by
  have : ∀ k, sumF (a ((j + 1) % m)) (-1) (a j) k = stepsF a m j k := by
    intro k
    show W (a ((j + 1) % m) k + -1 * a j k) = W (a ((j + 1) % m) k + W (a j k * -1))
    rw [w64_add_r, Int.mul_comm]
  simp only [rowC, this]

/-- The next place round the list. -/
theorem next_at {i m : Nat} (hi : i < m) (hm : m ≤ 2 ^ 38) : (IntKind.i64.wrap ((i : Int) + 1)).tmod m = (((i + 1) % m : Nat) : Int) := by
  have : IntKind.i64.wrap ((i : Int) + 1) = ((i + 1 : Nat) : Int) := by
    rw [show IntKind.i64.wrap ((i : Int) + 1) = W ((i : Int) + 1) from rfl, w64_in (by omega) (by omega)]; omega
  rw [this]
  exact (Int.ofNat_tmod _ _).symm

abbrev lvL : Ex → List Nat := lv3 [0, 3, 4] [3] []
def decL : List AV → List AB → Option PV
  | [.sl 0 8 0 0 m none, .own 1 0, .v (.int .i64 0)], [.row false n 8 g t, .row true 0 8 _ 46] => some ⟨m, n, g, t⟩
  | _, _ => none
def stL (s : PV) (i : Nat) : List (Nat × AV) := [(0, slP s.m), (3, .own 1 i), (4, .v (i64 i))]
def hpL (s : PV) (i : Nat) : List AB := [.row false s.m 8 (rowC (itC s.g)) s.t, .row true i 8 (rowC (stepsF (itC s.g) s.m)) 46]
def outL (s : PV) (K : Kont) : Res := K .normal (mkT 0 29 [(3, .own 1 s.m)]) (hpL s s.m)
theorem rndL (s : PV) (i : Nat) : execC Try.prog gm_steps 100 noLam (loopAt 0 Try.f45) (mkT 0 29 (stL s i)) (hpL s i) (leafK lvL 1)
    = cond (decide ((i : Int) < s.m)) (needs [!decide ((s.m : Int) = 0), decide (0 ≤ (IntKind.i64.wrap ((i : Int) + 1)).tmod s.m), decide ((IntKind.i64.wrap ((i : Int) + 1)).tmod s.m < s.m), decide (0 + ((IntKind.i64.wrap ((i : Int) + 1)).tmod s.m).toNat < s.m), decide ((i : Int) < s.m), decide (0 + i < s.m), Nat.ble i i, Nat.ble (i + 1) 549755813888]
        (.out .normal (mkT 0 29 [(0, slP s.m), (3, .own 1 (i + 1)), (4, .v (i64 (IntKind.i64.wrap ((i : Int) + 1))))]) [.row false s.m 8 (rowC (itC s.g)) s.t,
          .row true (i + 1) 8 (snocR (rowC (stepsF (itC s.g) s.m)) i 8 (rowC (fun _ => sumF (itC s.g (0 + ((IntKind.i64.wrap ((i : Int) + 1)).tmod s.m).toNat)) (-1) (itC s.g (0 + i))) i)) 46]))
      (.out (.exit 0) (mkT 0 29 [(3, .own 1 i)]) (hpL s i)) := by kernel_rfl

theorem sumL : SumOk Try.prog 1 (.block 0 (.loop (loopAt 0 Try.f45))) (loopS 29 [0, 3, 4] decL prePV outL) := by
  refine mkFor gm_steps_ok (n := 100) (m := 1) (lv := lvL) (Λ := noLam) stL hpL (fun _ _ => True) (fun s => s.m) rfl (noLam_ok _ _ _) (Nat.le_refl _) ?_ ?_
  · intro avs H s hd ho
    unfold decL at hd
    split at hd
    · rename_i m n g t G
      cases hd
      obtain ⟨h1, h2, h3⟩ := pv_ok ho
      simp only at h1 h2 h3
      subst h1
      exact ⟨[.row false n 8 g t, .row true 0 8 G 46], by kernel_rfl, .cons (ABeq.row h2) (.cons (ABeq.row fun j hj => by omega) .nil), trivial⟩
    · cases hd
  · intro s K Q ho hk i _ him
    obtain ⟨_, _, hm⟩ := pv_ok ho
    rw [rndL]
    refine good_cond (fun h1 => ?_) fun h1 => ?_
    · have h1 := of_decide_eq_true h1
      have h1' : i < s.m := by omega
      have hml : (i + 1) % s.m < s.m := Nat.mod_lt _ (by omega)
      rw [next_at h1' hm]
      simp only [Int.toNat_natCast, Nat.zero_add]
      refine good_needs (by simp only [ob_cons, ob_nil, and_true, decide_eq_true_eq, Bool.not_eq_true', decide_eq_false_iff_not, Nat.ble_eq]; omega) (good_out ⟨h1', ?_, ?_, trivial⟩)
      · rw [show IntKind.i64.wrap ((i : Int) + 1) = W ((i : Int) + 1) from rfl, w64_in (x := (i : Int) + 1) (by omega) (by omega)]
        rfl
      · refine .cons (ABeq.refl _) (.cons (ABeq.row fun j hj => ?_) .nil)
        rcases Nat.lt_or_ge j i with h | h
        · rw [snocR_lt h]
        · have : j = i := by omega
          subst this
          rw [snocR_eq (by simp)]
          exact steps_alike (itC s.g) s.m j
    · have h1 := of_decide_eq_false h1
      have : i = s.m := by omega
      subst this
      refine good_out ⟨_, Hsim.refl _, ?_⟩
      rw [if_pos rfl]
      exact hk

theorem ok_l8Steps : SpecOk Try.prog 45 (specR md_list F_steps) := by
  refine mkR (n := 100) (Λ := oneL 0 (loopS 29 [0, 3, 4] decL prePV outL)) gm_steps_ok Try.func45 rfl fun sas fr hF ho => ?_
  unfold F_steps at hF
  split at hF
  · rename_i m g
    cases hF
    simp only [ob_cons] at ho
    obtain ⟨h1, _, h2, _⟩ := ho
    refine ⟨[.row false m 8 (rowC (itC g)) 46], .cons (ABeq.row fun j hj => allC_get h1 j hj) .nil, lam1 (by kernel_rfl) sumL, ?_⟩
    have e : execF Try.prog gm_steps (oneL 0 (loopS 29 [0, 3, 4] decL prePV outL)) 100 Try.f45 (avC 0 md_list [.row m g]) [.row false m 8 (rowC (itC g)) 46] (packK 1)
      = needs [Nat.beq m m, allC m (rowC (itC g)), decide (m ≤ 2 ^ 38)] (.out .ret [.own 1 m] [.row false m 8 (rowC (itC g)) 46, .row true m 8 (rowC (stepsF (itC (rowC (itC g))) m)) 46]) := by kernel_rfl
    rw [show ([AB.row false m 8 (rowC (itC g)) 46]).length = 1 from rfl, e]
    exact good_needs (by simp only [ob_cons, ob_nil, allC_of (m := m) (a := itC g) fun j _ => rfl, h2, beq_me, and_self]) (good_out ⟨_, rfl, rfl, .cons (ABeq.row fun j hj => (allC_get h1 j hj).symm) (.cons (ABeq.row fun j hj => rfl) .nil)⟩)
  · cases hF

def gm_l8Steps : Gam := ext gm_steps 45 (specR md_list F_steps)
theorem gm_l8Steps_ok : GamOk Try.prog gm_l8Steps := ext_ok gm_steps_ok ok_l8Steps

end Go.Proofs.Ytkbdppnlojlcdaa
