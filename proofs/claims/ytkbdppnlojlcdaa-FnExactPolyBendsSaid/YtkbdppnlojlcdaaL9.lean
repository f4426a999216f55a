/- toCycS: a new list of points. Conditions: a list of points. -/
import Derived.Test.YtkbdppnlojlcdaaL8
namespace Go.Proofs.Ytkbdppnlojlcdaa
open Go.RowKit
set_option maxRecDepth 100000

abbrev lvC : Ex → List Nat := lv3 [0, 3, 4] [3] []
structure TC where
  m : Nat
  n : Nat
  g : Nat → List Value
  t : TypeId
  m1 : Nat
  n1 : Nat
  G : Nat → List Value
def decC : List AV → List AB → Option TC
  | [.sl 0 8 0 0 m none, .own 1 m1, .v (.int .i64 0)], [.row false n 8 g t, .row true n1 8 G 46] => some ⟨m, n, g, t, m1, n1, G⟩
  | _, _ => none
def toG (a : Nat → Nat → Int) (G : Nat → List Value) (i : Nat) : Nat → List Value := fun j => bif Nat.blt j i then rowC a j else G j
theorem blt_self (j : Nat) : Nat.blt j j = false := by
  cases hb : Nat.blt j j with
  | false => rfl
  | true => rw [Nat.blt_eq] at hb; omega
theorem rndC (m : Nat) (a : Nat → Nat → Int) (t : TypeId) (G : Nat → List Value) (i : Nat) : execC Try.prog g0 100 noLam (loopAt 0 Try.f15) (mkT 0 23 [(0, slP m), (3, .own 1 m), (4, .v (i64 i))]) [.row false m 8 (rowC a) t, .row true m 8 G 46] (leafK lvC 1)
    = cond (decide ((i : Int) < m)) (needs [decide ((i : Int) < m), decide (0 + i < m), decide ((i : Int) < m), decide (i < m)]
        (.out .normal (mkT 0 23 [(0, slP m), (3, .own 1 m), (4, .v (i64 (IntKind.i64.wrap ((i : Int) + 1))))]) [.row false m 8 (rowC a) t, .row true m 8 (fun q => bif Nat.beq q i then splice (G i) 0 (rowC a (0 + i)) else G q) 46]))
      (.out (.exit 0) (mkT 0 23 [(3, .own 1 m)]) [.row false m 8 (rowC a) t, .row true m 8 G 46]) := by kernel_rfl

def stC (s : TC) (i : Nat) : List (Nat × AV) := [(0, slP s.m), (3, .own 1 s.m), (4, .v (i64 i))]
def hpC (s : TC) (i : Nat) : List AB := [.row false s.m 8 (rowC (itC s.g)) s.t, .row true s.m 8 (toG (itC s.g) s.G i) 46]
def preC (s : TC) : List Bool := [Nat.beq s.n s.m, Nat.beq s.m1 s.m, Nat.beq s.n1 s.m, allC s.m s.g, allC s.m s.G, decide (s.m ≤ 2 ^ 40)]
def outC (s : TC) (K : Kont) : Res := K .normal (mkT 0 23 [(3, .own 1 s.m)]) [.row false s.m 8 (rowC (itC s.g)) s.t, .row true s.m 8 (rowC (itC s.g)) 46]
theorem sumC : SumOk Try.prog 1 (.block 0 (.loop (loopAt 0 Try.f15))) (loopS 23 [0, 3, 4] decC preC outC) := by
  refine mkFor g0_ok (n := 100) (m := 1) (lv := lvC) (Λ := noLam) stC hpC (fun _ _ => True) (fun s => s.m) rfl (noLam_ok _ _ _) (Nat.le_refl _) ?_ ?_
  · intro avs H s hd ho
    unfold decC at hd
    split at hd
    · rename_i m m1 n g t n1 G
      cases hd
      simp only [preC, ob_cons, decide_eq_true_eq] at ho
      obtain ⟨h0, h1, h2, h3, _⟩ := ho
      have h0 := Nat.eq_of_beq_eq_true h0
      have h1 := Nat.eq_of_beq_eq_true h1
      have h2 := Nat.eq_of_beq_eq_true h2
      subst h0 h1 h2
      exact ⟨[.row false _ 8 g t, .row true _ 8 G 46], by kernel_rfl, .cons (ABeq.row fun j hj => allC_get h3 j hj) (.cons (ABeq.row fun j hj => rfl) .nil), trivial⟩
    · cases hd
  · intro s K Q ho hk i _ him
    simp only [preC, ob_cons, decide_eq_true_eq] at ho
    obtain ⟨_, _, _, _, h4, h5, _⟩ := ho
    show GoodQ (execC Try.prog g0 100 noLam (loopAt 0 Try.f15) (mkT 0 23 [(0, slP s.m), (3, .own 1 s.m), (4, .v (i64 i))]) [.row false s.m 8 (rowC (itC s.g)) s.t, .row true s.m 8 (toG (itC s.g) s.G i) 46] (leafK lvC 1)) _
    rw [rndC, Nat.zero_add]
    refine good_cond (fun hc => ?_) fun hc => ?_
    · have hc := of_decide_eq_true hc
      have hc' : i < s.m := by omega
      refine good_needs (by simp only [ob_cons, ob_nil, and_true, decide_eq_true_eq]; omega) (good_out ⟨hc', ?_, .cons (ABeq.refl _) (.cons (ABeq.row fun j hj => ?_) .nil), trivial⟩)
      · rw [show IntKind.i64.wrap ((i : Int) + 1) = W ((i : Int) + 1) from rfl, w64_in (x := (i : Int) + 1) (by omega) (by omega)]
        rfl
      · by_cases e : j = i
        · subst e
          have b1 : Nat.beq j j = true := Nat.beq_refl j
          have b3 : Nat.blt j (j + 1) = true := by rw [Nat.blt_eq]; omega
          simp only [toG, b1, blt_self, b3, cond_true, cond_false]
          rw [allC_get h4 j hc']
          rfl
        · have b1 : Nat.beq j i = false := by
            cases hb : Nat.beq j i with
            | false => rfl
            | true => exact (e (Nat.eq_of_beq_eq_true hb)).elim
          have b2 : Nat.blt j (i + 1) = Nat.blt j i := by
            rw [Bool.eq_iff_iff, Nat.blt_eq, Nat.blt_eq]
            omega
          simp only [toG, b1, b2, cond_false]
    · have hc := of_decide_eq_false hc
      have : i = s.m := by omega
      subst this
      refine good_out ⟨[.row false s.m 8 (rowC (itC s.g)) s.t, .row true s.m 8 (rowC (itC s.g)) 46], .cons (ABeq.refl _) (.cons (ABeq.row fun j hj => ?_) .nil), ?_⟩
      · have b3 : Nat.blt j s.m = true := by rw [Nat.blt_eq]; exact hj
        simp only [toG, b3, cond_true]
      · rw [if_pos rfl]
        exact hk

def F_toCycS : List SA → Option FR
  | [.row m g] => some { val := .own 0 m, new := [.row true m 8 (rowC (itC g)) 46], obl := [allC m g, decide (m ≤ 2 ^ 40)] }
  | _ => none
def md_toCycS : List Md := [.rd 8 58]
theorem ok_toCycS : SpecOk Try.prog 15 (specR md_toCycS F_toCycS) := by
  refine mkR (n := 100) (Λ := oneL 0 (loopS 23 [0, 3, 4] decC preC outC)) g0_ok Try.func15 rfl fun sas fr hF ho => ?_
  unfold F_toCycS at hF
  split at hF
  · rename_i m g
    cases hF
    simp only [ob_cons] at ho
    obtain ⟨h1, h2, _⟩ := ho
    have h2' := of_decide_eq_true h2
    refine ⟨[.row false m 8 (rowC (itC g)) 58], .cons (ABeq.row fun j hj => allC_get h1 j hj) .nil, lam1 (by kernel_rfl) sumC, ?_⟩
    have e : execF Try.prog g0 (oneL 0 (loopS 23 [0, 3, 4] decC preC outC)) 100 Try.f15 (avC 0 md_toCycS [.row m g]) [.row false m 8 (rowC (itC g)) 58] (packK 1)
      = needs [decide ((m : Int) ≤ m), decide ((m : Int) ≤ 1099511627776), Nat.beq m m, Nat.beq m m, Nat.beq m m, allC m (rowC (itC g)), allC m zC, decide (m ≤ 2 ^ 40)] (.out .ret [.own 1 m] [.row false m 8 (rowC (itC g)) 58, .row true m 8 (rowC (itC (rowC (itC g)))) 46]) := by kernel_rfl
    rw [show ([AB.row false m 8 (rowC (itC g)) 58]).length = 1 from rfl, e]
    refine good_needs ?_ (good_out ⟨_, rfl, rfl, .cons (ABeq.row fun j hj => (allC_get h1 j hj).symm) (.cons (ABeq.row fun j hj => rfl) .nil)⟩)
    simp only [ob_cons, ob_nil, allC_of (m := m) (a := itC g) fun j _ => rfl, allC_of (m := m) (a := fun _ _ => 0) (g := zC) fun j _ => rfl, h2, beq_me, and_self, and_true, true_and, decide_eq_true_eq]
    omega
  · cases hF

end Go.Proofs.Ytkbdppnlojlcdaa
