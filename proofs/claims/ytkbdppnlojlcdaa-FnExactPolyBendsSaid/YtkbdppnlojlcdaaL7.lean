/- The law's own helpers on whole numbers. Conditions: those that each word names. -/
import Derived.Test.YtkbdppnlojlcdaaL6
import Derived.Test.YtkbdppnlojlcdaaL1
namespace Go.Proofs.Ytkbdppnlojlcdaa
open Go.RowKit
set_option maxRecDepth 100000

def sameI (m : Nat) (a b : Nat → Int) : Bool := (List.range m).all fun j => decide (a j = b j)
theorem sameI_get {m : Nat} {a b : Nat → Int} (h : sameI m a b = true) {j : Nat} (hj : j < m) : a j = b j := by
  simpa using List.all_eq_true.1 h j (by simpa using hj)

structure EI where
  m : Nat
  n : Nat
  m2 : Nat
  n2 : Nat
  g : Nat → List Value
  g2 : Nat → List Value
  t : TypeId
  t2 : TypeId
abbrev lvE : Ex → List Nat := lv3 [0, 1, 5] [] [4]
def decE : List AV → List AB → Option EI
  | [.sl 0 1 0 0 m none, .sl 1 1 0 0 m2 none, .v (.int .i64 0)], [.row false n 1 g t, .row false n2 1 g2 t2] => some ⟨m, n, m2, n2, g, g2, t, t2⟩
  | _, _ => none
def stE (s : EI) (i : Nat) : List (Nat × AV) := [(0, .sl 0 1 0 0 s.m none), (1, .sl 1 1 0 0 s.m none), (5, .v (i64 i))]
def hpE (s : EI) : List AB := [.row false s.m 1 (rowI (itI s.g)) s.t, .row false s.m 1 (rowI (itI s.g2)) s.t2]
def preE (s : EI) : List Bool := [Nat.beq s.n s.m, Nat.beq s.m2 s.m, Nat.beq s.n2 s.m, allI s.m s.g, allI s.m s.g2, sameI s.m (itI s.g) (itI s.g2), decide (s.m ≤ 2 ^ 40)]
def outE (s : EI) (K : Kont) : Res := K .normal (mkT 0 26 []) (hpE s)
theorem rndE (s : EI) (i : Nat) : execC Try.prog g0 100 noLam (loopAt 0 Try.f17) (mkT 0 26 (stE s i)) (hpE s) (leafK lvE 2)
    = cond (decide ((i : Int) < s.m)) (needs [decide ((i : Int) < s.m), decide (0 + i < s.m), decide ((i : Int) < s.m), decide (0 + i < s.m)]
        (cond (itI s.g (0 + i) != itI s.g2 (0 + i)) (.out .ret (mkT 0 26 [(4, .v (.bool false))]) (hpE s)) (.out .normal (mkT 0 26 [(0, .sl 0 1 0 0 s.m none), (1, .sl 1 1 0 0 s.m none), (5, .v (i64 (IntKind.i64.wrap ((i : Int) + 1))))]) (hpE s))))
      (.out (.exit 0) (mkT 0 26 []) (hpE s)) := by kernel_rfl

theorem sumE : SumOk Try.prog 2 (.block 0 (.loop (loopAt 0 Try.f17))) (loopS 26 [0, 1, 5] decE preE outE) := by
  refine mkFor g0_ok (n := 100) (m := 2) (lv := lvE) (Λ := noLam) stE (fun s _ => hpE s) (fun _ _ => True) (fun s => s.m) rfl (noLam_ok _ _ _) (Nat.le_refl _) ?_ ?_
  · intro avs H s hd ho
    unfold decE at hd
    split at hd
    · rename_i m m2 n g t n2 g2 t2
      cases hd
      simp only [preE, ob_cons, decide_eq_true_eq] at ho
      obtain ⟨h0, h1, h2, h3, h4, h5, h6, _⟩ := ho
      have h0 := Nat.eq_of_beq_eq_true h0
      have h1 := Nat.eq_of_beq_eq_true h1
      have h2 := Nat.eq_of_beq_eq_true h2
      subst h0 h1 h2
      exact ⟨[.row false _ 1 g t, .row false _ 1 g2 t2], by kernel_rfl, .cons (ABeq.row fun j hj => allI_get h3 j hj) (.cons (ABeq.row fun j hj => allI_get h4 j hj) .nil), trivial⟩
    · cases hd
  · intro s K Q ho hk i _ him
    simp only [preE, ob_cons, decide_eq_true_eq] at ho
    obtain ⟨_, _, _, _, _, h5, h6, _⟩ := ho
    show GoodQ (execC Try.prog g0 100 noLam (loopAt 0 Try.f17) (mkT 0 26 (stE s i)) (hpE s) (leafK lvE 2)) _
    rw [rndE, Nat.zero_add]
    refine good_cond (fun h1 => ?_) fun h1 => ?_
    · have h1 := of_decide_eq_true h1
      have h1' : i < s.m := by omega
      refine good_needs (by simp only [ob_cons, ob_nil, and_true, decide_eq_true_eq]; omega) (good_false (by simp [sameI_get h5 h1']) (good_out ⟨h1', ?_, Hsim.refl _, trivial⟩))
      rw [show IntKind.i64.wrap ((i : Int) + 1) = W ((i : Int) + 1) from rfl, w64_in (x := (i : Int) + 1) (by omega) (by omega)]
      rfl
    · refine good_out ⟨_, Hsim.refl _, ?_⟩
      rw [if_pos rfl]
      exact hk

/-- Two slices that are equal. -/
def F_eqIntS : List SA → Option FR
  | [.row m g, .row m2 g2] => some { val := .v (.bool true), obl := [Nat.beq m2 m, allI m g, allI m g2, sameI m (itI g) (itI g2), decide (m ≤ 2 ^ 40)] }
  | _ => none
def md_eqIntS : List Md := [.rd 1 3, .rd 1 3]
theorem ok_eqIntS : SpecOk Try.prog 17 (specR md_eqIntS F_eqIntS) := by
  refine mkR (n := 100) (Λ := oneL 0 (loopS 26 [0, 1, 5] decE preE outE)) g0_ok Try.func17 rfl fun sas fr hF ho => ?_
  unfold F_eqIntS at hF
  split at hF
  · rename_i m g m2 g2
    cases hF
    simp only [ob_cons] at ho
    obtain ⟨h0, h1, h2, h3, h4, _⟩ := ho
    have h0 := Nat.eq_of_beq_eq_true h0
    subst h0
    refine ⟨[.row false m2 1 (rowI (itI g)) 3, .row false m2 1 (rowI (itI g2)) 3], .cons (ABeq.row fun j hj => allI_get h1 j hj) (.cons (ABeq.row fun j hj => allI_get h2 j hj) .nil), lam1 (by kernel_rfl) sumE, ?_⟩
    have e : execF Try.prog g0 (oneL 0 (loopS 26 [0, 1, 5] decE preE outE)) 100 Try.f17 (avC 0 md_eqIntS [.row m2 g, .row m2 g2]) [.row false m2 1 (rowI (itI g)) 3, .row false m2 1 (rowI (itI g2)) 3] (packK 2)
      = cond ((m2 : Int) != m2) (.out .ret [.v (.bool false)] [.row false m2 1 (rowI (itI g)) 3, .row false m2 1 (rowI (itI g2)) 3])
        (needs [Nat.beq m2 m2, Nat.beq m2 m2, Nat.beq m2 m2, allI m2 (rowI (itI g)), allI m2 (rowI (itI g2)), sameI m2 (itI g) (itI g2), decide (m2 ≤ 2 ^ 40)] (.out .ret [.v (.bool true)] [.row false m2 1 (rowI (itI g)) 3, .row false m2 1 (rowI (itI g2)) 3])) := by kernel_rfl
    rw [show ([AB.row false m2 1 (rowI (itI g)) 3, AB.row false m2 1 (rowI (itI g2)) 3]).length = 2 from rfl, e]
    refine good_false (by simp) (good_needs (by simp only [ob_cons, ob_nil, allI_of (m := m2) (a := itI g) fun j _ => rfl, allI_of (m := m2) (a := itI g2) fun j _ => rfl, h3, h4, beq_me, and_self]) (good_out ⟨_, rfl, rfl, .cons (ABeq.row fun j hj => (allI_get h1 j hj).symm) (.cons (ABeq.row fun j hj => (allI_get h2 j hj).symm) .nil)⟩))
  · cases hF

end Go.Proofs.Ytkbdppnlojlcdaa
