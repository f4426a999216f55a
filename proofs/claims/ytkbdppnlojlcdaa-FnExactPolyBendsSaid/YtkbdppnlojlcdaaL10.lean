/- eqCyc, eqCycS, where the points are equal. -/
import Derived.Test.YtkbdppnlojlcdaaL9
namespace Go.Proofs.Ytkbdppnlojlcdaa
open Go.RowKit
set_option maxRecDepth 100000

def sameC (a b : Nat → Int) : Bool := decide (a 0 = b 0) && decide (a 1 = b 1) && decide (a 2 = b 2) && decide (a 3 = b 3) && decide (a 4 = b 4) && decide (a 5 = b 5) && decide (a 6 = b 6) && decide (a 7 = b 7)
def f_eqCyc : List Value → Option (Value × List Bool)
  | [.agg ⟨[.int .i64 a0, .int .i64 a1, .int .i64 a2, .int .i64 a3, .int .i64 a4, .int .i64 a5, .int .i64 a6, .int .i64 a7]⟩, .agg ⟨[.int .i64 b0, .int .i64 b1, .int .i64 b2, .int .i64 b3, .int .i64 b4, .int .i64 b5, .int .i64 b6, .int .i64 b7]⟩] => some (.bool true, [sameC (v8 a0 a1 a2 a3 a4 a5 a6 a7) (v8 b0 b1 b2 b3 b4 b5 b6 b7)])
  | _ => none
theorem treeE (a b : Nat → Int) : execF Try.prog g0 noLam 100 Try.f50 ([cyv a, cyv b].map .v) [] valK
    = cond (a 0 != b 0) (rv (.bool false)) (cond (a 1 != b 1) (rv (.bool false)) (cond (a 2 != b 2) (rv (.bool false)) (cond (a 3 != b 3) (rv (.bool false)) (cond (a 4 != b 4) (rv (.bool false)) (cond (a 5 != b 5) (rv (.bool false)) (cond (a 6 != b 6) (rv (.bool false)) (cond (a 7 != b 7) (rv (.bool false)) (rv (.bool true))))))))) := by kernel_rfl
theorem ok_eqCyc : SpecOk Try.prog 50 (specV f_eqCyc) := by
  refine mkV (n := 100) g0_ok Try.func50 rfl fun vs v ob hF ho => ?_
  unfold f_eqCyc at hF
  split at hF
  · rename_i a0 a1 a2 a3 a4 a5 a6 a7 b0 b1 b2 b3 b4 b5 b6 b7
    cases hF
    show Good (execF Try.prog g0 noLam 100 Try.f50 ([cyv (v8 a0 a1 a2 a3 a4 a5 a6 a7), cyv (v8 b0 b1 b2 b3 b4 b5 b6 b7)].map .v) [] valK) _
    rw [treeE]
    generalize v8 a0 a1 a2 a3 a4 a5 a6 a7 = a at *
    generalize v8 b0 b1 b2 b3 b4 b5 b6 b7 = b at *
    have ho : sameC a b = true := by simpa [obls] using ho
    simp only [sameC, Bool.and_eq_true, decide_eq_true_eq] at ho
    obtain ⟨⟨⟨⟨⟨⟨⟨h0, h1⟩, h2⟩, h3⟩, h4⟩, h5⟩, h6⟩, h7⟩ := ho
    rw [h0, h1, h2, h3, h4, h5, h6, h7]
    refine gives_of ?_
    simp [outV_cond, outV_rv]
  · cases hF

def gm_e : Gam := ext g0 50 (specV f_eqCyc)
theorem gm_e_ok : GamOk Try.prog gm_e := ext_ok g0_ok ok_eqCyc
def sameL (m : Nat) (a b : Nat → Nat → Int) : Bool := (List.range m).all fun j => sameC (w8 (a j)) (w8 (b j))
theorem sameL_get {m : Nat} {a b : Nat → Nat → Int} (h : sameL m a b = true) {j : Nat} (hj : j < m) : sameC (w8 (a j)) (w8 (b j)) = true := List.all_eq_true.1 h j (by simpa using hj)

structure EC where
  m : Nat
  n : Nat
  m2 : Nat
  n2 : Nat
  g : Nat → List Value
  g2 : Nat → List Value
  t : TypeId
  t2 : TypeId
abbrev lvQ : Ex → List Nat := lv3 [0, 1, 5] [] [4]
def decQ : List AV → List AB → Option EC
  | [.sl 0 8 0 0 m none, .sl 1 8 0 0 m2 none, .v (.int .i64 0)], [.row false n 8 g t, .row false n2 8 g2 t2] => some ⟨m, n, m2, n2, g, g2, t, t2⟩
  | _, _ => none
def stQ (s : EC) (i : Nat) : List (Nat × AV) := [(0, .sl 0 8 0 0 s.m none), (1, .sl 1 8 0 0 s.m none), (5, .v (i64 i))]
def hpQ (s : EC) : List AB := [.row false s.m 8 (rowC (itC s.g)) s.t, .row false s.m 8 (rowC (itC s.g2)) s.t2]
def preQ (s : EC) : List Bool := [Nat.beq s.n s.m, Nat.beq s.m2 s.m, Nat.beq s.n2 s.m, allC s.m s.g, allC s.m s.g2, sameL s.m (itC s.g) (itC s.g2), decide (s.m ≤ 2 ^ 40)]
def outQ (s : EC) (K : Kont) : Res := K .normal (mkT 0 27 []) (hpQ s)
theorem rndQ (s : EC) (i : Nat) : execC Try.prog gm_e 100 noLam (loopAt 0 Try.f18) (mkT 0 27 (stQ s i)) (hpQ s) (leafK lvQ 2)
    = cond (decide ((i : Int) < s.m)) (needs [decide ((i : Int) < s.m), decide (0 + i < s.m), decide ((i : Int) < s.m), decide (0 + i < s.m)]
        (needs [sameC (w8 (itC s.g (0 + i))) (w8 (itC s.g2 (0 + i)))] (.out .normal (mkT 0 27 [(0, .sl 0 8 0 0 s.m none), (1, .sl 1 8 0 0 s.m none), (5, .v (i64 (IntKind.i64.wrap ((i : Int) + 1))))]) (hpQ s))))
      (.out (.exit 0) (mkT 0 27 []) (hpQ s)) := by kernel_rfl

theorem sumQ : SumOk Try.prog 2 (.block 0 (.loop (loopAt 0 Try.f18))) (loopS 27 [0, 1, 5] decQ preQ outQ) := by
  refine mkFor gm_e_ok (n := 100) (m := 2) (lv := lvQ) (Λ := noLam) stQ (fun s _ => hpQ s) (fun _ _ => True) (fun s => s.m) rfl (noLam_ok _ _ _) (Nat.le_refl _) ?_ ?_
  · intro avs H s hd ho
    unfold decQ at hd
    split at hd
    · rename_i m m2 n g t n2 g2 t2
      cases hd
      simp only [preQ, ob_cons, decide_eq_true_eq] at ho
      obtain ⟨h0, h1, h2, h3, h4, h5, h6, _⟩ := ho
      have h0 := Nat.eq_of_beq_eq_true h0
      have h1 := Nat.eq_of_beq_eq_true h1
      have h2 := Nat.eq_of_beq_eq_true h2
      subst h0 h1 h2
      exact ⟨[.row false _ 8 g t, .row false _ 8 g2 t2], by kernel_rfl, .cons (ABeq.row fun j hj => allC_get h3 j hj) (.cons (ABeq.row fun j hj => allC_get h4 j hj) .nil), trivial⟩
    · cases hd
  · intro s K Q ho hk i _ him
    simp only [preQ, ob_cons, decide_eq_true_eq] at ho
    obtain ⟨_, _, _, _, _, h5, h6, _⟩ := ho
    have h6 : s.m ≤ 2 ^ 40 := h6
    show GoodQ (execC Try.prog gm_e 100 noLam (loopAt 0 Try.f18) (mkT 0 27 (stQ s i)) (hpQ s) (leafK lvQ 2)) _
    rw [rndQ, Nat.zero_add]
    refine good_cond (fun h1 => ?_) fun h1 => ?_
    · have h1 := of_decide_eq_true h1
      have h1' : i < s.m := by omega
      refine good_needs (by simp only [ob_cons, ob_nil, and_true, decide_eq_true_eq]; omega) (good_needs (by simp only [ob_cons, ob_nil, and_true]; exact sameL_get h5 h1') (good_out ⟨h1', ?_, Hsim.refl _, trivial⟩))
      rw [show IntKind.i64.wrap ((i : Int) + 1) = W ((i : Int) + 1) from rfl, w64_in (x := (i : Int) + 1) (by omega) (by omega)]
      rfl
    · refine good_out ⟨_, Hsim.refl _, ?_⟩
      rw [if_pos rfl]
      exact hk

/-- Two slices that are equal. -/
def F_eqCycS : List SA → Option FR
  | [.row m g, .row m2 g2] => some { val := .v (.bool true), obl := [Nat.beq m2 m, allC m g, allC m g2, sameL m (itC g) (itC g2), decide (m ≤ 2 ^ 40)] }
  | _ => none
def md_eqCycS : List Md := [.rd 8 46, .rd 8 46]
theorem ok_eqCycS : SpecOk Try.prog 18 (specR md_eqCycS F_eqCycS) := by
  refine mkR (n := 100) (Λ := oneL 0 (loopS 27 [0, 1, 5] decQ preQ outQ)) gm_e_ok Try.func18 rfl fun sas fr hF ho => ?_
  unfold F_eqCycS at hF
  split at hF
  · rename_i m g m2 g2
    cases hF
    simp only [ob_cons] at ho
    obtain ⟨h0, h1, h2, h3, h4, _⟩ := ho
    have h0 := Nat.eq_of_beq_eq_true h0
    subst h0
    refine ⟨[.row false m2 8 (rowC (itC g)) 46, .row false m2 8 (rowC (itC g2)) 46], .cons (ABeq.row fun j hj => allC_get h1 j hj) (.cons (ABeq.row fun j hj => allC_get h2 j hj) .nil), lam1 (by kernel_rfl) sumQ, ?_⟩
    have e : execF Try.prog gm_e (oneL 0 (loopS 27 [0, 1, 5] decQ preQ outQ)) 100 Try.f18 (avC 0 md_eqCycS [.row m2 g, .row m2 g2]) [.row false m2 8 (rowC (itC g)) 46, .row false m2 8 (rowC (itC g2)) 46] (packK 2)
      = cond ((m2 : Int) != m2) (.out .ret [.v (.bool false)] [.row false m2 8 (rowC (itC g)) 46, .row false m2 8 (rowC (itC g2)) 46])
        (needs [Nat.beq m2 m2, Nat.beq m2 m2, Nat.beq m2 m2, allC m2 (rowC (itC g)), allC m2 (rowC (itC g2)), sameL m2 (itC g) (itC g2), decide (m2 ≤ 2 ^ 40)] (.out .ret [.v (.bool true)] [.row false m2 8 (rowC (itC g)) 46, .row false m2 8 (rowC (itC g2)) 46])) := by kernel_rfl
    rw [show ([AB.row false m2 8 (rowC (itC g)) 46, AB.row false m2 8 (rowC (itC g2)) 46]).length = 2 from rfl, e]
    refine good_false (by simp) (good_needs (by simp only [ob_cons, ob_nil, allC_of (m := m2) (a := itC g) fun j _ => rfl, allC_of (m := m2) (a := itC g2) fun j _ => rfl, h3, h4, beq_me, and_self]) (good_out ⟨_, rfl, rfl, .cons (ABeq.row fun j hj => (allC_get h1 j hj).symm) (.cons (ABeq.row fun j hj => (allC_get h2 j hj).symm) .nil)⟩))
  · cases hF

end Go.Proofs.Ytkbdppnlojlcdaa
