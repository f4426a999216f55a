/- The bends. Conditions: a list of points. -/
import Derived.Test.YtkbdppnlojlcdaaL3
import Derived.Test.YtkbdppnlojlcdaaV22
namespace Go.Proofs.Ytkbdppnlojlcdaa
open Go.RowKit
set_option maxRecDepth 100000

/-- PolyValid where it says b. -/
def F_validB (b : Bool) : List SA → Option FR
  | [.row m g] => some { val := .v (.bool b), obl := [allC m g, decide (m ≤ 2 ^ 38), f_valid (itC g) m == b] }
  | _ => none
theorem validB_of {f : FuncId} (h : SpecOk Try.prog f (specR md_list F_valid)) (b : Bool) : SpecOk Try.prog f (specR md_list (F_validB b)) := by
  refine specR_case h fun sas fr hF ho => ?_
  unfold F_validB at hF
  split at hF
  · rename_i m g
    cases hF
    simp only [ob_cons] at ho
    refine ⟨[allC m g, decide (m ≤ 2 ^ 38)], ?_, by simp only [ob_cons, ob_nil, and_true]; exact ⟨ho.1, ho.2.1⟩⟩
    have : f_valid (itC g) m = b := by simpa using ho.2.2.1
    simp only [F_valid, this]
  · cases hF

def gm_y : Gam := ext (ext gm_l8Steps 31 (specR md_list (F_validB true))) 32 (specR md_list (F_validB true))
theorem gm_y_ok : GamOk Try.prog gm_y := ext_ok (ext_ok gm_l8Steps_ok (validB_of ok_valid true)) (validB_of ok_validS true)
def gm_n : Gam := ext (ext gm_l8Steps 31 (specR md_list (F_validB false))) 32 (specR md_list (F_validB false))
theorem gm_n_ok : GamOk Try.prog gm_n := ext_ok (ext_ok gm_l8Steps_ok (validB_of ok_valid false)) (validB_of ok_validS false)

abbrev w8 (f : Nat → Int) : Nat → Int := v8 (f 0) (f 1) (f 2) (f 3) (f 4) (f 5) (f 6) (f 7)
abbrev w4 (s : Nat → Int) : Nat → Int := v4 (s 0) (s 1) (s 2) (s 3)
def crossW (p q : Nat → Int) : Nat → Int := imF (mulF (mirF (w8 p)) (w8 q))
def bendV (p q : Nat → Int) : Int := sgn4 (w4 (crossW p q))
/-- The bends of the steps b. -/
def bendsF (b : Nat → Nat → Int) (m : Nat) : Nat → Int := fun i => bendV (b ((i + m - 1) % m)) (b i)
theorem cross_in (p q : Nat → Int) (k : Nat) : i64B (crossW p q k) = true := i64B_W _

/-- The place before, round the list. -/
theorem prev_at {i m : Nat} (hi : i < m) (hm : m ≤ 2 ^ 38) : (IntKind.i64.wrap (IntKind.i64.wrap ((i : Int) + m) - 1)).tmod m = (((i + m - 1) % m : Nat) : Int) := by
  have e1 : IntKind.i64.wrap ((i : Int) + m) = ((i + m : Nat) : Int) := by
    rw [show IntKind.i64.wrap ((i : Int) + m) = W ((i : Int) + m) from rfl, w64_in (by omega) (by omega)]; omega
  have e2 : IntKind.i64.wrap (((i + m : Nat) : Int) - 1) = ((i + m - 1 : Nat) : Int) := by
    rw [show IntKind.i64.wrap (((i + m : Nat) : Int) - 1) = W (((i + m : Nat) : Int) - 1) from rfl, w64_in (by omega) (by omega)]; omega
  rw [e1, e2]
  exact (Int.ofNat_tmod _ _).symm

structure PB where
  m : Nat
  m' : Nat
  k : Nat
  gb : Nat → List Value
  n : Nat
  g : Nat → List Value
  t : TypeId
abbrev prI (i m : Int) : Int := (IntKind.i64.wrap (IntKind.i64.wrap (i + m) - 1)).tmod m
abbrev lvB : Ex → List Nat := lv3 [4, 5, 6, 7] [4] []
def stB (s : PB) (i : Nat) : List (Nat × AV) := [(4, .own 1 i), (5, .own 2 s.m), (6, .v (i64 s.m)), (7, .v (i64 i))]
def hpB (s : PB) (i : Nat) : List AB := [.row false s.n 8 s.g s.t, .row true i 1 (rowI (bendsF (itC s.gb) s.m)) 3, .row true s.m 8 (rowC (itC s.gb)) 46]
def preB (s : PB) : List Bool := [Nat.beq s.m' s.m, Nat.beq s.k s.m, allC s.m s.gb, decide (s.m ≤ 2 ^ 38)]
def decB : List AV → List AB → Option PB
  | [.own 1 0, .own 2 m, .v (.int .i64 (.ofNat k)), .v (.int .i64 0)], [.row false n 8 g t, .row true 0 1 _ 3, .row true m' 8 gb 46] => some ⟨m, m', k, gb, n, g, t⟩
  | _, _ => none
def outB (s : PB) (K : Kont) : Res := K .normal (mkT 0 41 [(4, .own 1 s.m)]) [.row false s.n 8 s.g s.t, .row true s.m 1 (rowI (bendsF (itC s.gb) s.m)) 3]
theorem rndB (m : Nat) (b : Nat → Nat → Int) (n : Nat) (g : Nat → List Value) (t : TypeId) (G : Nat → List Value) (i : Nat) : execC Try.prog gm_y 100 noLam (loopAt 0 Try.f14) (mkT 0 41 [(4, .own 1 i), (5, .own 2 m), (6, .v (i64 m)), (7, .v (i64 i))]) [.row false n 8 g t, .row true i 1 G 3, .row true m 8 (rowC b) 46] (leafK lvB 1)
    = cond (decide ((i : Int) < m)) (needs [!decide ((m : Int) = 0), decide (0 ≤ prI i m), decide (prI i m < m), decide ((prI i m).toNat < m), decide ((i : Int) < m), decide (i < m), i64B (crossW (b (prI i m).toNat) (b i) 0), i64B (crossW (b (prI i m).toNat) (b i) 1), i64B (crossW (b (prI i m).toNat) (b i) 2), i64B (crossW (b (prI i m).toNat) (b i) 3), Nat.ble i i, Nat.ble (i + 1) 549755813888]
        (.out .normal (mkT 0 41 [(4, .own 1 (i + 1)), (5, .own 2 m), (6, .v (i64 m)), (7, .v (i64 (IntKind.i64.wrap ((i : Int) + 1))))]) [.row false n 8 g t, .row true (i + 1) 1 (snocR G i 1 [i64 (bendV (b (prI i m).toNat) (b i))]) 3, .row true m 8 (rowC b) 46]))
      (.out (.exit 0) (mkT 0 41 [(4, .own 1 i)]) [.row false n 8 g t, .row true i 1 G 3]) := by kernel_rfl

theorem sumB : SumOk Try.prog 1 (.block 0 (.loop (loopAt 0 Try.f14))) (loopS 41 [4, 5, 6, 7] decB preB outB) := by
  refine mkFor gm_y_ok (n := 100) (m := 1) (lv := lvB) (Λ := noLam) stB hpB (fun _ _ => True) (fun s => s.m) rfl (noLam_ok _ _ _) (Nat.le_refl _) ?_ ?_
  · intro avs H s hd ho
    unfold decB at hd
    split at hd
    · rename_i m k n g t G m' gb
      cases hd
      simp only [preB, ob_cons, decide_eq_true_eq] at ho
      obtain ⟨h1, h2, h3, h4, _⟩ := ho
      have h1 := Nat.eq_of_beq_eq_true h1
      have h2 := Nat.eq_of_beq_eq_true h2
      subst h1 h2
      exact ⟨[.row false n 8 g t, .row true 0 1 G 3, .row true _ 8 gb 46], by kernel_rfl, .cons (ABeq.refl _) (.cons (ABeq.row fun j hj => by omega) (.cons (ABeq.row fun j hj => allC_get h3 j hj) .nil)), trivial⟩
    · cases hd
  · intro s K Q ho hk i _ him
    simp only [preB, ob_cons, decide_eq_true_eq] at ho
    obtain ⟨_, _, _, hm, _⟩ := ho
    show GoodQ (execC Try.prog gm_y 100 noLam (loopAt 0 Try.f14) (mkT 0 41 [(4, .own 1 i), (5, .own 2 s.m), (6, .v (i64 s.m)), (7, .v (i64 i))]) [.row false s.n 8 s.g s.t, .row true i 1 (rowI (bendsF (itC s.gb) s.m)) 3, .row true s.m 8 (rowC (itC s.gb)) 46] (leafK lvB 1)) _
    rw [rndB]
    refine good_cond (fun h1 => ?_) fun h1 => ?_
    · have h1 := of_decide_eq_true h1
      have h1' : i < s.m := by omega
      have hml : (i + s.m - 1) % s.m < s.m := Nat.mod_lt _ (by omega)
      rw [show prI (i : Int) s.m = _ from prev_at h1' hm]
      simp only [Int.toNat_natCast]
      refine good_needs (by simp only [ob_cons, ob_nil, cross_in, and_true, true_and, decide_eq_true_eq, Bool.not_eq_true', decide_eq_false_iff_not, Nat.ble_eq]; omega) (good_out ⟨h1', ?_, ?_, trivial⟩)
      · rw [show IntKind.i64.wrap ((i : Int) + 1) = W ((i : Int) + 1) from rfl, w64_in (x := (i : Int) + 1) (by omega) (by omega)]
        rfl
      · refine .cons (ABeq.refl _) (.cons (ABeq.row fun j hj => ?_) (.cons (ABeq.refl _) .nil))
        rcases Nat.lt_or_ge j i with h | h
        · rw [snocR_lt h]
        · have : j = i := by omega
          subst this
          rw [snocR_eq (by simp)]
          rfl
    · have h1 := of_decide_eq_false h1
      have : i = s.m := by omega
      subst this
      refine good_out ⟨_, Hsim.refl _, ?_⟩
      rw [if_pos rfl]
      exact hk

theorem zero_row (a : Nat → Nat → Int) : (fun q => rowC a (0 + q)) = rowC a := by
  funext q
  rw [Nat.zero_add]

def F_bendsY : List SA → Option FR
  | [.row m g] => some { val := .tup [.own 0 m, .v (.bool true)], new := [.row true m 1 (rowI (bendsF (stepsF (itC g) m) m)) 3], obl := [allC m g, decide (m ≤ 2 ^ 38), f_valid (itC g) m == true] }
  | _ => none

theorem valid_pos {a : Nat → Nat → Int} {m : Nat} (h : (f_valid a m == true) = true) : 0 < m := by
  have : f_valid a m = true := by simpa using h
  simp only [f_valid, Bool.and_eq_true] at this
  have := inR_iff.1 this.2
  omega

theorem ok_bendsSY : SpecOk Try.prog 14 (specR md_list F_bendsY) := by
  refine mkR (n := 100) (Λ := oneL 0 (loopS 41 [4, 5, 6, 7] decB preB outB)) gm_y_ok Try.func14 rfl fun sas fr hF ho => ?_
  unfold F_bendsY at hF
  split at hF
  · rename_i m g
    cases hF
    simp only [ob_cons] at ho
    obtain ⟨h1, h2, h3, _⟩ := ho
    refine ⟨[.row false m 8 (rowC (itC g)) 46], .cons (ABeq.row fun j hj => allC_get h1 j hj) .nil, lam1 (by kernel_rfl) sumB, ?_⟩
    have e : execF Try.prog gm_y (oneL 0 (loopS 41 [4, 5, 6, 7] decB preB outB)) 100 Try.f14 (avC 0 md_list [.row m g]) [.row false m 8 (rowC (itC g)) 46] (packK 1)
      = needs [Nat.ble (0 + m) m, allC m (fun q => rowC (itC g) (0 + q)), decide (m ≤ 2 ^ 38), f_valid (itC fun q => rowC (itC g) (0 + q)) m == true, Nat.ble (0 + m) m, allC m (fun q => rowC (itC g) (0 + q)), decide (0 < m), decide (m ≤ 2 ^ 38),
          Nat.beq m m, Nat.beq m m, allC m (rowC (stepsF (itC fun q => rowC (itC g) (0 + q)) m)), decide (m ≤ 2 ^ 38)]
        (.out .ret [.tup [.own 1 m, .v (.bool true)]] [.row false m 8 (rowC (itC g)) 46, .row true m 1 (rowI (bendsF (itC (rowC (stepsF (itC fun q => rowC (itC g) (0 + q)) m))) m)) 3]) := by kernel_rfl
    rw [show ([AB.row false m 8 (rowC (itC g)) 46]).length = 1 from rfl, e, zero_row]
    have hpos := valid_pos h3
    refine good_needs ?_ (good_out ⟨_, rfl, rfl, .cons (ABeq.row fun j hj => (allC_get h1 j hj).symm) (.cons (ABeq.row fun j hj => ?_) .nil)⟩)
    · simp only [ob_cons, ob_nil, allC_of (m := m) (a := itC g) fun j _ => rfl, allC_of (m := m) (a := stepsF (itC (rowC (itC g))) m) fun j _ => rfl, h2, beq_me, and_self, and_true, true_and, Nat.zero_add, Nat.ble_eq, Nat.le_refl, decide_eq_true_eq]
      exact ⟨h3, hpos⟩
    · kernel_rfl
  · cases hF

end Go.Proofs.Ytkbdppnlojlcdaa
