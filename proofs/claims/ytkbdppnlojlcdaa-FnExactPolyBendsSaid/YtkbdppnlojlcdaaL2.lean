/- PolyValid, by the program and by the reference. Conditions: a list of points. -/
import Derived.Test.YtkbdppnlojlcdaaP4
import Derived.Test.YtkbdppnlojlcdaaS1
namespace Go.Proofs.Ytkbdppnlojlcdaa
open Go.RowKit
set_option maxRecDepth 100000

def okP (a : Nat → Nat → Int) (j : Nat) : Bool := smallF (a j) (-100) 100
def okB (a : Nat → Nat → Int) (n : Nat) : Bool := (List.range n).all fun j => okP a j
theorem okB_get {a : Nat → Nat → Int} {n j : Nat} (h : okB a n = true) (hj : j < n) : okP a j = true := List.all_eq_true.1 h j (by simpa using hj)
theorem okB_succ {a : Nat → Nat → Int} {n : Nat} (h : okB a n = true) (h1 : okP a n = true) : okB a (n + 1) = true := by
  unfold okB
  rw [List.range_succ, List.all_append]
  simp only [List.all_cons, List.all_nil, Bool.and_true, Bool.and_eq_true]
  exact ⟨h, h1⟩
theorem okB_no {a : Nat → Nat → Int} {n j : Nat} (hj : j < n) (h1 : okP a j = false) : okB a n = false := by
  cases h : okB a n with
  | false => rfl
  | true => rw [okB_get h hj] at h1; cases h1

/-- A list of points, read from its start. -/
structure PV where
  m : Nat
  n : Nat
  g : Nat → List Value
  t : TypeId
abbrev slP (m : Nat) : AV := .sl 0 8 0 0 m none
def hpPV (s : PV) : List AB := [.row false s.m 8 (rowC (itC s.g)) s.t]
def prePV (s : PV) : List Bool := [Nat.beq s.n s.m, allC s.m s.g, decide (s.m ≤ 2 ^ 38)]

abbrev lvV : Ex → List Nat := lv3 [0, 3] [0] [2]
def decV : List AV → List AB → Option PV
  | [.sl 0 8 0 0 m none, .v (.int .i64 0)], [.row false n 8 g t] => some ⟨m, n, g, t⟩
  | _, _ => none
def stV (s : PV) (i : Nat) : List (Nat × AV) := [(0, slP s.m), (3, .v (i64 i))]

def outV' (s : PV) (K : Kont) : Res := cond (okB (itC s.g) s.m) (K .normal (mkT 0 19 [(0, slP s.m)]) (hpPV s)) (K .ret (mkT 0 19 [(2, .v (.bool false))]) (hpPV s))
theorem rndV (s : PV) (i : Nat) : execC Try.prog gm_l3Sign 100 noLam (loopAt 0 Try.f32) (mkT 0 19 (stV s i)) (hpPV s) (leafK lvV 1)
    = cond (decide ((i : Int) < s.m)) (needs [decide ((i : Int) < s.m), decide (0 + i < s.m)] (cond (!okP (itC s.g) (0 + i)) (.out .ret (mkT 0 19 [(2, .v (.bool false))]) (hpPV s)) (.out .normal (mkT 0 19 [(0, slP s.m), (3, .v (i64 (W (i + 1))))]) (hpPV s))))
      (.out (.exit 0) (mkT 0 19 [(0, slP s.m)]) (hpPV s)) := by kernel_rfl

theorem pv_ok {s : PV} (ho : obls (prePV s) = true) : s.n = s.m ∧ (∀ j, j < s.m → s.g j = rowC (itC s.g) j) ∧ s.m ≤ 2 ^ 38 := by
  simp only [prePV, ob_cons, decide_eq_true_eq] at ho
  exact ⟨Nat.eq_of_beq_eq_true ho.1, allC_get ho.2.1, ho.2.2.1⟩

theorem sumV : SumOk Try.prog 1 (.block 0 (.loop (loopAt 0 Try.f32))) (loopS 19 [0, 3] decV prePV outV') := by
  refine mkFor gm_l3Sign_ok (n := 100) (m := 1) (lv := lvV) (Λ := noLam) stV (fun s _ => hpPV s) (fun s i => okB (itC s.g) i = true) (fun s => s.m) rfl (noLam_ok _ _ _) (Nat.le_refl _) ?_ ?_
  · intro avs H s hd ho
    unfold decV at hd
    split at hd
    · rename_i m n g t
      cases hd
      obtain ⟨h1, h2, h3⟩ := pv_ok ho
      simp only at h1 h2 h3
      subst h1
      exact ⟨[.row false n 8 g t], by kernel_rfl, .cons (ABeq.row h2) .nil, rfl⟩
    · cases hd
  · intro s K Q ho hk i hi him
    obtain ⟨_, _, hm⟩ := pv_ok ho
    show GoodQ (execC Try.prog gm_l3Sign 100 noLam (loopAt 0 Try.f32) (mkT 0 19 (stV s i)) (hpPV s) (leafK lvV 1)) _
    rw [rndV, Nat.zero_add]
    refine good_cond (fun h1 => ?_) fun h1 => ?_
    · have h1 := of_decide_eq_true h1
      have h1' : i < s.m := by omega
      refine good_needs (by simp only [ob_cons, ob_nil, and_true, decide_eq_true_eq]; omega) (good_cond (fun h2 => ?_) fun h2 => ?_)
      · refine good_out ⟨_, Hsim.refl _, ?_⟩
        rw [outV', okB_no h1' (by simpa using h2)] at hk
        exact hk
      · refine good_out ⟨h1', ?_, Hsim.refl _, okB_succ hi (by simpa using h2)⟩
        rw [w64_in (x := (i : Int) + 1) (by omega) (by omega)]
        rfl
    · have h1 := of_decide_eq_false h1
      have : i = s.m := by omega
      subst this
      refine good_out ⟨_, Hsim.refl _, ?_⟩
      rw [if_pos rfl]
      rw [outV', hi] at hk
      exact hk

def f_valid (a : Nat → Nat → Int) (m : Nat) : Bool := okB a m && inR m 1 48
def F_valid : List SA → Option FR
  | [.row m g] => some { val := .v (.bool (f_valid (itC g) m)), obl := [allC m g, decide (m ≤ 2 ^ 38)] }
  | _ => none
def md_list : List Md := [.rd 8 46]

theorem ok_validS : SpecOk Try.prog 32 (specR md_list F_valid) := by
  refine mkR (n := 100) (Λ := oneL 0 (loopS 19 [0, 3] decV prePV outV')) gm_l3Sign_ok Try.func32 rfl fun sas fr hF ho => ?_
  unfold F_valid at hF
  split at hF
  · rename_i m g
    cases hF
    simp only [ob_cons] at ho
    obtain ⟨h1, h2, _⟩ := ho
    refine ⟨[.row false m 8 (rowC (itC g)) 46], .cons (ABeq.row fun j hj => allC_get h1 j hj) .nil, lam1 (by kernel_rfl) sumV, ?_⟩
    have e : execF Try.prog gm_l3Sign (oneL 0 (loopS 19 [0, 3] decV prePV outV')) 100 Try.f32 (avC 0 md_list [.row m g]) [.row false m 8 (rowC (itC g)) 46] (packK 1)
      = needs [Nat.beq m m, allC m (rowC (itC g)), decide (m ≤ 2 ^ 38)] (cond (okB (itC g) m) (.out .ret [.v (.bool (inR m 1 48))] [.row false m 8 (rowC (itC g)) 46]) (.out .ret [.v (.bool false)] [.row false m 8 (rowC (itC g)) 46])) := by kernel_rfl
    rw [show ([AB.row false m 8 (rowC (itC g)) 46]).length = 1 from rfl, e]
    refine good_needs (by simp only [ob_cons, ob_nil, allC_of (m := m) (a := itC g) fun j _ => rfl, h2, beq_me, and_self]) (good_cond (fun hb => ?_) fun hb => ?_)
    · refine good_out ⟨_, rfl, ?_, .cons (ABeq.row fun j hj => (allC_get h1 j hj).symm) .nil⟩
      rw [f_valid, hb]
      rfl
    · refine good_out ⟨_, rfl, ?_, .cons (ABeq.row fun j hj => (allC_get h1 j hj).symm) .nil⟩
      rw [f_valid, hb]
      rfl
  · cases hF

/-- The place of the first that is not small. -/
def badAt (a : Nat → Nat → Int) (m : Nat) : Int := match (List.range m).find? fun j => !okP a j with
  | some j => (j : Int)
  | none => -1
theorem badAt_ge (a : Nat → Nat → Int) (m : Nat) : decide (badAt a m ≥ 0) = !okB a m := by
  unfold badAt okB
  cases h : (List.range m).find? fun j => !okP a j with
  | none =>
    have : (List.range m).all (fun j => okP a j) = true := by
      rw [List.all_eq_true]
      intro j hj
      have := List.find?_eq_none.1 h j hj
      simpa using this
    rw [this]
    rfl
  | some j =>
    have h1 := List.find?_some h
    have h2 := List.mem_of_find?_eq_some h
    have : (List.range m).all (fun j => okP a j) = false := by
      cases hb : (List.range m).all (fun j => okP a j) with
      | false => rfl
      | true => have := List.all_eq_true.1 hb j h2; simp [this] at h1
    rw [this]
    simp
theorem badAt_at {a : Nat → Nat → Int} {m i : Nat} (h : okB a i = true) (hi : i < m) (h1 : okP a i = false) : badAt a m = i := by
  have : (List.range m).find? (fun j => !okP a j) = some i := by
    rw [List.find?_range_eq_some]
    refine ⟨by simp [h1], by simpa using hi, fun j hj => ?_⟩
    simp [okB_get h hj]
  rw [badAt, this]
theorem badAt_no {a : Nat → Nat → Int} {m : Nat} (h : okB a m = true) : badAt a m = -1 := by
  have : (List.range m).find? (fun j => !okP a j) = none := by
    rw [List.find?_eq_none]
    intro j hj
    simp [okB_get h (by simpa using hj)]
  rw [badAt, this]

abbrev fnV : Value := .func (.func 74) ⟨[]⟩ ⟨[]⟩
abbrev lvX : Ex → List Nat := lv3 [0, 1, 7, 8] [] [4]
def decX : List AV → List AB → Option (PV × Nat × FuncId)
  | [.sl 0 8 0 0 m none, .v (.func (.func f) ⟨[]⟩ ⟨[]⟩), .v (.int .i64 (.ofNat k)), .v (.int .i64 0)], [.row false n 8 g t] => some (⟨m, n, g, t⟩, k, f)
  | _, _ => none
def stX (s : PV × Nat × FuncId) (i : Nat) : List (Nat × AV) := [(0, slP s.1.m), (1, .v fnV), (7, .v (i64 s.1.m)), (8, .v (i64 i))]
def preX (s : PV × Nat × FuncId) : List Bool := Nat.beq s.2.2 74 :: Nat.beq s.2.1 s.1.m :: prePV s.1
def outX (s : PV × Nat × FuncId) (K : Kont) : Res := cond (okB (itC s.1.g) s.1.m) (K .normal (mkT 0 19 []) (hpPV s.1)) (K .ret (mkT 0 19 [(4, .v (i64 (badAt (itC s.1.g) s.1.m)))]) (hpPV s.1))
noncomputable abbrev fIF : Func := Try.f104
theorem rndX (s : PV × Nat × FuncId) (i : Nat) : execC Try.prog gm_l3Sign 100 noLam (loopAt 0 fIF) (mkT 0 19 (stX s i)) (hpPV s.1) (leafK lvX 1)
    = cond (decide ((i : Int) < s.1.m)) (needs [decide ((i : Int) < s.1.m), decide (0 + i < s.1.m)] (cond (!okP (itC s.1.g) (0 + i)) (.out .ret (mkT 0 19 [(4, .v (i64 i))]) (hpPV s.1)) (.out .normal (mkT 0 19 [(0, slP s.1.m), (1, .v fnV), (7, .v (i64 s.1.m)), (8, .v (i64 (W (i + 1))))]) (hpPV s.1))))
      (.out (.exit 0) (mkT 0 19 []) (hpPV s.1)) := by kernel_rfl

theorem sumX : SumOk Try.prog 1 (.block 0 (.loop (loopAt 0 fIF))) (loopS 19 [0, 1, 7, 8] decX preX outX) := by
  refine mkFor gm_l3Sign_ok (n := 100) (m := 1) (lv := lvX) (Λ := noLam) stX (fun s _ => hpPV s.1) (fun s i => okB (itC s.1.g) i = true) (fun s => s.1.m) rfl (noLam_ok _ _ _) (Nat.le_refl _) ?_ ?_
  · intro avs H s hd ho
    unfold decX at hd
    split at hd
    · rename_i m f k n g t
      cases hd
      simp only [preX, ob_cons (b := Nat.beq _ _)] at ho
      obtain ⟨hf, hk, ho⟩ := ho
      have hf := Nat.eq_of_beq_eq_true hf
      have hk := Nat.eq_of_beq_eq_true hk
      obtain ⟨h1, h2, h3⟩ := pv_ok (s := ⟨m, n, g, t⟩) (by simpa only [prePV, ob_cons] using ho)
      simp only at h1 h2 h3
      subst h1 hf hk
      exact ⟨[.row false _ 8 g t], by kernel_rfl, .cons (ABeq.row h2) .nil, rfl⟩
    · cases hd
  · intro s K Q ho hk i hi him
    simp only [preX, ob_cons (b := Nat.beq _ _)] at ho
    obtain ⟨_, _, hm⟩ := pv_ok (s := s.1) (by simpa only [prePV, ob_cons] using ho.2.2)
    show GoodQ (execC Try.prog gm_l3Sign 100 noLam (loopAt 0 fIF) (mkT 0 19 (stX s i)) (hpPV s.1) (leafK lvX 1)) _
    rw [rndX, Nat.zero_add]
    refine good_cond (fun h1 => ?_) fun h1 => ?_
    · have h1 := of_decide_eq_true h1
      have h1' : i < s.1.m := by omega
      refine good_needs (by simp only [ob_cons, ob_nil, and_true, decide_eq_true_eq]; omega) (good_cond (fun h2 => ?_) fun h2 => ?_)
      · refine good_out ⟨_, Hsim.refl _, ?_⟩
        rw [outX, okB_no h1' (by simpa using h2), badAt_at hi h1' (by simpa using h2)] at hk
        exact hk
      · refine good_out ⟨h1', ?_, Hsim.refl _, okB_succ hi (by simpa using h2)⟩
        rw [w64_in (x := (i : Int) + 1) (by omega) (by omega)]
        rfl
    · have h1 := of_decide_eq_false h1
      have : i = s.1.m := by omega
      subst this
      refine good_out ⟨_, Hsim.refl _, ?_⟩
      rw [if_pos rfl]
      rw [outX, hi] at hk
      exact hk

def F_if : List SA → Option FR
  | [.row m g, .v (.func (.func f) ⟨[]⟩ ⟨[]⟩)] => some { val := .v (i64 (badAt (itC g) m)), obl := [Nat.beq f 74, allC m g, decide (m ≤ 2 ^ 38)] }
  | _ => none
def md_if : List Md := [.rd 8 46, .val]
theorem ok_if : SpecOk Try.prog 104 (specR md_if F_if) := by
  refine mkR (n := 100) (Λ := oneL 0 (loopS 19 [0, 1, 7, 8] decX preX outX)) gm_l3Sign_ok (fn := fIF) Try.func104 rfl fun sas fr hF ho => ?_
  unfold F_if at hF
  split at hF
  · rename_i m g f
    cases hF
    simp only [ob_cons] at ho
    obtain ⟨hf, h1, h2, _⟩ := ho
    have hf := Nat.eq_of_beq_eq_true hf
    subst hf
    refine ⟨[.row false m 8 (rowC (itC g)) 46], .cons (ABeq.row fun j hj => allC_get h1 j hj) .nil, lam1 (by kernel_rfl) sumX, ?_⟩
    have e : execF Try.prog gm_l3Sign (oneL 0 (loopS 19 [0, 1, 7, 8] decX preX outX)) 100 fIF (avC 0 md_if [.row m g, .v fnV]) [.row false m 8 (rowC (itC g)) 46] (packK 1)
      = needs [Nat.beq m m, Nat.beq m m, allC m (rowC (itC g)), decide (m ≤ 2 ^ 38)] (cond (okB (itC g) m) (.out .ret [.v (i64 (-1))] [.row false m 8 (rowC (itC g)) 46]) (.out .ret [.v (i64 (badAt (itC g) m))] [.row false m 8 (rowC (itC g)) 46])) := by kernel_rfl
    rw [show ([AB.row false m 8 (rowC (itC g)) 46]).length = 1 from rfl]
    show GoodQ (execF Try.prog gm_l3Sign (oneL 0 (loopS 19 [0, 1, 7, 8] decX preX outX)) 100 fIF (avC 0 md_if [.row m g, .v fnV]) [.row false m 8 (rowC (itC g)) 46] (packK 1)) _
    rw [e]
    refine good_needs (by simp only [ob_cons, ob_nil, allC_of (m := m) (a := itC g) fun j _ => rfl, h2, beq_me, and_self]) (good_cond (fun hb => ?_) fun hb => ?_)
    · refine good_out ⟨_, rfl, ?_, .cons (ABeq.row fun j hj => (allC_get h1 j hj).symm) .nil⟩
      rw [badAt_no hb]
    · exact good_out ⟨_, rfl, rfl, .cons (ABeq.row fun j hj => (allC_get h1 j hj).symm) .nil⟩
  · cases hF

def gm_if : Gam := ext gm_l3Sign 104 (specR md_if F_if)
theorem gm_if_ok : GamOk Try.prog gm_if := ext_ok gm_l3Sign_ok ok_if

theorem ok_valid : SpecOk Try.prog 31 (specR md_list F_valid) := by
  refine mkR (n := 100) (Λ := noLam) gm_if_ok Try.func31 rfl fun sas fr hF ho => ?_
  unfold F_valid at hF
  split at hF
  · rename_i m g
    cases hF
    simp only [ob_cons] at ho
    obtain ⟨h1, h2, _⟩ := ho
    refine ⟨[.row false m 8 (rowC (itC g)) 46], .cons (ABeq.row fun j hj => allC_get h1 j hj) .nil, noLam' _, ?_⟩
    have e : execF Try.prog gm_if noLam 100 Try.f31 (avC 0 md_list [.row m g]) [.row false m 8 (rowC (itC g)) 46] (packK 1)
      = cond (inR m 1 48) (needs [Nat.ble (0 + m) m, allC m (fun q => rowC (itC g) (0 + q)), decide (m ≤ 2 ^ 38)] (.out .ret [.v (.bool (bif decide (badAt (itC fun q => rowC (itC g) (0 + q)) m ≥ 0) then false else true))] [.row false m 8 (rowC (itC g)) 46])) (.out .ret [.v (.bool false)] [.row false m 8 (rowC (itC g)) 46]) := by kernel_rfl
    rw [show ([AB.row false m 8 (rowC (itC g)) 46]).length = 1 from rfl, e]
    have hb : badAt (itC fun q => rowC (itC g) (0 + q)) m = badAt (itC g) m := by
      have : (fun j => !okP (itC fun q => rowC (itC g) (0 + q)) j) = fun j => !okP (itC g) j := by
        funext j
        show (!okP (itC g) (0 + j)) = _
        rw [Nat.zero_add]
      unfold badAt
      rw [this]
    rw [hb, badAt_ge]
    refine good_cond (fun h3 => ?_) fun h3 => ?_
    · refine good_needs ?_ (good_out ⟨_, rfl, ?_, .cons (ABeq.row fun j hj => (allC_get h1 j hj).symm) .nil⟩)
      · simp only [ob_cons, ob_nil, Nat.zero_add, and_true]
        exact ⟨by simp, allC_of (a := itC g) fun j _ => rfl, h2⟩
      · rw [f_valid, h3]
        cases okB (itC g) m <;> rfl
    · refine good_out ⟨_, rfl, ?_, .cons (ABeq.row fun j hj => (allC_get h1 j hj).symm) .nil⟩
      rw [f_valid, h3, Bool.and_false]
  · cases hF

def gm_valid : Gam := ext gm_if 31 (specR md_list F_valid)
theorem gm_valid_ok : GamOk Try.prog gm_valid := ext_ok gm_if_ok ok_valid
def gm_validS : Gam := ext gm_valid 32 (specR md_list F_valid)
theorem gm_validS_ok : GamOk Try.prog gm_validS := ext_ok gm_valid_ok ok_validS
def gm_steps : Gam := ext gm_validS 55 (specR md_steps F_steps)
theorem gm_steps_ok : GamOk Try.prog gm_steps := ext_ok gm_validS_ok ok_steps

end Go.Proofs.Ytkbdppnlojlcdaa
